/- Parts of a proof. -/
import Derived.Test.YtjmmpfjcpdepjaaGreatDoorGAP
import Derived.Shelf.Strings.SlTrimAscii
import Derived.Shelf.Bits.Mul64
import Derived.Ground.SlgnProg
import Derived.Ground.Names2Prog
import Derived.Laws.MakeOwn
import Derived.Laws.CopyOwn
import Derived.Deep.RegionLaw
import Derived.Deep.RegionHeld3
import Derived.Laws.IdiomStrings
set_option linter.unusedVariables false
set_option linter.unusedSimpArgs false
set_option maxHeartbeats 8000000
set_option maxRecDepth 100000
namespace Go.Proofs.YtjmmpfjcpdepjaaGreatDoor
section
open Go.RowKit
theorem jd (W:World)(v:Value)(t:TypeId):(W.alloc (.cells #[v] t)).cell? ⟨W.heap.size,0,none⟩=some v:=(At.new W t #[v]).cell 0
theorem zY {q:Qn}{L:List (List Int)}(h:iF q L=0)(mi:∀c∈L,Ra c):sX q=0/\L.length<=1024/\∀c∈L,fU q.C c:=by
 unfold iF at h;by_cases h0:sX q=0
 ·rw[aac (by simpa using h0)]at h;by_cases h1:1024<(L.length:Int)
  ·rw[aae h1]at h;cases h
  ·rw[aac h1]at h;by_cases h2:(L.any (yy q.C))=true
   ·rw[aae h2]at h;cases h
   ·refine⟨h0,by omega,fun c hc=> ?_⟩;have h3:ft (q.C.aM.length:Int) c=0:=by
     by_cases h4:ft (q.C.aM.length:Int) c=0
     ·exact h4
     ·exact absurd (cq.2 ⟨c,hc,by unfold yy;simpa using h4⟩) h2
    obtain⟨k1,k2⟩:=Sv.pX (mi c hc) h3;exact⟨by unfold ft at h3;split at h3<;>omega,fun x hx=>by have :=k2 x hx;omega⟩
 ·rw[aae (by simpa using h0)]at h;exact absurd h h0
def Ul (C:Pc):List Int:=(List.range C.aM.length).flatMap fun i=>[((mh C i:Nat):Int),-((mh C i:Nat):Int)]
def rA (C:Pc):Prop:=C.aM.length<=4/\C.mx<=60
theorem Uj (C:Pc):(Ul C).length=2*C.aM.length:=by
 unfold Ul;induction C.aM.length with
 |zero=>rfl
 |succ n ih=>rw[List.range_succ,List.flatMap_append,aj,ih];simp;omega
theorem Uk {C:Pc}(hv:Valid C)(h:rA C):N7 (Ul C) (fF C 2).toNat:=by
 refine⟨by rw[Uj];have :=h.1;omega,by have :=h.2;have :=hv.m0;unfold fF;omega,fun x hx=> ?_,fun x hx=> ?_⟩
 ·unfold Ul at hx⊢;obtain⟨i,hi,hm⟩:=fv.1 hx;refine fv.2 ⟨i,hi,?_⟩;simp only[av,cd,or_false]at hm⊢;rcases hm with rfl |rfl
  ·exact .inr rfl
  ·exact .inl (by omega)
 ·have h1:=hv.m1;obtain⟨i,hi,hm⟩:=fv.1 hx;have hp:=eX hv i (cH.1 hi);have mj:mh C i=((C.aM[i]!).a/2+1).toNat:=rfl;simp only[av,cd,or_false]at hm;omega
theorem Uq {C:Pc}(hv:Valid C){n:Int}(hn:n≠0/\ -(C.aM.length:Int)<=n/\n<=C.aM.length):jp C 0 n∈Ul C:=by
 have xo:=hv.l;have ht:1<=tv n/\tv n<=C.aM.length:=by unfold tv;omega
 refine fv.2 ⟨(tv n-1).toNat,cH.2 (by omega),?_⟩;have :=DX hv hn;rw[this];split<;>simp
def CM (C:Pc)(ls:List (List Int)):List (List Int):=ls.map fun l=>l.map (jp C 0)
theorem BG {C:Pc}(hv:Valid C){ls:List (List Int)}(hl:∀c∈ls,fU C c):∀c∈CM C ls,Li (fF C 1) c/\∀x∈c,x∈Ul C:=fun c hc=>by
 obtain⟨l,qh,rfl⟩:=aG.1 hc;have hf:=hl l qh;refine⟨⟨by rw[aq];exact hf.1,fun x hx=> ?_⟩,fun x hx=> ?_⟩
 ·obtain⟨n,hn,rfl⟩:=aG.1 hx;exact tG hv (f:=0) (by omega) (hf.2 n hn)
 ·obtain⟨n,hn,rfl⟩:=aG.1 hx;exact Uq hv (hf.2 n hn)
theorem ba2 {C:Pc}(hv:Valid C):0<=fF C 2/\fF C 2<=262143/\fF C 1<=fF C 2:=by have h1:=hv.m1;have h0:=hv.m0;unfold fF;omega
theorem xk {C:Pc}(hv:Valid C){ls:List (List Int)}(hl:∀c∈ls,fU C c)(hn:ls.length<=1024):
  Sv.iT (rA C) (Ul C) (fun a=>∀c∈CM C ls,lG a c) (fF C 2).toNat 0 ls.length ((Sv.new (fF C 2)).du (CM C ls)):=by
 obtain⟨b0,b1,b2⟩:=ba2 hv;have kF:=BG hv hl;have h0:Sv.iT (rA C) (Ul C) (fun _=>True) (fF C 2).toNat 0 0 (Sv.new (fF C 2)):=by have :=Sv.iT.new (few:=rA C) (W:=Ul C) (fF C 2).toNat (by omega);rw[show(((fF C 2).toNat:Nat):Int)=fF C 2 by omega]at this;exact this
 have hlen:(CM C ls).length=ls.length:=aq ..;have h:=h0.du (ls:=CM C ls) (by omega) (fun c hc=>⟨(kF c hc).1.ra (by omega),((kF c hc).1.mono (by omega)).OE (by omega),fun _=>(kF c hc).2⟩);rw[hlen,da]at h;exact h.iff fun a=>⟨fun h=>h.2,fun h=>⟨trivial,h⟩⟩
theorem MO {C:Pc}(hv:Valid C){ls:List (List Int)}{x:List Int}(hl:∀c∈ls,fU C c)(hx:fU C x)(hn:ls.length<=1024):
  Jw ((x.map (jp C 0)).map fun y=> -y) (fun S=>S=(Sv.new (fF C 2)).du (CM C ls)) (fun _=>rA C->jD C ls x=true) (fun _=>rA C->jD C ls x=false):=by
 rintro S rfl;have hk:=xk hv hl hn;obtain⟨b0,b1,b2⟩:=ba2 hv;refine⟨by have :=hk.used;omega,true,fun _=>Bw,_,_,_,Sv.TM hk (fun h=>Uk hv h) (by omega) (by omega) (fun y hy=> ?_) (by simp;have :=hx.1;omega),fun S' r hq=> ?_⟩
 ·obtain⟨z,hz,rfl⟩:=aG.1 hy;obtain⟨n,qE,rfl⟩:=aG.1 hz;have :=tG hv (f:=0) (by omega) (hx.2 n qE);rw[show(0:Int)+1=1 from rfl]at this;omega
 ·have aed:=fun h=>MN hv hl hx h hq.2;by_cases h2:r=2
  ·rw[aae h2];intro h;rw[<-aed h,h2];rfl
  ·rw[aac h2];intro h;rw[<-aed h];simpa using h2
def HlP (q:Qn)(ls:List (List Int))(x:List Int)(w:World)(e:Ending)(w':World):Prop:=
 Fr [] w w'/\((¬iF q (ls++[x])=0/\e= .returned (.tuple #[.bool false, .int .i64 (iF q (ls++[x]))]))\/(iF q (ls++[x])=0/\∃b,e= .returned (.tuple #[.bool b, .int .i64 0])/\(rA q.C->b=jD q.C ls x)))
theorem QR {w w6 w7:World}{H:Qh}{q:Qn}(hv:Valid q.C){ls:List (List Int)}(hl:∀c∈ls,fU q.C c)(hn:ls.length<=1024){g:Nat}{L:aO}(hd:At w6 g 83 (qK H q L.a))(ho:OwnX [g] w w6 L (Sv.new (fF q.C 2)))
  {A7:Option Addr} {c7:Nat} {sY:List Ls} (FH:NwLs w7 w6.heap.size A7 c7 sY) (CQ:sY.map (·.l)=CM q.C ls) (gy:Fr [] w6 w7):
  Calls Tryz.prog 20 #[.pointer (some ⟨g,0,none⟩), .slice A7 sY.length c7] w7 fun e w8=>e= .returned (.tuple #[])/\∃L8,L8.a=L.a/\At w8 g 83 (qK H q L8.a)/\OwnX [g] w w8 L8 ((Sv.new (fF q.C 2)).du (CM q.C ls)):=by
 obtain⟨b0,b1,b2⟩:=ba2 hv;have Kc:=ho.more gy (Y:=zN A7 sY) (fun k hk=>FH.marks k hk);have hd7:=gy.at_ hd (by simp);have hlen:sY.length=ls.length:=by have :=aao List.length CQ;simpa[CM]using this
 have hc:=ru w7 (L.shut w6) _ Kc (Sv.Fit.new b0 b1) g H q hd7 (by simp) A7 c7 sY FH.JT (fun k hk=>bk _ (an _ hk)) (fun x hx k hk=>bk _ (bk _ (fv.2 ⟨x,hx,hk⟩)))
  (fun x hx=>by have h1:=(BG hv hl x.l (CQ▸aG.2 ⟨x,hx,rfl⟩)).1;exact(h1.mono (by omega)).OE (by omega)) (by omega)
 rw[CQ]at hc;refine hc.mono ?_;rintro e w8 ⟨rfl,L8,h1,h2,h3⟩;refine⟨rfl,L8,h1,?_,h2.less (fun k hk=>an _ hk)⟩;rw[h1];exact h3.at_ hd7 (by simp)
theorem QQ {w w8 w9:World}{H:Qh}{q:Qn}(m8:∀W,Fr [] w W->fH W H.H q.C)(hv:Valid q.C){ls:List (List Int)}(hl:∀c∈ls,fU q.C c)(hn:ls.length<=1024){g:Nat}{L:aO}(hd:At w8 g 83 (qK H q L.a))(ho:OwnX [g] w w8 L ((Sv.new (fF q.C 2)).du (CM q.C ls)))
  (qH:Fr [] w8 w9)(x:Ls)(hx:zy w x)(Xc:fU q.C x.l)(b o c:Nat)(hc:w9.cell? ⟨b,o,none⟩=some x.val):
  Calls Tryz.prog 22 #[.pointer (some ⟨g,0,none⟩), .slice (some ⟨b,o,none⟩) 1 c, .int .i64 0] w9 (FoP [g] w w9 L.a (fun _=>rA q.C->jD q.C ls x.l=true) (fun _=>rA q.C->jD q.C ls x.l=false)):=by
 have uU:=ho.own.fr.ag qH;have hk:=xk hv hl hn;have CO:j3 w9 (some ⟨b,o,none⟩) [x]:=⟨fun _=>⟨b,o,rfl,fun j hj=>by
  have oK:j=0:=by simpa using hj
  subst oK;exact hc⟩,fun j hj=>by
  have oK:j=0:=by simpa using hj
  subst oK;exact hx.keep uU⟩
 exact lq w9 L _ (ho.keep qH) hk.inv.ok g H q (qH.at_ hd (by simp)) (by simp) (m8 w9 uU) hv 0 (by omega) (some ⟨b,o,none⟩) c [x] CO (fun y hy=>by rw[ai.1 hy];exact Xc) (by simp)
  (fun k=>if k=0 then(fun S=>S=(Sv.new (fF q.C 2)).du (CM q.C ls))else(fun _=>rA q.C->jD q.C ls x.l=true)) _ rfl (fun k hk=>by
   have M0:k=0:=by simpa using hk
   subst M0;exact MO hv hl Xc hn)
theorem Es (w:World)(H:Qh)(q:Qn)(h:qm w H q)(A:Option Addr)(c:Nat)(hs:List Ls)(hr:j3 w A hs)(hn:A=none->c=0)(hl:hs.length<=1048576)(x:Ls)(hx:zy w x):
  Calls Tryz.prog 6 #[lD H q, .slice A hs.length c,x.val] w (HlP q (hs.map (·.l)) x.l w):=by
 obtain⟨w1,dP⟩:∃W,w.alloc (.cells (mZ H q) 30)=W:=⟨_,rfl⟩
 have cX:Fr [] w w1:=dP▸aH _ _;have dI:=aa cX;have oO:Hid (At w1 w.heap.size 30 (mZ H q)):=dP▸At.new _ _ _;have hal:∀k,k<hs.length->Ra (hs[k]!).l:=fun k hk=>(hr.2 k hk).2.1;have rD:Hid (∀c∈hs.map (·.l)++[x.l],Ra c):=fun c hc=>by
  rcases ah.1 hc with hc |hc
  ·obtain⟨y,hy,rfl⟩:=aG.1 hc;obtain⟨k,hk,rfl⟩:=List.getElem_of_mem hy;have :=hal k hk;rw[ae,af hk]at this;exact this
  ·rw[ai.1 hc];exact hx.2.1
 have KCL:=aa (fun W (hW:Fr [] w1 W)=>Cj W A c hs ((hr.keep cX).keep hW) hn (by omega));have MP:∀W,Fr [] w1 W->∀j:Nat,j<(hs++[x]).length->zy W (hs++[x])[j]! :=fun W hW=>JY (fun j hj=>((hr.2 j hj).keep cX).keep hW) (fun j hj=>by
  have :j=0:=by simp at hj;omega
  subst this;exact(hx.keep cX).keep hW)
 have lz:=aa MP;have XV:Hid (∀W,Fr [] w1 W->∀A2 c2,Lrow W A2 c2 (hs++[x])->Calls Tryz.prog 17 #[lD H q, .slice A2 (hs.length+1) c2] W fun e w'=>e= .returned (.int .i64 (iF q (hs.map (·.l)++[x.l])))/\Fr [] W w'):=fun W hW A2 c2 xm=>by have :=sJ W H q ((h.keep cX).keep hW) A2 c2 (hs++[x]) (xm.JT (MP W hW)) (by simp;omega);rw[bH,aj]at this;exact this
 obtain⟨R,hR⟩:∃R,iF q (hs.map (·.l)++[x.l])=R:=⟨_,rfl⟩
 rw[hR]at XV;have ux:(hs.map (·.l)).length=hs.length:=aq ..;have NO:Hid (∀W,¬R=0->Fr [] w W->HlP q (hs.map (·.l)) x.l w (.returned (.tuple #[.bool false, .int .i64 R])) W):=fun W h0 hW=>by subst hR;exact⟨hW, .inl ⟨h0,rfl⟩⟩
 have oh:Hid (R=0->Valid q.C/\hs.length<=1024/\(∀y∈hs,fU q.C y.l)/\fU q.C x.l/\∀(W:World) (S:Sv) (b:Bool) (L:aO) (X:List Nat),(if b=true then(rA q.C->jD q.C (hs.map (·.l)) x.l=true)else(rA q.C->jD q.C (hs.map (·.l)) x.l=false))->OwnX X w W L S->HlP q (hs.map (·.l)) x.l w (.returned (.tuple #[.bool b, .int .i64 0])) W):=fun h0=>by
  subst hR;obtain⟨k1,k2,k3⟩:=zY h0 rD.out;obtain⟨hv,_⟩:=F4 k1;refine⟨hv,by rw[aj,ux]at k2;simp at k2;omega,fun y hy=>k3 _ (an _ (aG.2 ⟨y,hy,rfl⟩)),k3 _ (bk _ (ai.2 rfl)),fun W S b L X hb ho=>⟨ho.own.fr, .inr ⟨h0,b,rfl,fun hs=> ?_⟩⟩⟩;cases b with
  |true=>exact(hb hs).symm
  |false=>exact(hb hs).symm
 have m8:=h.c;have HCI:Hid (∀W,Fr [] w W->fH W H.H q.C):=fun W hW=>m8.keep hW;have OM:=aa hr;have HX:=aa hx;have CV:Hid (Valid q.C->hs.length<=1024->(∀y∈hs,fU q.C y.l)->∀(w6:World) (g a:Nat),Fr [] w w6->At w6 g 83 (qK H q a)->Calls Tryz.prog 21 #[.pointer (some ⟨g,0,none⟩), .slice A hs.length c, .int .i64 0] w6 fun e w'=>∃A' c' sZ,e= .returned (.slice A' sZ.length c')/\NwLs w' w6.heap.size A' c' sZ/\sZ.map (·.l)=CM q.C (hs.map (·.l))/\Fr [] w6 w'):=fun hv ke kf w6 g a uq hd=>tV w6 g a H q hd (m8.keep uq) hv 0 (by omega) A c hs (hr.keep uq) kf ke;have XX:Hid (Valid q.C->∀W,Fr [] w W->Calls Tryz.prog 19 #[lD H q, .slice none 0 0] W (DlP W H q (Sv.new (fF q.C 2)))):=fun hv W hW=>py W H q (m8.keep hW) hv none 0 [] (CB.nil _ _) (fun k hk=>by cases hk) (by simp) (fun l hl=>by cases hl) (by simp);obtain⟨xA,xc,xl⟩:=x;simp only[Ls.val]at *;obtain⟨HL,hHL⟩:∃HL,HlP q (hs.map (·.l)) xl w=HL:=⟨_,rfl⟩
 rw[hHL]at NO oh⊢;have HQ:=aa (fun W (hW:Fr [] w1 W)=>jy (oO.out.keep hW));simp only[lD,mZ]at XV XX dP⊢;clear h hr hx hal MP cX m8 hR hHL ux;go_enter Tryz.func6,Tryz.ntmps6;go_upto_region 1 with fail;clear dP;refine aam ?_;refine bi (fun w':World=>Fr [] w1 w') 6 (by kernel_rfl) ((Fr.refl _ w1).drew) (fun cZ=> ?_);apply TB 3 [(0,[0,6]),(1,[]),(3,[])];kernel_rfl;rfl;· (repeat (apply eH;rfl;rfl;(· intro w bl;(try(have bl:=bl.resolve_left (aF _ _);(obtain⟨q0,q1,q2,q3,q4,q5,q6,q7,q8,q9,mL,nH,nF,nE⟩:=HQ.out _ bl)));go_simp<;>with_reducible rfl);try simp only[Act.put,q5,q6,q7]));exact eG
 exact cZ;intro cZ;have aw:=cZ.resolve_left (by decide);refine bJ (rs:=[2,4]) (by kernel_rfl) (by simp) ?_;refine aZ.cons (o:= ?an3) ?Zt ?Mr ?_;case Zt=>rfl
 case Mr=>
  intro K hK
  (go_simp;refine(KCL.out _ aw).mono ?_;rintro e w2 ⟨A2,c2,rfl,m6,iK,bW⟩;dsimp only);have mw:=aa m6;have pF:=aa iK;have cw:=aa bW;have NW:=aa aw;clear m6 iK bW
  refine hK.out _ _ (.inr ?_) (fun iS=> ?_)
  ·first |exact CF.out |exact(NW.out.ag cw.out) |exact aw.alloc _ |exact aw
  clear hK K;try simp only[Act.put,q5,q6,q7]
  refine R2 4 (by kernel_rfl) (by rfl) iS fun K hK aw=> ?_
  (have X8:=aa aw;go_simp)
  refine hK.out _ _ (.inr ?_) (fun Aw=> ?_)
  ·first |exact CF.out |exact(NW.out.ag cw.out) |exact aw.alloc _ |exact aw
  clear hK K;try simp only[Act.put,q5,q6,q7]
  refine R2 5 (by kernel_rfl) (by rfl) Aw fun K hK aw=> ?_
  (refine lP rfl _ _ rfl A2 c2 hs hs.length rfl rfl ?Qk _ 1 [⟨xA,xc,xl⟩] 1 rfl rfl (fun h=>by cases h) ?Zo (by simp;omega) ?_;(case Qk=>first |exact mw.out.keep (aH _ _) |exact mw.out);(case Zo=>intro _;refine⟨_,_,rfl,fun j hj=> ?_⟩;(have oK:j=0:=by simpa using hj);subst oK;first |exact jd _ _ _ |exact cw.out.aN (jd _ _ _));intro A4 c4 w4 MY eS VP Hq);have WE:=aa MY;have CF:=aa (aw.trans eS (fun k hk=> .inr (aE NW.out.size (pF.out k hk))));clear MY eS VP Hq
  refine hK.out _ _ (.inr ?_) (fun u6=> ?_)
  ·first |exact CF.out |exact(NW.out.ag cw.out) |exact aw.alloc _ |exact aw
  clear hK K;try simp only[Act.put,q5,q6,q7]
  refine R2 6 (by kernel_rfl) (by rfl) u6 fun K hK aw=> ?_
  (go_simp;refine(XV.out _ aw _ _ WE.out).mono ?_;rintro e w5 ⟨rfl,ev⟩;dsimp only);have kO:=aa ev;clear ev;have FQ:=aa (aw.ag kO.out)
  refine hK.out _ _ (.inl rfl) (fun vF=> ?_);clear hK K;try simp only[Act.put,q5,q6,q7]
  refine R1 (i:=7) (o:= ?WX) (by kernel_rfl) (by rfl) ?_;intro K hK;go_simp;refine hK.out _ _ (.inl rfl) (fun Km=> ?_);clear hK K;try simp only[Act.put,q5,q6,q7]
  refine aD (by kernel_rfl) ?_ _;refine NoPanic.normal ?_;have yM:=aa (dI.out.ag FQ.out);clear aw;try clear cZ
  by_cases h0:R=0
  ·obtain⟨hv,lY,kf,Xc,QM⟩:=oh.out h0;have d0:(R==(0:Int))=true:=by simpa using h0
   have ux:∀c∈hs.map (·.l),fU q.C c:=fun c hc=>by obtain⟨y,hy,rfl⟩:=aG.1 hc;exact kf y hy
   have On:(hs.map (·.l)).length<=1024:=by rw[aq];exact lY
   have HV:=aa hv;have HLM:=aa ux;have HNM:=aa On;have HXF:=aa Xc;have abn:=aa QM;have R6:=aa (CV.out hv lY kf);have RZ:=aa (XX.out hv w5 yM.out);subst h0;clear hv lY kf Xc QM ux On CV XX oh NO;obtain⟨q0,q1,q2,q3,q4,q5,q6,q7,q8,q9,mL,nH,nF,nE⟩:=HQ.out w5 FQ.out;go_wp2_with fail;refine RZ.out.mono ?_;clear RZ q0 q1 q2 q3 q4 q5 q6 q7 q8 q9 mL nH nF nE;rintro e w6 ⟨g,L6,rfl,-,hd6,MX⟩;have WN:=aa hd6;have vh:=aa (MX.zM yM.out);clear hd6 MX;have KA:=aa (R6.out w6 g L6.a vh.out.own.fr WN.out);clear R6;go_wp2_with fail;refine KA.out.mono ?_;clear KA;rintro e w7 ⟨A7,c7,sY,rfl,FH,CQ,gy⟩;have KB:=aa (QR HV.out HLM.out HNM.out WN.out vh.out FH CQ gy);clear FH CQ gy;go_wp2_with fail;refine KB.out.mono ?_;clear KB;rintro e w8 ⟨rfl,L8,-,Tp,MW⟩;have KF:=aa (QQ HCI.out HV.out HLM.out HNM.out Tp MW (aH w8 (.cells #[.slice xA xl.length xc] 22)) ⟨xA,xc,xl⟩ HX.out HXF.out w8.heap.size 0 1 (jd _ _ _));clear Tp MW;go_wp2_with fail;refine KF.out.mono ?_;clear KF;rintro e w9 ⟨S9,b,rfl,-,hb,L9,-,Qu,-⟩;have HB:=aa hb;have HO9:=aa Qu;clear hb Qu;go_wp2_with fail;exact abn.out w9 S9 b L9 [g] HB.out HO9.out
  ·have d0:(R==(0:Int))=false:=by simpa using h0
   have HN:=aa (NO.out w5 h0 yM.out);go_wp2_with fail;exact HN.out

 refine aZ.cons (o:= ?an0) ?Zr ?abP aZ.nil;case Zr=>rfl
 intro K hK
 (have X8:=aa aw;go_simp)
 refine hK.out _ _ (.inr ?_) (fun iS=> ?_)
 ·first |exact CF.out |exact(NW.out.ag cw.out) |exact aw.alloc _ |exact aw
 clear hK K;try simp only[Act.put,q5,q6,q7]
 refine R2 2 (by kernel_rfl) (by rfl) iS fun K hK aw=> ?_
 (go_simp;refine(KCL.out _ aw).mono ?_;rintro e w2 ⟨A2,c2,rfl,m6,iK,bW⟩;dsimp only);have mw:=aa m6;have pF:=aa iK;have cw:=aa bW;have NW:=aa aw;clear m6 iK bW
 refine hK.out _ _ (.inr ?_) (fun Aw=> ?_)
 ·first |exact CF.out |exact(NW.out.ag cw.out) |exact aw.alloc _ |exact aw
 clear hK K;try simp only[Act.put,q5,q6,q7]
 refine R2 5 (by kernel_rfl) (by rfl) Aw fun K hK aw=> ?_
 (refine lP rfl _ _ rfl A2 c2 hs hs.length rfl rfl ?MM _ 1 [⟨xA,xc,xl⟩] 1 rfl rfl (fun h=>by cases h) ?UF (by simp;omega) ?_;(case MM=>first |exact mw.out.keep (aH _ _) |exact mw.out);(case UF=>intro _;refine⟨_,_,rfl,fun j hj=> ?_⟩;(have oK:j=0:=by simpa using hj);subst oK;first |exact jd _ _ _ |exact cw.out.aN (jd _ _ _));intro A4 c4 w4 MY eS VP Hq);have WE:=aa MY;have CF:=aa (aw.trans eS (fun k hk=> .inr (aE NW.out.size (pF.out k hk))));clear MY eS VP Hq
 refine hK.out _ _ (.inr ?_) (fun u6=> ?_)
 ·first |exact CF.out |exact(NW.out.ag cw.out) |exact aw.alloc _ |exact aw
 clear hK K;try simp only[Act.put,q5,q6,q7]
 refine R2 6 (by kernel_rfl) (by rfl) u6 fun K hK aw=> ?_
 (go_simp;refine(XV.out _ aw _ _ WE.out).mono ?_;rintro e w5 ⟨rfl,ev⟩;dsimp only);have kO:=aa ev;clear ev;have FQ:=aa (aw.ag kO.out)
 refine hK.out _ _ (.inl rfl) (fun vF=> ?_);clear hK K;try simp only[Act.put,q5,q6,q7]
 refine R1 (i:=7) (o:= ?YF) (by kernel_rfl) (by rfl) ?_;intro K hK;go_simp;refine hK.out _ _ (.inl rfl) (fun Km=> ?_);clear hK K;try simp only[Act.put,q5,q6,q7]
 refine aD (by kernel_rfl) ?_ _;refine NoPanic.normal ?_;have yM:=aa (dI.out.ag FQ.out);clear aw;try clear cZ
 by_cases h0:R=0
 ·obtain⟨hv,lY,kf,Xc,QM⟩:=oh.out h0;have d0:(R==(0:Int))=true:=by simpa using h0
  have ux:∀c∈hs.map (·.l),fU q.C c:=fun c hc=>by obtain⟨y,hy,rfl⟩:=aG.1 hc;exact kf y hy
  have On:(hs.map (·.l)).length<=1024:=by rw[aq];exact lY
  have HV:=aa hv;have HLM:=aa ux;have HNM:=aa On;have HXF:=aa Xc;have abn:=aa QM;have R6:=aa (CV.out hv lY kf);have RZ:=aa (XX.out hv w5 yM.out);subst h0;clear hv lY kf Xc QM ux On CV XX oh NO;obtain⟨q0,q1,q2,q3,q4,q5,q6,q7,q8,q9,mL,nH,nF,nE⟩:=HQ.out w5 FQ.out;go_wp2_with fail;refine RZ.out.mono ?_;clear RZ q0 q1 q2 q3 q4 q5 q6 q7 q8 q9 mL nH nF nE;rintro e w6 ⟨g,L6,rfl,-,hd6,MX⟩;have WN:=aa hd6;have vh:=aa (MX.zM yM.out);clear hd6 MX;have KA:=aa (R6.out w6 g L6.a vh.out.own.fr WN.out);clear R6;go_wp2_with fail;refine KA.out.mono ?_;clear KA;rintro e w7 ⟨A7,c7,sY,rfl,FH,CQ,gy⟩;have KB:=aa (QR HV.out HLM.out HNM.out WN.out vh.out FH CQ gy);clear FH CQ gy;go_wp2_with fail;refine KB.out.mono ?_;clear KB;rintro e w8 ⟨rfl,L8,-,Tp,MW⟩;have KF:=aa (QQ HCI.out HV.out HLM.out HNM.out Tp MW (aH w8 (.cells #[.slice xA xl.length xc] 22)) ⟨xA,xc,xl⟩ HX.out HXF.out w8.heap.size 0 1 (jd _ _ _));clear Tp MW;go_wp2_with fail;refine KF.out.mono ?_;clear KF;rintro e w9 ⟨S9,b,rfl,-,hb,L9,-,Qu,-⟩;have HB:=aa hb;have HO9:=aa Qu;clear hb Qu;go_wp2_with fail;exact abn.out w9 S9 b L9 [g] HB.out HO9.out
 ·have d0:(R==(0:Int))=false:=by simpa using h0
  have HN:=aa (NO.out w5 h0 yM.out);go_wp2_with fail;exact HN.out
namespace Wp
def iu (c:UInt8):Bool:=c==48 ||c==49
def bits (s:List UInt8)(n:Nat):Bool:=decide (s.length=n)&&s.all iu
def of (v:List UInt8)(l:Int):UInt8:=
 let c:=if(l/2).toNat<v.length then v[(l/2).toNat]! else 48
 if l%2=1 then 97-c else c
def is (v:List UInt8)(l:Int):Bool:=of v l==49
def ins (il:List Int)(lV v:List UInt8):Nat->List UInt8
 |0=>v
 |k+1=>(ins il lV v k).set (il[k]! /2).toNat lV[k]!
def aM (ll:List T3)(st v:List UInt8):Nat->List UInt8
 |0=>v
 |k+1=>(aM ll st v k).set ((ll[k]!).a/2).toNat st[k]!
def mn (a b:UInt8):UInt8:=if b.toNat<a.toNat then b else a
def gt (al:List T3)(v:List UInt8):Nat->List UInt8
 |0=>v
 |k+1=>(gt al v k).set ((al[k]!).a/2).toNat (mn (of (gt al v k) (al[k]!).b) (of (gt al v k) (al[k]!).c))
def zr (C:Pc):List UInt8:=List.replicate (C.mx+1).toNat 48
def val (C:Pc)(st lV:List UInt8):List UInt8:=gt C.az (aM C.aM st (ins C.ins lV (zr C) C.ins.length) C.aM.length) C.az.length
def WZ (C:Pc)(st lV:List UInt8):List UInt8:=C.aM.map fun x=>of (val C st lV) x.b
def JO (x:T3)(f:UInt8):UInt8:=if x.c=x.a then f else UInt8.ofNat (48+x.c).toNat
def fst (C:Pc)(st:List UInt8):List UInt8:=(List.range C.aM.length).map fun k=>JO C.aM[k]! st[k]!
def Gb (C:Pc)(st:List UInt8)(il:List (List UInt8)):Nat->List UInt8
 |0=>st
 |k+1=>WZ C (Gb C st il k) il[k]!
def alw (C:Pc)(am:List (List Int))(v:List UInt8):Bool:= !(C.aU.any fun l=> !is v l)&& !(am.any fun c=> !(c.any fun l=>is v l))
def bad (C:Pc)(am:List (List Int))(b:Int)(st:List UInt8)(il:List (List UInt8))(k:Nat):Bool:=
 !alw C am (val C (Gb C st il k) il[k]!) || (decide (k+1=il.length)&& !is (val C (Gb C st il k) il[k]!) C.aT[b.toNat]!)
def form (C:Pc)(st:List UInt8)(il:List (List UInt8)):Int:=
 if il.length=0 then 8 else if !bits st C.aM.length ||il.any (fun s=> !bits s C.ins.length)then 5 else if fst C st=st then 0 else 9
def OE (C:Pc)(am:List (List Int))(b:Int)(st:List UInt8)(il:List (List UInt8)):Int:=
 if ¬form C st il=0 then form C st il else if(List.range il.length).any (bad C am b st il)then 51 else 0
theorem BM (il:List Int)(lV v:List UInt8):∀k,(ins il lV v k).length=v.length
 |0=>rfl
 |k+1=>by rw[ins,ao,BM il lV v k]
theorem BJ (ll:List T3)(st v:List UInt8):∀k,(aM ll st v k).length=v.length
 |0=>rfl
 |k+1=>by rw[aM,ao,BJ ll st v k]
theorem IB (al:List T3)(v:List UInt8):∀k,(gt al v k).length=v.length
 |0=>rfl
 |k+1=>by rw[gt,ao,IB al v k]
theorem FX (C:Pc)(h:0<=C.mx):(zr C).length=C.mx.toNat+1:=by simp[zr];omega
theorem JB (C:Pc)(st lV:List UInt8):(val C st lV).length=(zr C).length:=by rw[val,IB,BJ,BM]
theorem Ua (C:Pc)(st lV:List UInt8):(WZ C st lV).length=C.aM.length:=by simp[WZ]
theorem mT {s:List UInt8}{n:Nat}(h:bits s n=true):s.length=n:=by simp only[bits,ax,aal]at h;exact h.1
theorem K7 {s:List UInt8}{n:Nat}(h:bits s n=true):s.all iu=true:=by simp only[bits,ax,aal]at h;exact h.2
end Wp
end
section
open Go.Shelf
def DW:Go.Shelf.Ren:=⟨fun |160=>129 |232=>156 |231=>155 |227=>157 |234=>159 |233=>158 |236=>161 |235=>160 |228=>193 |271=>196 |151=>195 |197=>194 |120=>214 |152=>213 |260=>212 |137=>221 |119=>222 |224=>191 |225=>190 |217=>189 |266=>210 |n=>n,fun |9=>9 |4=>4 |3=>3 |5=>5 |117=>185 |116=>184 |0=>0 |124=>188 |21=>21 |105=>215 |46=>159 |119=>239 |139=>242 |138=>241 |n=>n,fun |3=>1 |4=>2 |n=>n⟩
theorem Uo:Go.Proofs.Lays.n160 Tryz.prog DW:={
 mixed:=by kernel_rfl
 f119:=Tryz.func222.trans (aao some (by kernel_rfl))
 f120:=Tryz.func214.trans (aao some (by kernel_rfl))
 f137:=Tryz.func221.trans (aao some (by kernel_rfl))
 f151:=Tryz.func195.trans (aao some (by kernel_rfl))
 f152:=Tryz.func213.trans (aao some (by kernel_rfl))
 f160:=Tryz.func129.trans (aao some (by kernel_rfl))
 f197:=Tryz.func194.trans (aao some (by kernel_rfl))
 f217:=Tryz.func189.trans (aao some (by kernel_rfl))
 f224:=Tryz.func191.trans (aao some (by kernel_rfl))
 f225:=Tryz.func190.trans (aao some (by kernel_rfl))
 f227:=Tryz.func157.trans (aao some (by kernel_rfl))
 f228:=Tryz.func193.trans (aao some (by kernel_rfl))
 f231:=Tryz.func155.trans (aao some (by kernel_rfl))
 f232:=Tryz.func156.trans (aao some (by kernel_rfl))
 f233:=Tryz.func158.trans (aao some (by kernel_rfl))
 f234:=Tryz.func159.trans (aao some (by kernel_rfl))
 f235:=Tryz.func160.trans (aao some (by kernel_rfl))
 f236:=Tryz.func161.trans (aao some (by kernel_rfl))
 f260:=Tryz.func212.trans (aao some (by kernel_rfl))
 f266:=Tryz.func210.trans (aao some (by kernel_rfl))
 f271:=Tryz.func196.trans (aao some (by kernel_rfl))
 t0:=Tryz.underlying0
 a0:=Tryz.isAgg0
 z0:=Tryz.sizeOf0
 v0:=Tryz.zeroValue0
 t3:=Tryz.underlying3
 a3:=Tryz.isAgg3
 z3:=Tryz.sizeOf3
 v3:=Tryz.zeroValue3
 t4:=Tryz.underlying4
 a4:=Tryz.isAgg4
 z4:=Tryz.sizeOf4
 v4:=Tryz.zeroValue4
 t5:=Tryz.underlying5
 a5:=Tryz.isAgg5
 z5:=Tryz.sizeOf5
 v5:=Tryz.zeroValue5
 t9:=Tryz.underlying9
 a9:=Tryz.isAgg9
 z9:=Tryz.sizeOf9
 v9:=Tryz.zeroValue9
 t21:=Tryz.underlying21
 a21:=Tryz.isAgg21
 z21:=Tryz.sizeOf21
 v21:=Tryz.zeroValue21
 t46:=Tryz.underlying159
 a46:=Tryz.isAgg159
 z46:=Tryz.sizeOf159
 v46:=Tryz.zeroValue159
 t105:=Tryz.underlying215
 a105:=Tryz.isAgg215
 z105:=Tryz.sizeOf215
 v105:=Tryz.zeroValue215
 t116:=Tryz.underlying184
 a116:=Tryz.isAgg184
 z116:=Tryz.sizeOf184
 t117:=Tryz.underlying185
 a117:=Tryz.isAgg185
 z117:=Tryz.sizeOf185
 v117:=Tryz.zeroValue185
 t119:=Tryz.underlying239
 a119:=Tryz.isAgg239
 z119:=Tryz.sizeOf239
 t124:=Tryz.underlying188
 a124:=Tryz.isAgg188
 z124:=Tryz.sizeOf188
 v124:=Tryz.zeroValue188
 t138:=Tryz.underlying241
 a138:=Tryz.isAgg241
 z138:=Tryz.sizeOf241
 v138:=Tryz.zeroValue241
 t139:=Tryz.underlying242
 a139:=Tryz.isAgg242
 z139:=Tryz.sizeOf242
 v139:=Tryz.zeroValue242
 g3:=by kernel_rfl
 g4:=by kernel_rfl }
def GM:Go.Shelf.Ren:=⟨fun |212=>134 |263=>164 |264=>165 |n=>n,fun |46=>159 |51=>191 |146=>192 |53=>194 |148=>195 |n=>n,fun |n=>n⟩
theorem YP:Go.Proofs.Lays.n212 Tryz.prog GM:={
 mixed:=by kernel_rfl
 f212:=Tryz.func134.trans (aao some (by kernel_rfl))
 f263:=Tryz.func164.trans (aao some (by kernel_rfl))
 f264:=Tryz.func165.trans (aao some (by kernel_rfl))
 t46:=Tryz.underlying159
 a46:=Tryz.isAgg159
 z46:=Tryz.sizeOf159
 v46:=Tryz.zeroValue159
 t51:=Tryz.underlying191
 a51:=Tryz.isAgg191
 z51:=Tryz.sizeOf191
 v51:=Tryz.zeroValue191
 t53:=Tryz.underlying194
 a53:=Tryz.isAgg194
 z53:=Tryz.sizeOf194
 v53:=Tryz.zeroValue194
 t146:=Tryz.underlying192
 a146:=Tryz.isAgg192
 z146:=Tryz.sizeOf192
 v146:=Tryz.zeroValue192
 t148:=Tryz.underlying195
 a148:=Tryz.isAgg195
 z148:=Tryz.sizeOf195
 v148:=Tryz.zeroValue195 }
open Go.RowKit in
theorem F8 (w:World)(s:List UInt8)(hs:s.length<=maxLen):
  Calls Tryz.prog 129 #[.string ⟨s.toArray⟩, .string ⟨#[48,49]⟩] w fun e w'=>e= .returned (.string ⟨(Lib.trimS s [48,49]).toArray⟩)/\Fr [] w w':=by
 have hz:(⟨s.toArray⟩:ByteArray).size=s.length:=by simp[ByteArray.size]
 refine(Any.strings_Trim_laid Uo (by kernel_rfl) ⟨s.toArray⟩ ⟨#[48,49]⟩ w (by rw[hz];unfold maxLen at hs;omega) (by decide) (ascii_of_all (by decide))).mono ?_;rintro e w' ⟨rfl,hb⟩;exact⟨rfl,Fr.DJ hb⟩
open Go.RowKit in
theorem LW (w:World)(x y:Nat)(hx:x<18446744073709551616)(hy:y<18446744073709551616):
  Calls Tryz.prog 134 #[.int .u64 x, .int .u64 y] w fun e w'=>e= .returned (.tuple #[.int .u64 ((x*y/18446744073709551616:Nat):Int), .int .u64 ((x*y%18446744073709551616:Nat):Int)])/\w'=w:=Any.bits_Mul YP x y hx hy w
end
section
open Go.RowKit
theorem RG {α:Type}(p:α->Bool):∀l:List α,(l.dropWhile p).all p=l.all p
 |[]=>rfl
 |a::l=>by
  by_cases h:p a=true
  ·rw[List.dropWhile_cons_of_pos h,RG p l,List.all_cons,h,fX]
  ·rw[List.dropWhile_cons_of_neg h]
theorem PI {α:Type}(p:α->Bool):∀l:List α,(l.dropWhile p).isEmpty=l.all p
 |[]=>rfl
 |a::l=>by
  by_cases h:p a=true
  ·rw[List.dropWhile_cons_of_pos h,PI p l,List.all_cons,h,fX]
  ·rw[List.dropWhile_cons_of_neg h,List.all_cons,nf.2 h];rfl
theorem Lx (s:List UInt8):(Lib.trimS s [48,49]).isEmpty=s.all Wp.iu:=by
 have e:(fun x:UInt8=>[48,49].contains x)=Wp.iu:=by funext x;simp[Wp.iu,List.contains,List.elem];cases x==48<;>cases x==49<;>rfl
 unfold Lib.trimS Lib.trimLeftS Lib.trimRightS;rw[e,PI,List.all_reverse,RG,List.all_reverse]
def sv (s:List UInt8):Value:= .string ⟨s.toArray⟩
def jm (w:World)(A:Option Addr)(c:Nat)(l:List (List UInt8)):Prop:=w.ownsRow 0 9 1 (.slice A l.length c) l.length (l.map sv)
theorem jm.keep {w w':World}{A:Option Addr}{c:Nat}{l:List (List UInt8)}(h:jm w A c l)(hf:Fr [] w w'):jm w' A c l:=hf.own h (by simp)
def RM (w:World)(A:Option Addr)(l:List (List UInt8)):Prop:=0<l.length->∃b o,A=some ⟨b,o,none⟩/\∀j:Nat,j<l.length->w.cell? ⟨b,o+j,none⟩=some (sv l[j]!)
theorem RM.keep {w w':World}{A:Option Addr}{l:List (List UInt8)}(h:RM w A l)(hf:Fr [] w w'):RM w' A l:=fun h0=>by obtain⟨b,o,hA,hc⟩:=h h0;exact⟨b,o,hA,fun j hj=>hf.aN (hc j hj)⟩
theorem RM.one {w:World}{A:Option Addr}{l:List (List UInt8)}(h:RM w A l){j:Nat}(hj:j<l.length):∃b o s,A=some ⟨b,o,none⟩/\Hid (l[j]! =s)/\w.cell? ⟨b,o+j,none⟩=some (.string ⟨s.toArray⟩):=by obtain⟨b,o,hA,hc⟩:=h (by omega);exact⟨b,o,l[j]!,hA,rfl,hc j hj⟩
theorem jm.cell {w:World}{g c:Nat}{l:List (List UInt8)}(h:jm w (some ⟨g,0,none⟩) c l){j:Nat}(hj:j<l.length):w.cell? ⟨g,j,none⟩=some (sv l[j]!):=by rw[World.ownsRow.cellAt h j (by omega)];simp only[aJ,af hj,cD,ae,ay]
theorem jm.pos {w:World}{A:Option Addr}{c:Nat}{l:List (List UInt8)}(h:jm w A c l)(h0:0<l.length):∃g,A=some ⟨g,0,none⟩:=by
 rcases h.2 with⟨_,h2⟩ |⟨g,cap,cur,hv,_⟩
 ·omega
 ·simp only[Value.slice.injEq,true_and]at hv;exact⟨g,hv.1⟩
def vT (w:World)(A:Option Addr)(c:Nat)(l:List UInt8):Prop:=w.ownsRow 0 5 1 (.slice A l.length c) l.length (Lib.byteCells l)
theorem vT.keep {w w':World}{A:Option Addr}{c:Nat}{l:List UInt8}(h:vT w A c l)(hf:Fr [] w w'):vT w' A c l:=hf.own h (by simp)
theorem vT.cell {w:World}{g c:Nat}{l:List UInt8}(h:vT w (some ⟨g,0,none⟩) c l){j:Nat}(hj:j<l.length):w.cell? ⟨g,j,none⟩=some (.int .u8 ((l[j]!).toNat:Int)):=by rw[World.ownsRow.cellAt h j (by omega)];simp[Lib.byteCells,aJ,af hj]
theorem vT.eu {w:World}{g c:Nat}{l:List UInt8}(h:vT w (some ⟨g,0,none⟩) c l)(i:Nat)(x:UInt8):vT (w.setCell ⟨g,i,none⟩ (.int .u8 (x.toNat:Int))) (some ⟨g,0,none⟩) c (l.set i x):=by have :=(World.ownsRow.stored h i (.int .u8 (x.toNat:Int))).1;unfold vT Lib.byteCells at *;rw[ao,List.map_set];exact this
def RN (w:World)(g:Nat)(l:List UInt8):Prop:=∀j:Nat,j<l.length->w.cell? ⟨g,j,none⟩=some (.int .u8 ((l[j]!).toNat:Int))
theorem RN.keep {w w':World}{g:Nat}{l:List UInt8}(h:RN w g l)(hf:Fr [] w w'):RN w' g l:=fun j hj=>hf.aN (h j hj)
theorem vT.rd {w:World}{g c:Nat}{l:List UInt8}(h:vT w (some ⟨g,0,none⟩) c l):RN w g l:=fun j hj=>h.cell hj
theorem acJ (c:UInt8):IntKind.u8.wrap (97-(c.toNat:Int))=(((97:UInt8)-c).toNat:Int):=by have h:=c.toNat_lt;rw[UInt8.toNat_sub];have h97:(97:UInt8).toNat=97:=rfl;rw[h97,IntKind.wrap_u8];omega
theorem D1:(Tryz.prog.info? 9).map (fun i=>(i.zero,i.size,i.bytes))=some (some (.string ⟨#[]⟩),1,16):=by kernel_rfl
theorem tq {w:World}{ops:Array Oper}{o:Oper}{a:Act}{K:Act->World->Prop}{Q:Exit->Act->World->Prop}{E:Prop}(ow:o.guard=none)(s x:Operand)
  (ho:o.op= .call { callee:= .builtin .append,args:=#[s,x],argTypes:=#[38,38] })(A:Option Addr)(c:Nat)(l:List (List UInt8))(n:Nat)(hs:a.eval s= .slice A n c)(hn:n=l.length)(dw:jm w A c l)
  (ad:Addr) (m d:Nat) (ms:List (List UInt8)) (hx:a.eval x= .slice (some ad) m d) (hm:m=ms.length) (hr:∀j:Nat,j<ms.length->w.cell? (ad.add j)=some (sv ms[j]!)) (hlen:l.length+ms.length<=4194304)
  (h:∀A' cap w',jm w' A' cap (l++ms)->Fr (ak A) w w'->(∀k,k∈ak A'->k∈ak A\/k=w.heap.size)->K (a.put o.dst (.slice A' (l.length+ms.length) cap)) w'):
  if Region.wanted o (yielded ops a.tmps)=true then Oper.wp Tryz.prog o a w K Q else E:=by
 have hw:Region.wanted o (yielded ops a.tmps)=true:=by simp[Region.wanted,ow]
 rw[aae hw];subst hn hm;obtain⟨A',cap,w',iV,h2,h3,h4,h5,h6,h7⟩:=eN w 38 o.type 9 (.string ⟨#[]⟩) 1 16 Tryz.underlying38 D1 rfl (by decide) A c l.length (l.map sv) dw ad ms.length d (ms.map sv) (by simp) (fun j u hu=>by
  simp only[aJ,Option.map_eq_some_iff]at hu;obtain⟨y,hy,rfl⟩:=hu;have hj:=(lH.1 hy).1;have :=hr j hj;rw[ae,hy]at this;exact this) (fun u hu=>by
  obtain⟨y,_,rfl⟩:=aG.1 hu;rfl) (by unfold maxLen;omega) (by omega)
 unfold Oper.wp execOp;simp only[ho,resolve,invoke,builtin,Sem.run_bind,Sem.run_pure,Result.andThen_ok,List.map_toArray,cj,dv,hs,hx,iV];refine h A' cap w' ?_ h3 h4;unfold jm;rw[aj,bH];exact h2
theorem Fe (n:Nat):(kk n).length=2^n:=by
 induction n with
 |zero=>rfl
 |succ n ih=>
  rw[kk,List.length_flatMap];simp only[cW,List.length_nil,List.map_const',List.sum_replicate_nat,ih];omega
def Ob (l:List (List UInt8))(k:Nat):List (List UInt8):=(l.take k).flatMap fun s=>[s++[48],s++[49]]
theorem PG (l:List (List UInt8))(k:Nat)(h:k<l.length):Ob l (k+1)=Ob l k++[l[k]! ++[48],l[k]! ++[49]]:=by unfold Ob;rw[List.take_succ_eq_append_getElem h,List.flatMap_append,ae,af h];simp
theorem JZ (l:List (List UInt8))(k:Nat)(h:k<=l.length):(Ob l k).length=2*k:=by unfold Ob;rw[List.length_flatMap];simp only[cW,List.length_nil,List.map_const',List.sum_replicate_nat,bp];omega
theorem Ub (l:List (List UInt8)):Ob l l.length=l.flatMap fun s=>[s++[48],s++[49]]:=by unfold Ob;rw[cN]
theorem GD (W:World)(u v:Value)(t:TypeId):(W.alloc (.cells #[u,v] t)).cell? ⟨W.heap.size,0,none⟩=some u:=(At.new W t #[u,v]).cell 0
theorem GC (W:World)(u v:Value)(t:TypeId):(W.alloc (.cells #[u,v] t)).cell? ⟨W.heap.size,1,none⟩=some v:=(At.new W t #[u,v]).cell 1
theorem Pe {s:List UInt8}{Z:ByteArray}(hz:(⟨s.toArray⟩:ByteArray)=Z):Z.size=s.length:=by subst hz;simp[ByteArray.size]
theorem JH (s:List UInt8)(c:UInt8):Value.string ((⟨s.toArray⟩:ByteArray)++⟨#[c]⟩)=sv (s++[c]):=by unfold sv;congr 1
theorem Gm (w:World)(n:Nat)(hn:n<=4):
  Calls Tryz.prog 10 #[.int .i64 (n:Int)] w fun e w'=>∃A c,e= .returned (.slice A (kk n).length c)/\jm w' A c (kk n)/\(∀k∈ak A,w.heap.size<=k)/\Fr [] w w':=by
 obtain⟨w1,dP⟩:∃W,w.alloc (.cells #[.string ⟨#[]⟩] 9)=W:=⟨_,rfl⟩
 have dI:Hid (Fr [] w w1):=dP▸aH _ _;have NX:Hid (jm w1 (some ⟨w.heap.size,0,none⟩) 1 (kk 0)):=by show jm _ _ _ _;rw[<-dP];exact World.ownsRow_lit w #[.string ⟨#[]⟩] 1 (bR _) (by simp[maxLen]) (by simp)
 have CI:=aa Fe;go_enter Tryz.func10,Tryz.ntmps10;go_wp2_with fail;clear dP;go_loopg [3,4,5,6] n (fun g x3 x4 x5 x6 wr=>∃(i:Nat) (A:Option Addr) (c:Nat),i+g=n/\x3= .slice A (kk i).length c/\x4= .int .i64 i/\Hid (jm wr A c (kk i))/\Hid (∀k∈ak A,w.heap.size<=k)/\Hid (Fr [] w wr));case atStart=>exact⟨0,_,_,by omega,rfl,rfl,NX,fun k hk=>by simp[ak]at hk;omega,dI⟩
 case round=>
  clear NX dI;obtain⟨i,A,c,hk,rfl,rfl,HS,zG,HF⟩:=hrel;have HK:=aa hk;have jg:i<=n:=by omega
  clear hk;by_cases bw:i<n
  ·have ml:(i:Int)<(n:Int):=by omega
   obtain⟨l,qh⟩:∃l,kk i=l:=⟨_,rfl⟩
   have ast:l.length<=16:=by rw[<-qh,CI.out];exact aE (Nat.pow_le_pow_right (by omega) (by omega:i<=4)) (by decide)
   have mW:Hid (kk (i+1)=Ob l l.length):=by show _=_;rw[Ub,<-qh];rfl
   have am2:Hid (∀s∈l,s.length=i):=fun s hs=>se (qh▸hs);rw[qh]at HS⊢;clear qh;obtain⟨wo,rfl⟩:∃x,x=wr:=⟨_,rfl⟩
   go_wp2_with fail;go_loopg [5,6] l.length (fun g x5 x6 wx=>∃(k:Nat) (A5:Option Addr) (c5:Nat),k+g=l.length/\x5= .slice A5 (Ob l k).length c5/\x6= .int .i64 k/\Hid (jm wx A5 c5 (Ob l k))/\Hid (∀k∈ak A5,wo.heap.size<=k)/\Hid (Fr [] wo wx));case atStart=>exact⟨0,none,0,by omega,rfl,rfl,World.ownsRow_nil _ 0 _ 1,fun k hk=>by simp[ak]at hk,Fr.refl _ _⟩
   case round=>
    obtain⟨k,A5,c5,hk,rfl,rfl,FQ,Sl,kO⟩:=hrel;have HK5:=aa hk;have akL:k<=l.length:=(by omega)
    clear hk;by_cases ZL:k<l.length
    ·have asl:(k:Int)<(l.length:Int):=(by omega)
     have mE:=aa (PG l k ZL);have ov:=JZ l k akL;obtain⟨b,hA⟩:=HS.out.pos (by omega);subst hA;have hcx:=aa (kO.out.aN (HS.out.cell ZL));obtain⟨s,hs⟩:∃s,l[k]! =s:=⟨_,rfl⟩
     rw[hs]at hcx mE;have Hq:s.length=i:=by rw[<-hs];exact am2.out _ (a8 ZL)
     obtain⟨Z,hZ⟩:∃Z:ByteArray,(⟨s.toArray⟩:ByteArray)=Z:=⟨_,rfl⟩
     have hz:=Pe hZ;have pr:¬9223372036854775807<Z.size+1:=(by omega)
     obtain⟨Z0,hZ0⟩:∃Z0:ByteArray,Z++⟨#[48]⟩=Z0:=⟨_,rfl⟩
     obtain⟨Z1,hZ1⟩:∃Z1:ByteArray,Z++⟨#[49]⟩=Z1:=⟨_,rfl⟩
     have Wk:Hid (Value.string Z0=sv (s++[48])):=by show _=_;rw[<-hZ0,<-hZ];exact JH s 48
     have HV1:Hid (Value.string Z1=sv (s++[49])):=by show _=_;rw[<-hZ1,<-hZ];exact JH s 49
     have HCX:Hid (wr.cell? ⟨b,k,none⟩=some (.string Z)):=by show _=_;rw[<-hZ];exact hcx
     clear hZ hz;obtain⟨m,hm⟩:∃m,Ob l k=m:=⟨_,rfl⟩
     rw[hm]at FQ mE ov⊢;clear hs hm hcx;go_upto_region 9 with fail;refine aam ?_;refine bi (fun w':World=>Fr [] wr w') 12 (by kernel_rfl) ((Fr.refl _ wr).drew) (fun cZ=> ?_);apply TB 11 [(0,[]),(1,[]),(2,[]),(3,[]),(4,[4,5,11,12]),(5,[]),(6,[]),(7,[]),(8,[]),(9,[9,10,11,12]),(10,[])];kernel_rfl;rfl;· (repeat (apply eH;rfl;rfl;(· intro w bl;(try(have bl:=bl.resolve_left (aF _ _);(have s1:=bl.aN HCX.out)));go_simp<;>with_reducible rfl);try simp only[Act.put,q5,q6,q7]));exact eG
     exact cZ;intro cZ;refine R2 11 (by kernel_rfl) (by rfl) cZ fun K hK aw=> ?_
     (have X8:=aa aw;go_simp)
     refine hK.out _ _ (.inr ?_) (fun jh=> ?_)
     ·first |exact aw.alloc _ |exact aw
     clear hK K;try simp only[Act.put,q5,q6,q7]
     refine R2 12 (by kernel_rfl) (by rfl) jh fun K hK aw=> ?_
     (refine tq rfl _ _ rfl A5 c5 m (2*k) rfl ov.symm ((FQ.out.keep X8.out).keep (aH _ _)) _ 2 2 [s++[48],s++[49]] rfl rfl ?Ih (by simp;omega) ?_;(case Ih=>intro j hj;match j,hj with |0,_=>(show _=some (sv (s++[48]));rw[<-Wk.out,dH];exact GD _ _ _ _) |1,_=>(show _=some (sv (s++[49]));rw[<-HV1.out,dH];exact GC _ _ _ _));intro A7 c7 w7 BT gy XH)
     refine hK.out _ _ (.inl rfl) (fun kH=> ?_);clear hK K;try simp only[Act.put,q5,q6,q7]
     refine R1 (i:=13) (o:= ?ai0) (by kernel_rfl) (by rfl) ?_;intro K hK;go_simp;refine hK.out _ _ (.inl rfl) (fun mq=> ?_);clear hK K;try simp only[Act.put,q5,q6,q7]
     refine aD (by kernel_rfl) ?_ _;refine NoPanic.normal ?_;have N0:Hid (jm w7 A7 c7 (Ob l (k+1))):=by show jm _ _ _ _;rw[mE.out];exact BT
     have rL:Hid (Fr [] wo w7):=((kO.out.ag X8.out).alloc _).trans gy (fun x hx=> .inr (Sl.out x hx));have HN7:Hid (∀x∈ak A7,wo.heap.size<=x):=fun x hx=>by
      rcases XH x hx with h |h
      ·exact Sl.out x h
      ·rw[h];have :=kO.out.size;have :=X8.out.size;simp at *;omega
     clear BT gy XH;go_wp2_with fail;go_roundg (gk-1);case measure=>have :=HK5.out;omega
     case rel=>exact⟨k+1,A7,c7,by have :=HK5.out;omega,by simp[JZ l (k+1) (by omega)];omega,by go_num,N0,HN7,rL⟩
    ·obtain rfl :k=l.length:=by omega
     have yM:Hid (jm wr A5 c5 (kk (i+1))):=by show jm _ _ _ _;rw[mW.out];exact FQ.out
     have jo:=aa (HF.out.ag kO.out);have HN6:Hid (∀k∈ak A5,w.heap.size<=k):=fun k hk=>aE HF.out.size (Sl.out k hk);clear HK5 FQ kO Sl;go_wp2_with fail;go_roundg (n-(i+1));case measure=>have :=HK.out;omega
     case rel=>exact⟨i+1,A5,c5,by have :=HK.out;omega,by rw[mW.out],by go_num,yM,HN6,jo⟩
  ·obtain rfl :i=n:=by omega
   clear HK;go_wp2_with fail;go_ret;exact⟨A,c,rfl,HS.out,zG.out,HF.out⟩
theorem O6 {α:Type}[Inhabited α](l:List α)(p:α->Bool)(k:Nat)(h:k<l.length):(l.take (k+1)).any p=((l.take k).any p ||p l[k]!):=by rw[List.take_succ_eq_append_getElem h,List.any_append,ae,af h];simp
theorem wg {α:Type}[Inhabited α](l:List α)(p:α->Bool)(k:Nat)(h:k<l.length):(l.take (k+1)).all p=((l.take k).all p&&p l[k]!):=by rw[List.take_succ_eq_append_getElem h,List.all_append,ae,af h];simp
theorem zX (w:World)(A:Option Addr)(c:Nat)(hs:List Ls)(hr:j3 w A hs)(hl:hs.length<=17592186044416)(s:List UInt8)(rl:s.length<=4096):
  Calls Tryz.prog 11 #[.slice A hs.length c,sv s] w fun e w'=>e= .returned (.bool (Od (hs.map (·.l)) s))/\w=w':=by
 have HH:=aa hr;obtain⟨cT,de⟩:∃cT,Od (hs.map (·.l)) s=cT:=⟨_,rfl⟩
 rw[de];have dM:Hid (hs.all (fun h=>h.l.any (je s))=cT):=by show _=_;rw[<-de];unfold Od;rw[List.all_map];rfl
 have FP:=aa (fun k (h:k<hs.length)=>wg hs (fun h=>h.l.any (je s)) k h);have FE:Hid (∀k,k<hs.length->(hs[k]!).l.any (je s)=false->cT=false):=fun k hk hf=>by rw[<-dM.out,List.all_eq_false];exact⟨_,a8 hk,by rw[hf];simp⟩
 obtain⟨Z,hZ⟩:∃Z:ByteArray,(⟨s.toArray⟩:ByteArray)=Z:=⟨_,rfl⟩
 have y9:Z.size=s.length:=by rw[<-hZ];simp[ByteArray.size]
 have HLI:Hid (∀(x:Int) (m:Nat) (h:m<Z.size),tv x=m+1->je s x=((((Z[m]).toNat:Int)==49)==decide (0<x))):=fun x m h ht=>by
  subst hZ;have hm:m<s.length:=by omega
  unfold je;rw[ht,aai (by omega:1<=(m:Int)+1),aai (by omega:(m:Int)+1<=s.length),show((m:Int)+1-1).toNat=m by omega,fX,fX];have e:(⟨s.toArray⟩:ByteArray)[m]=s[m]'hm:=rfl;rw[e,ae,af hm,ay];congr 1;rw[Bool.eq_iff_iff];simp only[beq_iff_eq];constructor
  ·intro h;rw[h];rfl
  ·intro h;apply UInt8.toNat_inj.1;have :(49:UInt8).toNat=49:=rfl;omega
 have Su:Hid (∀x:Int,¬(1<=tv x/\tv x<=(Z.size:Int))->je s x=false):=fun x h=>by
  unfold je;rw[y9]at h;by_cases h1:1<=tv x
  ·rw[aah (by omega:¬tv x<=s.length)];simp
  ·rw[aah h1];simp
 obtain⟨LI,hLI⟩:∃LI,je s=LI:=⟨_,rfl⟩
 simp only[hLI]at dM FP FE HLI Su;unfold sv;rw[hZ];have hzl:Z.size<=4096:=by omega
 clear hr de hZ hLI y9;go_enter Tryz.func11,Tryz.ntmps11;go_wp2_with fail;go_loopg [5,6,7,8,9] hs.length (fun g x5 x6 x7 x8 x9 wr=>∃k:Nat,k+g=hs.length/\x5= .int .i64 k/\Hid ((hs.take k).all (fun h=>h.l.any LI)=true)/\w=wr);case atStart=>exact⟨0,by omega,rfl,rfl,rfl⟩
 case round=>
  obtain⟨k,hk,rfl,HT,rfl⟩:=hrel;have HK:=aa hk;have jg:k<=hs.length:=by omega
  clear hk;by_cases bw:k<hs.length
  ·have ml:(k:Int)<(hs.length:Int):=by omega
   obtain⟨b,o,B,d,l,hA,he,cx,ok⟩:=HH.out.one bw;subst hA;have qh:=ok.2.2.1;have mE:=aa (FP.out k bw);have SW:=aa (FE.out k bw);rw[he.out]at mE SW;simp only at mE SW;have HR:=aa ok.1;have rD:=aa ok.2.1;clear ok;go_wp2_with fail;go_loopg [6,7,8,9] l.length (fun g x6 x7 x8 x9 wr=>∃j:Nat,j+g=l.length/\x6= .bool ((l.take j).any LI)/\x7= .int .i64 j/\w=wr);case atStart=>exact⟨0,by omega,rfl,rfl,rfl⟩
   case round=>
    obtain⟨j,hj,rfl,rfl,rfl⟩:=hrel;have HJ:=aa hj;have To:j<=l.length:=(by omega)
    clear hj;by_cases hlj:j<l.length
    ·have asp:(j:Int)<(l.length:Int):=(by omega)
     obtain⟨b2,o2,x,hB,hx,cx2,fN,gd⟩:=HR.out.one rD.out hlj;subst hB;have Wn:=aa (O6 l LI j hlj);rw[hx.out]at Wn;have HM:Hid (max x (wrap64 (-x))=tv x):=by
      show _=_;by_cases h:x<wrap64 (-x)
      ·rw[<-JD ⟨fN,gd⟩ h];omega
      ·rw[<-JE ⟨fN,gd⟩ h];omega
     obtain⟨bb,tS⟩:∃bb,(l.take j).any LI=bb:=⟨_,rfl⟩
     rw[tS]at Wn⊢;clear tS;go_upto_region 10 with fail;rw[HM.out];cases bb with
     |true=>
      have Wm:Hid ((l.take (j+1)).any LI=true):=by show _=_;rw[Wn.out];rfl
      clear Wn;go_wp2_with fail;go_roundg (gk-1);case measure=>have :=HJ.out;omega
      case rel=>exact⟨j+1,by have :=HJ.out;omega,by rw[Wm.out],by go_num,rfl⟩
     |false=>
      have Wm:Hid ((l.take (j+1)).any LI=LI x):=by show _=_;rw[Wn.out,Bool.false_or]
      clear Wn;have HF:=aa (Su.out x);have HI:=aa (fun m h=>HLI.out x m h);have htb:tv x<=9223372036854775807:=by unfold tv;omega
      obtain⟨t,ht⟩:∃t,tv x=t:=⟨_,rfl⟩
      rw[ht]at HF HI htb⊢;clear ht HM;by_cases h1:1<=t
      ·obtain⟨m,rfl⟩:∃m:Nat,t=m+1:=⟨(t-1).toNat,by omega⟩
       have d1:decide (1<=(m:Int)+1)=true:=aai h1;have dP:IntKind.i64.wrap ((m:Int)+1-1)=m:=by rw[show(m:Int)+1-1=m by omega];exact IntWalk.i64_in _ (by omega)
       by_cases h2:m<Z.size
       ·have d2:decide ((m:Int)+1<=(Z.size:Int))=true:=aai (by omega);have oG:IntKind.i64.wrap (m:Int)=m:=IntWalk.i64_in _ (by omega);have HV:Hid (LI x=((((Z[m]).toNat:Int)==49)==decide (0<x))):=HI.out m h2 rfl;obtain⟨q,hq⟩:∃q,(((Z[m]).toNat:Int)==49)=q:=⟨_,rfl⟩
        obtain⟨p,hp⟩:∃p,decide (0<x)=p:=⟨_,rfl⟩
        rw[hq,hp]at HV;clear HI HF;go_wp2_with fail;go_roundg (gk-1);case measure=>have :=HJ.out;omega
        case rel=>exact⟨j+1,by have :=HJ.out;omega,by rw[Wm.out,HV.out],by go_num,rfl⟩
       ·have d2:decide ((m:Int)+1<=(Z.size:Int))=false:=aah (by omega);have HV:Hid (LI x=false):=HF.out (by omega);clear HI HF;go_wp2_with fail;go_roundg (gk-1);case measure=>have :=HJ.out;omega
        case rel=>exact⟨j+1,by have :=HJ.out;omega,by rw[Wm.out,HV.out],by go_num,rfl⟩
      ·have d1:decide (1<=t)=false:=aah h1;have HV:Hid (LI x=false):=HF.out (by omega);clear HI HF;go_wp2_with fail;go_roundg (gk-1);case measure=>have :=HJ.out;omega
       case rel=>exact⟨j+1,by have :=HJ.out;omega,by rw[Wm.out,HV.out],by go_num,rfl⟩
    ·obtain rfl :j=l.length:=by omega
     rw[cN]at *;obtain⟨bb,tS⟩:∃bb,l.any LI=bb:=⟨_,rfl⟩
     rw[tS]at mE SW⊢;clear tS HJ;cases bb with
     |true=>
      have Wm:Hid ((hs.take (k+1)).all (fun h=>h.l.any LI)=true):=by show _=_;rw[mE.out,HT.out];rfl
      clear mE HT;go_wp2_with fail;go_roundg (hs.length-(k+1));case measure=>have :=HK.out;omega
      case rel=>exact⟨k+1,by have :=HK.out;omega,by go_num,Wm,rfl⟩
     |false=>
      have hf:=SW.out rfl;subst hf;clear mE HT;go_wp2_with fail;go_ret;exact⟨rfl,rfl⟩
  ·obtain rfl :k=hs.length:=by omega
   have hf:cT=true:=by rw[<-dM.out];have :=HT.out;rwa[cN]at this
   subst hf;clear HK HT;go_wp2_with fail;go_ret;exact⟨rfl,rfl⟩
def LB (C:Pc):Bool:=decide (C.aM.length<=4)&&decide (C.ins.length<=3)&&decide (C.mx<=60)
theorem TN {C:Pc}(h:LB C=true):rA C:=by unfold LB at h;simp only[ax,aal]at h;exact⟨h.1.1,h.2⟩
theorem Ds (w:World)(H:Hd)(C:Pc):
  Calls Tryz.prog 9 #[dj H C] w fun e w'=>e= .returned (.bool (LB C))/\Fr [] w w':=by
 have HX:=aa (Cx.start w H C);obtain⟨R,hR⟩:∃R,LB C=R:=⟨_,rfl⟩
 rw[hR];unfold LB at hR;obtain⟨mx,ins,aM,outs,aT,aU,az,bY⟩:=C;obtain⟨iA,iC,lA,lC,oA,oC,bA,bC,vA,vC,gA,gC,nA,nC⟩:=H;simp only[dj,iz]at *;obtain⟨c0,c1,c2,c3,c4,c5,c6,c7⟩:=HX.out.cells;simp only at c0 c1 c2 c3 c4 c5 c6 c7;have Sc:=aa hR;clear hR;by_cases h1:aM.length<=4
 ·have d1:decide ((aM.length:Int)<=4)=true:=aai (by omega);by_cases h2:ins.length<=3
  ·have d2:decide ((ins.length:Int)<=3)=true:=aai (by omega);have hr:decide (mx<=60)=R:=by rw[<-Sc.out,aai h1,aai h2];rfl
   clear Sc;go_enter Tryz.func9,Tryz.ntmps9;go_wp2_with fail;go_ret;exact⟨rfl,HX.out.fr⟩
  ·have d2:decide ((ins.length:Int)<=3)=false:=aah (by omega);have hr:R=false:=by rw[<-Sc.out,aah h2];simp
   subst hr;clear Sc;go_enter Tryz.func9,Tryz.ntmps9;go_wp2_with fail;go_ret;exact⟨rfl,HX.out.fr⟩
 ·have d1:decide ((aM.length:Int)<=4)=false:=aah (by omega);have hr:R=false:=by rw[<-Sc.out,aah h1];simp
  subst hr;clear Sc;go_enter Tryz.func9,Tryz.ntmps9;go_wp2_with fail;go_ret;exact⟨rfl,HX.out.fr⟩
def SZ (w:World)(g:Nat)(p0:Value)(p:List Int->Bool)(hs:List Ls):Prop:=∀W,Fr [] w W->∀h,h∈hs->zy W h->
 Calls Tryz.prog g #[p0,h.val] W fun e w'=>e= .returned (.bool (p h.l))/\Fr [] W w'
theorem BO (w:World)(A:Option Addr)(c:Nat)(hs:List Ls)(g:Nat)(p0:Value)(p:List Int->Bool)(eg:∀args w,(callFunc g args).run Tryz.prog w= .ok (.enter g args) w)(h:j3 w A hs)(hl:hs.length<=17592186044416)(hp:SZ w g p0 p hs):
  Calls Tryz.prog 51 #[.slice A hs.length c, .func (.func g) #[p0] #[]] w (zA (hs.any fun h=>p h.l) w):=by
 have HH:=aa h;have HP:=aa hp;have oh:Hid (∀(n:Nat) W,n<=17592186044416->(hs.any fun h=>p h.l)=true->Fr [] w W->zA (hs.any fun h=>p h.l) w (.returned (.int .i64 (n:Int))) W):=fun n W h1 h2 h3=>⟨n,rfl,by omega,by omega,by rw[h2];exact aai (by omega),h3⟩
 have NO:Hid (∀W,(hs.any fun h=>p h.l)=false->Fr [] w W->zA (hs.any fun h=>p h.l) w (.returned (.int .i64 (-1))) W):=fun W h2 h3=>⟨-1,rfl,by omega,by omega,by rw[h2];rfl,h3⟩
 clear h hp;go_enter Tryz.func51,Tryz.ntmps51;go_wp2_with fail;go_loopg [8] hs.length (fun g i wr=>∃k:Nat,k+g=hs.length/\i= .int .i64 k/\Fr [] w wr/\dF hs (fun h=>p h.l) k);case atStart=>exact⟨0,by omega,rfl,Fr.refl _ _,dF.zero _ _⟩
 case round=>
  obtain⟨k,hk,rfl,hx,hn⟩:=hrel;have HK:=aa hk;have HX:=aa hx;have HN:=aa hn;have jg:k<=hs.length:=by omega
  clear hk hx hn;by_cases bw:k<hs.length
  ·obtain⟨b,o,B,d,l,hA,he,cx,ok⟩:=(HH.out.keep HX.out).one bw;subst hA;obtain⟨q,HQ⟩:∃q,Hid (p l=q):=⟨_,rfl⟩
   have KC:=HP.out wr HX.out ⟨B,d,l⟩ (by rw[<-he.out];exact a8 bw) ok;have HC:Hid (Calls Tryz.prog g #[p0, .slice B l.length d] wr fun e w'=>e= .returned (.bool (p l))/\Fr [] wr w'):=KC;clear ok KC;go_wp2_with fail;refine HC.out.mono ?_;rw[HQ.out];rintro e w2 ⟨rfl,hf⟩;have HF:=aa (HX.out.ag hf);clear hf;cases q with
   |true=>
    go_wp2_with fail;go_ret;exact oh.out k _ (by omega) (kM _ _ k bw (by rw[he.out];exact HQ.out)) HF.out
   |false=>
    go_wp2_with fail;go_roundg (gk-1);case measure=>have :=HK.out;omega
    case rel=>exact⟨k+1,by have :=HK.out;omega,by go_num,HF.out,HN.out.step (by rw[he.out];exact HQ.out)⟩
  ·have HT:=aa (HN.out.all bw);clear HN HK;go_wp2_with fail;go_ret;exact NO.out _ HT.out HX.out
theorem vd (w:World)(A:Option Addr)(c:Nat)(hs:List Ls)(g:Nat)(p0:Value)(p:List Int->Bool)(eg:∀args w,(callFunc g args).run Tryz.prog w= .ok (.enter g args) w)(h:j3 w A hs)(hl:hs.length<=17592186044416)(hp:SZ w g p0 p hs):
  Calls Tryz.prog 24 #[.slice A hs.length c, .func (.func g) #[p0] #[]] w fun e w'=>e= .returned (.bool (hs.any fun h=>p h.l))/\Fr [] w w':=by
 have HC:=aa (BO w A c hs g p0 p eg h hl hp);clear h hp;go_enter Tryz.func24,Tryz.ntmps24;go_wp2_with fail;refine HC.out.mono ?_;rintro e w2 ⟨n,rfl,h1,h2,h3,hf⟩;have H3:=aa h3;have HF:=aa hf;clear h3 hf;go_wp2_with fail;go_ret;exact⟨by rw[<-H3.out];rfl,HF.out⟩
def Yk (w:World)(g:Nat)(cb:Array Value)(p:List UInt8->Bool)(hs:List (List UInt8)):Prop:=∀W,Fr [] w W->∀h,h∈hs->
 Calls Tryz.prog g (#[sv h]++cb) W fun e w'=>e= .returned (.bool (p h))/\Fr [] W w'
theorem D3 (w:World)(A:Option Addr)(c:Nat)(hs:List (List UInt8))(g:Nat)(cb:Array Value)(p:List UInt8->Bool)(eg:∀args w,(callFunc g args).run Tryz.prog w= .ok (.enter g args) w)(h:RM w A hs)(hl:hs.length<=17592186044416)(hp:Yk w g cb p hs):
  Calls Tryz.prog 130 #[.slice A hs.length c, .func (.func g) #[] cb] w (zA (hs.any fun h=>p h) w):=by
 have HH:=aa h;have HP:=aa hp;have oh:Hid (∀(n:Nat) W,n<=17592186044416->(hs.any fun h=>p h)=true->Fr [] w W->zA (hs.any fun h=>p h) w (.returned (.int .i64 (n:Int))) W):=fun n W h1 h2 h3=>⟨n,rfl,by omega,by omega,by rw[h2];exact aai (by omega),h3⟩
 have NO:Hid (∀W,(hs.any fun h=>p h)=false->Fr [] w W->zA (hs.any fun h=>p h) w (.returned (.int .i64 (-1))) W):=fun W h2 h3=>⟨-1,rfl,by omega,by omega,by rw[h2];rfl,h3⟩
 clear h hp;go_enter Tryz.func130,Tryz.ntmps130;go_wp2_with fail;go_loopg [8] hs.length (fun g i wr=>∃k:Nat,k+g=hs.length/\i= .int .i64 k/\Fr [] w wr/\dF hs (fun h=>p h) k);case atStart=>exact⟨0,by omega,rfl,Fr.refl _ _,dF.zero _ _⟩
 case round=>
  obtain⟨k,hk,rfl,hx,hn⟩:=hrel;have HK:=aa hk;have HX:=aa hx;have HN:=aa hn;have jg:k<=hs.length:=by omega
  clear hk hx hn;by_cases bw:k<hs.length
  ·obtain⟨b,o,l,hA,he,cx⟩:=(HH.out.keep HX.out).one bw;subst hA;obtain⟨q,HQ⟩:∃q,Hid (p l=q):=⟨_,rfl⟩
   have KC:=HP.out wr HX.out l (by rw[<-he.out];exact a8 bw);have HC:Hid (Calls Tryz.prog g (#[.string ⟨l.toArray⟩]++cb) wr fun e w'=>e= .returned (.bool (p l))/\Fr [] wr w'):=KC;clear KC;go_wp2_with fail;refine HC.out.mono ?_;rw[HQ.out];rintro e w2 ⟨rfl,hf⟩;have HF:=aa (HX.out.ag hf);clear hf;cases q with
   |true=>
    go_wp2_with fail;go_ret;exact oh.out k _ (by omega) (kM _ _ k bw (by rw[he.out];exact HQ.out)) HF.out
   |false=>
    go_wp2_with fail;go_roundg (gk-1);case measure=>have :=HK.out;omega
    case rel=>exact⟨k+1,by have :=HK.out;omega,by go_num,HF.out,HN.out.step (by rw[he.out];exact HQ.out)⟩
  ·have HT:=aa (HN.out.all bw);clear HN HK;go_wp2_with fail;go_ret;exact NO.out _ HT.out HX.out
theorem xU (w:World)(A:Option Addr)(c:Nat)(hs:List (List UInt8))(g:Nat)(cb:Array Value)(p:List UInt8->Bool)(eg:∀args w,(callFunc g args).run Tryz.prog w= .ok (.enter g args) w)(h:RM w A hs)(hl:hs.length<=17592186044416)(hp:Yk w g cb p hs):
  Calls Tryz.prog 100 #[.slice A hs.length c, .func (.func g) #[] cb] w fun e w'=>e= .returned (.bool (hs.any fun h=>p h))/\Fr [] w w':=by
 have HC:=aa (D3 w A c hs g cb p eg h hl hp);clear h hp;go_enter Tryz.func100,Tryz.ntmps100;go_wp2_with fail;refine HC.out.mono ?_;rintro e w2 ⟨n,rfl,h1,h2,h3,hf⟩;have H3:=aa h3;have HF:=aa hf;clear h3 hf;go_wp2_with fail;go_ret;exact⟨by rw[<-H3.out];rfl,HF.out⟩
--A method value asked of each number.
def Yl (w:World)(g:Nat)(p0:Value)(p:Int->Bool)(xs:List Int):Prop:=∀W,Fr [] w W->∀x,x∈xs->eh x->
 Calls Tryz.prog g #[p0, .int .i64 x] W fun e w'=>e= .returned (.bool (p x))/\Fr [] W w'
theorem D5 (w:World)(A:Option Addr)(c:Nat)(xs:List Int)(g:Nat)(p0:Value)(p:Int->Bool)(eg:∀args w,(callFunc g args).run Tryz.prog w= .ok (.enter g args) w)(h:Rd w A xs)(hr:Ra xs)(hl:xs.length<=17592186044416)(hp:Yl w g p0 p xs):
  Calls Tryz.prog 97 #[.slice A xs.length c, .func (.func g) #[p0] #[]] w (zA (xs.any p) w):=by
 have HH:=aa h;have HR:=aa hr;have HP:=aa hp;have oh:Hid (∀(n:Nat) W,n<=17592186044416->xs.any p=true->Fr [] w W->zA (xs.any p) w (.returned (.int .i64 (n:Int))) W):=fun n W h1 h2 h3=>⟨n,rfl,by omega,by omega,by rw[h2];exact aai (by omega),h3⟩
 have NO:Hid (∀W,xs.any p=false->Fr [] w W->zA (xs.any p) w (.returned (.int .i64 (-1))) W):=fun W h2 h3=>⟨-1,rfl,by omega,by omega,by rw[h2];rfl,h3⟩
 clear h hr hp;go_enter Tryz.func97,Tryz.ntmps97;go_wp2_with fail;go_loopg [8] xs.length (fun g i wr=>∃k:Nat,k+g=xs.length/\i= .int .i64 k/\Fr [] w wr/\dF xs p k);case atStart=>exact⟨0,by omega,rfl,Fr.refl _ _,dF.zero _ _⟩
 case round=>
  obtain⟨k,hk,rfl,hx,hn⟩:=hrel;have HK:=aa hk;have HX:=aa hx;have HN:=aa hn;have jg:k<=xs.length:=by omega
  clear hk hx hn;by_cases bw:k<xs.length
  ·obtain⟨b,o,x,hA,he,cx,fN,gd⟩:=(HH.out.keep HX.out).one HR.out bw;subst hA;obtain⟨q,HQ⟩:∃q,Hid (p x=q):=⟨_,rfl⟩
   have HC:=aa (HP.out wr HX.out x (by rw[<-he.out];exact a8 bw) ⟨fN,gd⟩);go_wp2_with fail;refine HC.out.mono ?_;rw[HQ.out];rintro e w2 ⟨rfl,hf⟩;have HF:=aa (HX.out.ag hf);clear hf;cases q with
   |true=>
    go_wp2_with fail;go_ret;exact oh.out k _ (by omega) (kM _ _ k bw (by rw[he.out];exact HQ.out)) HF.out
   |false=>
    go_wp2_with fail;go_roundg (gk-1);case measure=>have :=HK.out;omega
    case rel=>exact⟨k+1,by have :=HK.out;omega,by go_num,HF.out,HN.out.step (by rw[he.out];exact HQ.out)⟩
  ·have HT:=aa (HN.out.all bw);clear HN HK;go_wp2_with fail;go_ret;exact NO.out _ HT.out HX.out
theorem xV (w:World)(A:Option Addr)(c:Nat)(xs:List Int)(g:Nat)(p0:Value)(p:Int->Bool)(eg:∀args w,(callFunc g args).run Tryz.prog w= .ok (.enter g args) w)(h:Rd w A xs)(hr:Ra xs)(hl:xs.length<=17592186044416)(hp:Yl w g p0 p xs):
  Calls Tryz.prog 54 #[.slice A xs.length c, .func (.func g) #[p0] #[]] w fun e w'=>e= .returned (.bool (xs.any p))/\Fr [] w w':=by
 have HC:=aa (D5 w A c xs g p0 p eg h hr hl hp);clear h hr hp;go_enter Tryz.func54,Tryz.ntmps54;go_wp2_with fail;refine HC.out.mono ?_;rintro e w2 ⟨n,rfl,h1,h2,h3,hf⟩;have H3:=aa h3;have HF:=aa hf;clear h3 hf;go_wp2_with fail;go_ret;exact⟨by rw[<-H3.out];rfl,HF.out⟩
theorem iM (w:World)(s:List UInt8)(n:Nat)(hs:s.length<=maxLen)(hn:n<=17592186044416):
  Calls Tryz.prog 99 #[.string ⟨s.toArray⟩, .int .i64 n] w fun e w'=>e= .returned (.bool (Wp.bits s n))/\Fr [] w w':=by
 obtain⟨r,hr⟩:∃r,Wp.bits s n=r:=⟨_,rfl⟩
 rw[hr];have HR:=aa hr;have ou:(⟨s.toArray⟩:ByteArray).size=s.length:=by simp[ByteArray.size]
 have KT:=aa (F8 w s hs);obtain⟨z,hz⟩:∃z,Lib.trimS s [48,49]=z:=⟨_,rfl⟩
 rw[hz]at KT;have HZ:=aa (Lx s);rw[hz]at HZ;obtain⟨b,hb⟩:∃b:ByteArray,⟨s.toArray⟩=b:=⟨_,rfl⟩
 obtain⟨y,hy⟩:∃y:ByteArray,⟨z.toArray⟩=y:=⟨_,rfl⟩
 rw[hb]at KT ou⊢;rw[hy]at KT;have HY:Hid (y.toList.isEmpty=s.all Wp.iu):=by show _=_;rw[<-HZ.out,<-hy,Lib.toList_data]
 rw[maxLen]at hs;clear hr hz hb hy HZ;by_cases hl:s.length=n
 ·have d:((b.size:Int)==(n:Int))=true:=by rw[beq_iff_eq];omega
  have Tl:r=y.toList.isEmpty:=by rw[HY.out,<-HR.out];unfold Wp.bits;simp[hl]
  have HRE:=aa Tl;have m6:(s.length:Int)=(n:Int):=by omega
  clear Tl HR HY hl;go_enter Tryz.func99,Tryz.ntmps99;go_wp2_with fail;refine KT.out.mono ?_;rintro e w2 ⟨rfl,hf⟩;have HF:=aa hf;clear hf;go_wp2_with fail;go_ret;exact⟨by rw[HRE.out];rfl,HF.out⟩
 ·have d:((b.size:Int)==(n:Int))=false:=by rw[aar];omega
  have Tl:r=false:=by rw[<-HR.out];unfold Wp.bits;simp[hl]
  subst Tl;have m6:¬(s.length:Int)=(n:Int):=by omega
  clear HR HY;go_enter Tryz.func99,Tryz.ntmps99;go_wp2_with fail;go_ret;exact⟨rfl,Fr.refl _ _⟩
theorem PB (v:List UInt8)(l:Int):∃c:UInt8,Hid (Wp.of v l=if l%2=1 then 97-c else c)/\Hid ((l/2).toNat<v.length->c=v[(l/2).toNat]!)/\Hid (¬(l/2).toNat<v.length->c=48):=
 ⟨if(l/2).toNat<v.length then v[(l/2).toNat]! else 48,rfl,fun h=>aae h,fun h=>aac h⟩
theorem pI (w:World)(g c:Nat)(v:List UInt8)(l:Int)(hb:RN w g v)(h0:0<=l)(h1:l<=9000)(hv:v.length<=4096):
  Calls Tryz.prog 106 #[.slice (some ⟨g,0,none⟩) v.length c, .int .i64 l] w fun e w'=>e= .returned (.int .u8 ((Wp.of v l).toNat:Int))/\w=w':=by
 obtain⟨x,HX,jH,gh⟩:=PB v l;rw[HX.out];obtain⟨n,hn⟩:∃n:Nat,l/2=n:=⟨(l/2).toNat,by omega⟩
 have yB:(l/2).toNat=n:=by omega
 rw[yB]at jH gh;obtain⟨q,hq⟩:∃q,(l%2==1)=q:=⟨_,rfl⟩
 have KV:=aa (fun W=>jc W l h0 (by omega));have KN:=aa (fun W=>pR W l h0 (by omega));rw[hn]at KV;rw[hq]at KN;have HQ:Hid ((if l%2=1 then 97-x else x)=if q=true then 97-x else x):=by show _=_;rw[<-hq];simp
 rw[HQ.out];have HS:=aa (acJ x);clear hn yB hq HX HQ;by_cases bw:n<v.length
 ·have hc:=hb n bw;rw[<-jH.out bw]at hc;clear hb jH gh;go_enter Tryz.func106,Tryz.ntmps106;go_wp2_with fail;refine(KV.out _).mono ?_;rintro e w1 ⟨rfl,rfl⟩;go_wp2_with fail;refine(KN.out _).mono ?_;rintro e w1 ⟨rfl,rfl⟩;cases q with
  |true=>
   go_wp2_with fail;go_ret;exact⟨by rw[<-HS.out];rfl,rfl⟩
  |false=>
   go_wp2_with fail;go_ret;exact⟨rfl,rfl⟩
 ·have hx:=gh.out bw;subst hx;clear hb jH gh;go_enter Tryz.func106,Tryz.ntmps106;go_wp2_with fail;refine(KV.out _).mono ?_;rintro e w1 ⟨rfl,rfl⟩;go_wp2_with fail;refine(KN.out _).mono ?_;rintro e w1 ⟨rfl,rfl⟩;cases q with
  |true=>
   go_wp2_with fail;go_ret;exact⟨rfl,rfl⟩
  |false=>
   go_wp2_with fail;go_ret;exact⟨rfl,rfl⟩
theorem Gc (w:World)(g c:Nat)(v:List UInt8)(l:Int)(x:UInt8)(hb:vT w (some ⟨g,0,none⟩) c v)(h0:0<=l)(h1:(l/2).toNat<v.length)(hv:v.length<=4096):
  Calls Tryz.prog 105 #[.slice (some ⟨g,0,none⟩) v.length c, .int .i64 l, .int .u8 (x.toNat:Int)] w fun e w'=>e= .returned (.tuple #[])/\vT w' (some ⟨g,0,none⟩) c (v.set (l/2).toNat x)/\Fr [g] w w':=by
 obtain⟨n,hn⟩:∃n:Nat,l/2=n:=⟨(l/2).toNat,by omega⟩
 have yB:(l/2).toNat=n:=by omega
 rw[yB]at h1⊢;have KV:=aa (fun W=>jc W l h0 (by omega));rw[hn]at KV;have HB:=aa hb;have hc:=hb.cell h1;have tN:w.frozen? ⟨g,n,none⟩=false:=World.ownsRow.frozenAt hb n;clear hn yB hb;go_enter Tryz.func105,Tryz.ntmps105;go_wp2_with fail;refine(KV.out _).mono ?_;rintro e w1 ⟨rfl,rfl⟩;go_wp2_with fail;go_end0;exact⟨rfl,HB.out.eu n x,(Fr.refl _ _).setCell (.inl (by simp)) _⟩
theorem Mj:(Tryz.prog.info? 5).map (fun i=>(i.zero,i.size,i.bytes))=some (some (.int .u8 0),1,1):=by kernel_rfl
theorem yU (W:World)(n:Nat)(h1:n<=1099511627776):
  (Instr.makeSlice 142 (.int .i64 (n:Int)) (.int .i64 (n:Int))).run Tryz.prog W= .ok (.slice (some ⟨W.heap.size,0,none⟩) n n) (W.alloc (.cells (madeCells #[.int .u8 0] n) 5)):=by
 obtain⟨i0,hi,vy,nN,za⟩:=info_parts Mj;have hr:=run_make (P:=Tryz.prog) W 142 5 i0 (.int .u8 0) Tryz.underlying142 hi vy .i64 .i64 n n (by omega) (my _) (by rw[za];omega) (by omega);simp only[Int.toNat_natCast]at hr⊢;rw[nN,ku]at hr;exact hr
theorem JG:(Tryz.prog.info? 5).map (·.size)=some 1:=by kernel_rfl
def Fh (w:World)(g N n:Nat):Prop:=∃cur:List Value,w.heap[g]? =some (.cells cur.toArray 5 (0,0))/\cur.length=N/\∀j:Nat,j<n->cur[j]? =some (.int .u8 48)
theorem Fh.start (W:World)(N:Nat):Fh (W.alloc (.cells (madeCells #[.int .u8 0] N) 5)) W.heap.size N 0:=
 ⟨(madeCells #[.int .u8 0] N).toList,by rw[Array.toArray_toList];exact heap_alloc_new W _,by rw[toList_madeCells_one];simp,fun j hj=>absurd hj (aI _)⟩
theorem Fh.row {w:World}{g N:Nat}(h:Fh w g N N)(hN:N<=4096):vT w (some ⟨g,0,none⟩) N (List.replicate N 48):=by
 obtain⟨cur,h1,h2,h3⟩:=h;refine⟨by simp[Lib.byteCells], .inr ⟨g,N,cur.toArray,by simp,bR _,h1,by simp,by unfold maxLen;omega,by simp[h2],?_⟩⟩;refine List.ext_getElem? fun j=> ?_;simp only[aW,ku];rw[List.getElem?_take];by_cases hj:j<N
 ·rw[aae hj,h3 j hj];simp[Lib.byteCells,hj]
 ·rw[aac hj];simp[Lib.byteCells,hj]
theorem zL {cur:List Value}{N n m:Nat}(hl:cur.length=N)(h:∀j:Nat,j<n->cur[j]? =some (.int .u8 48))(hn:n<=N)(hm:n+m<=N):
  (splice cur n (List.replicate m (.int .u8 48))).length=N/\∀j:Nat,j<n+m->(splice cur n (List.replicate m (.int .u8 48)))[j]? =some (.int .u8 48):=by
 refine⟨by rw[length_splice _ _ _ (by simp;omega),hl],fun j hj=> ?_⟩;unfold splice;by_cases h1:j<n
 ·rw[cJ (by simp;omega),List.getElem?_take,aae h1];exact h j h1
 ·rw[eO (by simp;omega),cJ (by simp;omega),List.getElem?_replicate,aae (by simp;omega)]
theorem Bv (w:World)(b c N:Nat)(hc:w.cell? ⟨b,0,none⟩=some (.int .u8 48))(h0:1<=N)(hN:N<=4096):
  Calls Tryz.prog 104 #[.slice (some ⟨b,0,none⟩) 1 c, .int .i64 (N:Int)] w fun e w'=>∃g,e= .returned (.slice (some ⟨g,0,none⟩) N N)/\vT w' (some ⟨g,0,none⟩) N (List.replicate N 48)/\w.heap.size<=g/\Fr [] w w':=by
 have KM:Hid (∀W,Calls Tryz.prog 134 #[.int .u64 1, .int .u64 (N:Int)] W fun e w'=>e= .returned (.tuple #[.int .u64 0, .int .u64 (N:Int)])/\w'=W):=fun W=>by have :=LW W 1 N (by decide) (by omega);rw[Nat.one_mul,Nat.div_eq_of_lt (by omega),Nat.mod_eq_of_lt (by omega)]at this;exact this
 have HC:=aa hc;have FI:=yU w N (by omega);have HZ:=aa (Fh.start w N);obtain⟨w1,dP⟩:∃W,w.alloc (.cells (madeCells #[.int .u8 0] N) 5)=W:=⟨_,rfl⟩
 have dI:Hid (Below w.heap.size w w1):=dP▸(Below.refl _ w).alloc (ap _) _;have xu:w1.cell? ⟨b,0,none⟩=some (.int .u8 48):=(dP▸(Fr.refl [] w).alloc _:Fr [] w w1).aN hc;rw[dP]at FI HZ;obtain⟨g,hg⟩:∃g,w.heap.size=g:=⟨_,rfl⟩
 rw[hg]at FI HZ dI⊢;clear hc dP;go_enter Tryz.func104,Tryz.ntmps104;go_wp2_with fail;refine(KM.out _).mono ?_;rintro e w2 ⟨rfl,rfl⟩;obtain⟨cur,VK,od,hcz⟩:=HZ.out;have Ti:=zL (m:=1) od hcz (bR _) (by omega);have R9:=aa Ti;have AJ:=aa od;clear Ti hcz HZ;have hA1:[Value.int .u8 48].length=Nat.min 1 N:=(j4 h0).symm;have hA2:∀j v,[Value.int .u8 48][j]? =some v->w1.cell? ((Addr.mk b 0 none).add j)=some v:=fun j v hj=>by
  match j,hj with
  |0,hj=>simp at hj;subst hj;exact xu
 have hA3:0+[Value.int .u8 48].length<=cur.length:=by have :=AJ.out;simp;omega
 have hA4:∀v∈[Value.int .u8 48],v.oneCell'=true:=by simp[Value.oneCell']
 have TF:=aa hA1;have C1:=aa hA2;have HA3:=aa hA3;have HA4:=aa hA4;clear hA1 hA2 hA3 hA4;have HCU:=aa VK;clear VK od;go_wp2_with ((refine wpList_copy_splice rfl _ _ 142 142 rfl 5 Tryz.underlying142 JG (some ⟨g,0,none⟩) (some ⟨b,0,none⟩) N N 1 c rfl rfl g 0 cur 5 HCU.out [.int .u8 48] TF.out (fun _=>⟨rfl,⟨b,0,none⟩,rfl,C1.out⟩) HA3.out HA4.out g w2 dI.out (ap _) ?_;intro w3 xp Ng))
 have HZ3:Hid (Fh w3 g N 1):=⟨_,xp.out,R9.out.1,R9.out.2⟩
 have OU:=aa Ng;clear xp Ng R9 HCU AJ xu FI dI HC KM TF C1 HA3 HA4;go_wp2_with fail;go_loopg [8] (N-1) (fun gk v wr=>∃n:Nat,n+gk=N/\v= .int .i64 n/\1<=n/\Hid (Fh wr g N n)/\Hid (Below g w2 wr));case atStart=>exact⟨1,by omega,rfl,ap _,HZ3,OU⟩
 case round=>
  clear HZ3 OU;obtain⟨n,hk,rfl,ke,HZ,HB⟩:=hrel;have HK:=aa hk;have jg:n<=N:=by omega
  clear hk;by_cases bw:n<N
  ·obtain⟨cur,VK,od,hcz⟩:=HZ.out;obtain⟨m,hm⟩:∃m,Nat.min n (N-n)=m:=⟨_,rfl⟩
   have mz:1<=m/\n+m<=N/\m<=n:=by rw[<-hm];have :Nat.min n (N-n)=min n (N-n):=rfl;omega
   have R9:=aa (zL (m:=m) od hcz jg mz.2.1);have HCZ:=aa hcz;clear hcz HZ;go_upto_region 9 with fail;have dS:¬N=n:=by omega
   have asf:¬n=N:=by omega
   have tf:Hid ((List.replicate m (Value.int .u8 48)).length=Nat.min n (N-n)):=by show _=_;rw[aW,hm]
   have qc:Hid (∀W:World,W.heap[g]? =some (.cells cur.toArray 5 (0,0))->∀j v,(List.replicate m (Value.int .u8 48))[j]? =some v->W.cell? ((Addr.mk g 0 none).add j)=some v):=fun W hW j v hj=>by
    obtain⟨hj1,rfl⟩:j<m/\v= .int .u8 48:=by
     rw[List.getElem?_replicate]at hj;split at hj
     ·exact⟨by assumption,by cases hj;rfl⟩
     ·cases hj
    have e:(Addr.mk g 0 none).add j=⟨g,j,none⟩:=(by rw[Wb,da])
    rw[e,Lib.cell_of_heap hW];simpa using HCZ.out j (by omega)
   have AH:Hid (n+(List.replicate m (Value.int .u8 48)).length<=cur.length):=by show _<=_;rw[aW,od];exact mz.2.1
   have CY:Hid (∀v∈List.replicate m (Value.int .u8 48),v.oneCell'=true):=fun v hv=>by rw[List.eq_of_mem_replicate hv];rfl
   have HM:=aa mz;clear hm od HCZ mz;obtain⟨rs,iy⟩:∃rs,List.replicate m (Value.int .u8 48)=rs:=⟨_,rfl⟩
   have OM:Hid (rs.length=m):=by show _=_;rw[<-iy,aW]
   rw[iy]at tf qc AH CY R9;clear iy;refine aam ?_;refine bi (fun w':World=>w'.heap[g]? =some (.cells cur.toArray 5 (0,0))/\Below g w2 w') 7 (by kernel_rfl) (⟨VK,HB.out.drew⟩) (fun cZ=> ?_);apply TB 7 [(0,[]),(1,[]),(2,[]),(3,[]),(4,[]),(5,[]),(6,[])];kernel_rfl;rfl;· (repeat (apply eH;rfl;rfl;(· intro w bl;go_simp<;>with_reducible rfl);try simp only[Act.put,q5,q6,q7]));exact eG
   exact cZ;intro cZ;refine R2 7 (by kernel_rfl) (by rfl) cZ fun K hK aw=> ?_
   (refine step_copy_splice rfl _ _ 142 142 rfl 5 Tryz.underlying142 JG (some ⟨g,n,none⟩) (some ⟨g,0,none⟩) (N-n) (N-n) n N rfl rfl g n cur 5 aw.1 rs tf.out (fun _=>⟨rfl,⟨g,0,none⟩,rfl,qc.out _ aw.1⟩) AH.out CY.out g w2 aw.2 (ap _) ?_);intro w4 BV VP
   refine hK.out _ _ (.inl rfl) (fun Km=> ?_);clear hK K;try simp only[Act.put,q5,q6,q7]
   apply TB 1 [(8,[])];kernel_rfl;rfl;· (repeat (apply eH;rfl;rfl;(· intro w bl;go_simp<;>with_reducible rfl);try simp only[Act.put,q5,q6,q7]));exact eG
   exact Km;intro Km;refine R1 (i:=9) (o:= ?ai1) (by kernel_rfl) (by rfl) ?_;intro K hK;go_simp;refine hK.out _ _ (.inl rfl) (fun js=> ?_);clear hK K;try simp only[Act.put,q5,q6,q7]
   refine aD (by kernel_rfl) ?_ _;refine NoPanic.normal ?_;have HZ4:Hid (Fh w4 g N (n+m)):=⟨_,BV.out,R9.out.1,R9.out.2⟩
   have m9:=aa VP;have HMM:=HM.out;try rw[OM.out]
   clear BV VP cZ OM R9 tf qc AH CY;have nO:IntKind.i64.wrap ((n:Int)+(m:Int))=(n:Int)+(m:Int):=IntWalk.i64_in _ (by omega);go_wp2_with fail;go_roundg (gk-m);case measure=>have :=HK.out;omega
   case rel=>exact⟨n+m,by have :=HK.out;omega,by go_num,by omega,HZ4,m9⟩
  ·obtain rfl :n=N:=by omega
   go_wp2_with fail;go_ret;exact⟨g,rfl,HZ.out.row hN,ap _,Fr.DJ (hg▸HB.out)⟩
theorem pY (w:World)(H:Hd)(C:Pc)(h:fH w H C)(hv:Valid C):
  Calls Tryz.prog 23 #[dj H C] w fun e w'=>e= .returned (.int .i64 0)/\Fr [] w w':=(l8 w H C h).mono fun e w' ⟨h1,h2⟩=>by
 rcases h1 with⟨h3,_⟩ |⟨_,h3⟩
 ·exact⟨h3,h2⟩
 ·exact absurd hv h3
theorem Lv {C:Pc}(h:Valid C)(j:Nat)(hj:j<C.ins.length):2<=C.ins[j]! /\C.ins[j]! <=2*C.mx:=by have :=dT h C.ins[j]! (by rw[ae,af hj];simp only[cK,ah,ay];exact .inl (.inl (j5 hj)));omega
theorem F3 {C:Pc}(h:Valid C)(j:Nat)(hj:j<C.az.length):2<=(C.az[j]!).a/\(C.az[j]!).a<=2*C.mx/\0<=(C.az[j]!).b/\(C.az[j]!).b<=2*C.mx+1/\0<=(C.az[j]!).c/\(C.az[j]!).c<=2*C.mx+1:=by have h1:=dT h (C.az[j]!).a (by rw[ae,af hj];simp only[cK,ah,aG,ay];exact .inr ⟨_,j5 hj,rfl⟩);have h2:=h.az j hj;unfold Fd at h2;simp only[ax]at h2;have h3:=gO h h2.1.2;have h4:=gO h h2.2;omega
theorem Ga {s:List UInt8}{Z:ByteArray}(hz:(⟨s.toArray⟩:ByteArray)=Z)(k:Nat)(h:k<Z.size):((Z[k]).toNat:Int)=((s[k]!).toNat:Int):=by
 subst hz;have hk:k<s.length:=by simpa[ByteArray.size]using h
 have e:(⟨s.toArray⟩:ByteArray)[k]=s[k]'hk:=rfl;rw[e,ae,af hk];rfl
theorem pH {s:List UInt8}{Z:ByteArray}(hz:(⟨s.toArray⟩:ByteArray)=Z):Z.size=s.length:=by subst hz;simp[ByteArray.size]
theorem YJ (a b:UInt8):min (a.toNat:Int) (b.toNat:Int)=((Wp.mn a b).toNat:Int):=by unfold Wp.mn;split<;>omega
structure Vx (w wr:World)(H:Hd)(C:Pc)(g c:Nat)(v:List UInt8):Prop where
 fr:Fr [] w wr
 bx:At wr w.heap.size 27 (iz H C)
 row:vT wr (some ⟨g,0,none⟩) c v
 new:w.heap.size<g
theorem Vx.keep {w wr wr':World}{H:Hd}{C:Pc}{g c:Nat}{v:List UInt8}(h:Vx w wr H C g c v)(hf:Fr [] wr wr'):Vx w wr' H C g c v:=⟨h.fr.ag hf,hf.at_ h.bx (by simp),h.row.keep hf,h.new⟩
theorem Vx.put {w wr wr':World}{H:Hd}{C:Pc}{g c:Nat}{v v':List UInt8}(h:Vx w wr H C g c v)(hf:Fr [g] wr wr')(hr:vT wr' (some ⟨g,0,none⟩) c v'):Vx w wr' H C g c v':=
 ⟨h.fr.trans hf (fun x hx=> .inr (by have :=h.new;simp at hx;omega)),hf.at_ h.bx (by have :=h.new;simp;omega),hr,h.new⟩
theorem Vx.cells {w wr:World}{H:Hd}{C:Pc}{g c:Nat}{v:List UInt8}(h:Vx w wr H C g c v):wr.cell? ⟨w.heap.size,0,none⟩=some (.int .i64 C.mx)/\wr.cell? ⟨w.heap.size,1,none⟩=some (.slice H.iA C.ins.length H.iC)/\wr.cell? ⟨w.heap.size,2,none⟩=some (.slice H.lA C.aM.length H.lC)/\wr.cell? ⟨w.heap.size,6,none⟩=some (.slice H.gA C.az.length H.gC):=by refine⟨?_,?_,?_,?_⟩<;>(rw[h.bx.cell];rfl)
theorem qx (w:World)(H:Hd)(C:Pc)(h:fH w H C)(hv:Valid C)(st lV:List UInt8)(gU:Wp.bits st C.aM.length=true)(kF:Wp.bits lV C.ins.length=true):
  Calls Tryz.prog 63 #[dj H C,sv st,sv lV] w fun e w'=>e= .returned (.tuple #[sv (Wp.val C st lV), .int .i64 0])/\Fr [] w w':=by
 have HX:=aa (Cx.start w H C);have akS:=hv.i;have xo:=hv.l;have rl:=Wp.mT gU;have m7:=Wp.mT kF;have KC:=aa (fun W (hW:Fr [] w W)=>pY W H C (h.keep hW) hv);have KB1:=aa (fun W=>iM W st C.aM.length (by unfold maxLen;omega) (by omega));have KB2:=aa (fun W=>iM W lV C.ins.length (by unfold maxLen;omega) (by omega));rw[gU]at KB1;rw[kF]at KB2;obtain⟨M,hM⟩:∃M:Nat,C.mx=M:=⟨C.mx.toNat,by have :=hv.m0;omega⟩
 have hM2:M<=2048:=by have :=hv.m1;omega
 have HZL:Hid ((Wp.zr C).length=M+1):=by show _=_;rw[Wp.FX C hv.m0];omega
 have HZR:Hid (List.replicate (M+1) 48=Wp.zr C):=by show _=_;unfold Wp.zr;rw[show(C.mx+1).toNat=M+1 by omega]
 have KRP:=aa (fun W b c hc=>Bv W b c (M+1) hc (by omega) (by omega));rw[HZR.out]at KRP;rw[show((M+1:Nat):Int)=(M:Int)+1 by omega]at KRP;have KIN:=aa (fun W (hW:Fr [] w W) k (hk:k<C.ins.length)=>(h.keep hW).i.one (h.keep hW).ir hk);have XW:=aa (fun W (hW:Fr [] w W) k (hk:k<C.aM.length)=>(h.keep hW).l.one (h.keep hW).lr hk);have KGT:=aa (fun W (hW:Fr [] w W) k (hk:k<C.az.length)=>(h.keep hW).g.one (h.keep hW).gr hk);have HRI:=aa (fun k (hk:k<C.ins.length)=>Lv hv k hk);have OM:=aa (fun k (hk:k<C.aM.length)=>eX hv k hk);have HRG:=aa (fun k (hk:k<C.az.length)=>F3 hv k hk);rw[hM]at HRI OM HRG;have aaQ:Hid (∀(W:World) (g:Nat) (v:List UInt8) (l:Int) (x:UInt8),vT W (some ⟨g,0,none⟩) (M+1) v->v.length=M+1->0<=l->l<=2*(M:Int)+1->Calls Tryz.prog 105 #[.slice (some ⟨g,0,none⟩) (M+1) (M+1), .int .i64 l, .int .u8 (x.toNat:Int)] W fun e w'=>e= .returned (.tuple #[])/\vT w' (some ⟨g,0,none⟩) (M+1) (v.set (l/2).toNat x)/\Fr [g] W w'):=fun W g v l x hb hl h0 h1=>by have :=Gc W g (M+1) v l x hb h0 (by omega) (by omega);rw[hl]at this;exact this
 have KOF:Hid (∀(W:World) (g:Nat) (v:List UInt8) (l:Int),vT W (some ⟨g,0,none⟩) (M+1) v->v.length=M+1->0<=l->l<=2*(M:Int)+1->Calls Tryz.prog 106 #[.slice (some ⟨g,0,none⟩) (M+1) (M+1), .int .i64 l] W fun e w'=>e= .returned (.int .u8 ((Wp.of v l).toNat:Int))/\W=w'):=fun W g v l hb hl h0 h1=>by have :=pI W g (M+1) v l hb.rd h0 (by omega) (by omega);rw[hl]at this;exact this
 have KCV:Hid (∀(W:World) (g:Nat) (v:List UInt8),vT W (some ⟨g,0,none⟩) (M+1) v->v.length=M+1->(convert 143 9 (.slice (some ⟨g,0,none⟩) (M+1) (M+1))).run Tryz.prog W= .ok (sv v) W):=fun W g v hb hl=>by have :=run_convert_bytes_back (P:=Tryz.prog) W 143 9 5 ⟨g,0,none⟩ (M+1) v Tryz.underlying143 Tryz.underlying5 Tryz.underlying9 (fun j hj=>by have :=hb.cell hj;rw[ae,af hj,ay]at this;rw[dH];simpa using this);rw[hl]at this;exact this
 obtain⟨VAL,aan⟩:∃VAL,Wp.val C st lV=VAL:=⟨_,rfl⟩
 rw[aan];have NU:Hid (Wp.gt C.az (Wp.aM C.aM st (Wp.ins C.ins lV (Wp.zr C) C.ins.length) C.aM.length) C.az.length=VAL):=aan;obtain⟨ZR,hZR⟩:∃ZR,Wp.zr C=ZR:=⟨_,rfl⟩
 rw[hZR]at HZL HZR KRP NU;have HLI:Hid (∀k,(Wp.ins C.ins lV ZR k).length=M+1):=fun k=>by rw[Wp.BM];exact HZL.out
 obtain⟨VI,hVI⟩:∃VI,Wp.ins C.ins lV ZR=VI:=⟨_,rfl⟩
 have HVI:Hid (VI 0=ZR/\∀k x,C.ins[k]! =x->VI (k+1)=(VI k).set (x/2).toNat lV[k]!):=by refine⟨by rw[<-hVI];rfl,fun k x hx=> ?_⟩;rw[<-hVI,Wp.ins,hx]
 rw[hVI]at HLI NU;have pB:Hid (∀k,(Wp.aM C.aM st (VI C.ins.length) k).length=M+1):=fun k=>by rw[Wp.BJ];exact HLI.out _
 obtain⟨VL,hVL⟩:∃VL,Wp.aM C.aM st (VI C.ins.length)=VL:=⟨_,rfl⟩
 have HVL:Hid (VL 0=VI C.ins.length/\∀k x y z,C.aM[k]! =⟨x,y,z⟩->VL (k+1)=(VL k).set (x/2).toNat st[k]!):=by refine⟨by rw[<-hVL];rfl,fun k x y z hx=> ?_⟩;rw[<-hVL,Wp.aM,hx]
 rw[hVL]at pB NU;have vQ:Hid (∀k,(Wp.gt C.az (VL C.aM.length) k).length=M+1):=fun k=>by rw[Wp.IB];exact pB.out _
 obtain⟨VG,hVG⟩:∃VG,Wp.gt C.az (VL C.aM.length)=VG:=⟨_,rfl⟩
 have HVG:Hid (VG 0=VL C.aM.length/\∀k x y z,C.az[k]! =⟨x,y,z⟩->VG (k+1)=(VG k).set (x/2).toNat (Wp.mn (Wp.of (VG k) y) (Wp.of (VG k) z))):=by refine⟨by rw[<-hVG];rfl,fun k x y z hx=> ?_⟩;rw[<-hVG,Wp.gt,hx]
 rw[hVG]at vQ NU;obtain⟨Z1,hZ1⟩:∃Z1:ByteArray,(⟨st.toArray⟩:ByteArray)=Z1:=⟨_,rfl⟩
 obtain⟨Z2,VQ⟩:∃Z2:ByteArray,(⟨lV.toArray⟩:ByteArray)=Z2:=⟨_,rfl⟩
 have nN:=pH hZ1;have za:=pH VQ;have HG1:=aa (fun k h=>Ga hZ1 k h);have n8:=aa (fun k h=>Ga VQ k h);obtain⟨ZV,XJ⟩:∃ZV:ByteArray,(⟨VAL.toArray⟩:ByteArray)=ZV:=⟨_,rfl⟩
 unfold sv;rw[hZ1,VQ,XJ];have HZV:=aa XJ;have pu:=h.gL;rw[hZ1]at KB1;rw[VQ]at KB2;have ajY:Z1.size=C.aM.length:=by omega
 have ajX:Z2.size=C.ins.length:=by omega
 clear h hv gU kF rl m7 aan hZR hVI hVL hVG hZ1 VQ XJ nN za HZR;obtain⟨mx,ins,aM,outs,aT,aU,az,bY⟩:=C;obtain⟨iA,iC,lA,lC,oA,oC,bA,bC,vA,vC,gA,gC,nA,nC⟩:=H;simp only[dj,iz]at *;obtain⟨c0,c1,c2,c3,c4,c5,c6,c7⟩:=HX.out.cells;try simp only at c0 c1 c2 c3 c4 c5 c6 c7
 try simp only at hM ajY ajX
 subst hM;go_enter Tryz.func63,Tryz.ntmps63;go_wp2_with fail;refine(KC.out _ HX.out.fr).mono ?_;rintro e w1 ⟨rfl,cX⟩;have jH:=aa (HX.out.keep cX);obtain⟨e0,e1,e2,e3,e4,e5,e6,e7⟩:=jH.out.cells;try simp only at e0 e1 e2 e3 e4 e5 e6 e7
 clear cX c0 c1 c2 c3 c4 c5 c6 c7 KC HX;go_wp2_with fail;refine(KB1.out _).mono ?_;rintro e w2 ⟨rfl,bW⟩;have gh:=aa (jH.out.keep bW);clear bW e0 e1 e2 e3 e4 e5 e6 e7 KB1 jH;obtain⟨e0,e1,e2,e3,e4,e5,e6,e7⟩:=gh.out.cells;try simp only at e0 e1 e2 e3 e4 e5 e6 e7
 go_wp2_with fail;refine(KB2.out _).mono ?_;rintro e w3 ⟨rfl,dh⟩;have ly:=aa (gh.out.keep dh);clear dh e0 e1 e2 e3 e4 e5 e6 e7 KB2 gh;obtain⟨wb,fh⟩:∃W,w3.alloc (.cells #[.int .u8 48] 5)=W:=⟨_,rfl⟩
 have CW:Hid (Cx w wb ⟨iA,iC,lA,lC,oA,oC,bA,bC,vA,vC,gA,gC,nA,nC⟩ ⟨(M:Int),ins,aM,outs,aT,aU,az,bY⟩):=ly.out.keep (fh▸aH _ _);have afH:Hid (Calls Tryz.prog 104 #[.slice (some ⟨w3.heap.size,0,none⟩) 1 1, .int .i64 ((M:Int)+1)] wb fun e w'=>∃g,e= .returned (.slice (some ⟨g,0,none⟩) (M+1) (M+1))/\vT w' (some ⟨g,0,none⟩) (M+1) ZR/\wb.heap.size<=g/\Fr [] wb w'):=KRP.out wb w3.heap.size 1 (by rw[<-fh];exact(At.new w3 5 #[.int .u8 48]).cell 0);clear KRP;obtain⟨e0,e1,e2,e3,e4,e5,e6,e7⟩:=CW.out.cells;try simp only at e0 e1 e2 e3 e4 e5 e6 e7
 have hwm:IntKind.i64.wrap ((M:Int)+1)=(M:Int)+1:=IntWalk.i64_in _ (by omega);go_wp2_with fail;refine afH.out.mono ?_;clear afH e0 e1 e2 e3 e4 e5 e6 e7;rintro e w4 ⟨g,rfl,Xr,BV,eS⟩;have HV4:Hid (Vx w w4 ⟨iA,iC,lA,lC,oA,oC,bA,bC,vA,vC,gA,gC,nA,nC⟩ ⟨(M:Int),ins,aM,outs,aT,aU,az,bY⟩ g (M+1) (VI 0)):=by show Vx _ _ _ _ _ _ _;rw[HVI.out.1];have :=CW.out.fr.size;exact⟨CW.out.fr.ag eS,eS.at_ CW.out.bx (by simp),Xr,by have :=CW.out.bx.lt;omega⟩
 clear Xr BV eS CW fh;obtain⟨e0,e1,e2,e6⟩:=HV4.out.cells;try simp only at e0 e1 e2 e6
 go_wp2_with fail;clear e0 e1 e2 e6;go_loopg [43] ins.length (fun gg x43 wr=>∃k:Nat,k+gg=ins.length/\x43= .int .i64 k/\Hid (Vx w wr ⟨iA,iC,lA,lC,oA,oC,bA,bC,vA,vC,gA,gC,nA,nC⟩ ⟨(M:Int),ins,aM,outs,aT,aU,az,bY⟩ g (M+1) (VI k)));case atStart=>exact⟨0,by omega,rfl,HV4⟩
 case round=>
  clear HV4;obtain⟨k,hk,rfl,HV⟩:=hrel;have HK:=aa hk;have jg:k<=ins.length:=by omega
  clear hk;by_cases bw:k<ins.length
  ·have ml:(k:Int)<(ins.length:Int):=by omega
   obtain⟨ab,o,x,hA,he,cx,fN,gd⟩:=KIN.out wr HV.out.fr k bw;try simp only at hA cx
   subst hA;have kR:=HRI.out k bw;try simp only at kR
   rw[he.out]at kR;have hkz:k<Z2.size:=by omega
   obtain⟨y,hy⟩:∃y,((Z2[k]).toNat:Int)=y:=⟨_,rfl⟩
   have KS:=aaQ.out wr g (VI k) x lV[k]! HV.out.row (HLI.out k) (by omega) (by omega);rw[<-n8.out k hkz,hy,<-HVI.out.2 k x he.out]at KS;have KS:=aa KS;clear he fN gd kR;go_wp2_with fail;refine KS.out.mono ?_;clear KS;rintro e w5 ⟨rfl,Qg,ev⟩;have Wj:=aa (HV.out.put ev Qg);clear Qg ev cx;go_wp2_with fail;go_roundg (gk-1);case measure=>have :=HK.out;omega
   case rel=>exact⟨k+1,by have :=HK.out;omega,by go_num,Wj⟩
  ·obtain rfl :k=ins.length:=by omega
   have HW4:Hid (Vx w wr ⟨iA,iC,lA,lC,oA,oC,bA,bC,vA,vC,gA,gC,nA,nC⟩ ⟨(M:Int),ins,aM,outs,aT,aU,az,bY⟩ g (M+1) (VL 0)):=by show Vx _ _ _ _ _ _ _;rw[HVL.out.1];exact HV.out
   clear HK HV;obtain⟨e0,e1,e2,e6⟩:=HW4.out.cells;try simp only at e0 e1 e2 e6
   obtain⟨wo,rfl⟩:∃x,x=wr:=⟨_,rfl⟩
   go_wp2_with fail;clear e0 e1 e2 e6;go_loopg [58] aM.length (fun gg x58 wr=>∃k:Nat,k+gg=aM.length/\x58= .int .i64 k/\Hid (Vx w wr ⟨iA,iC,lA,lC,oA,oC,bA,bC,vA,vC,gA,gC,nA,nC⟩ ⟨(M:Int),ins,aM,outs,aT,aU,az,bY⟩ g (M+1) (VL k)));case atStart=>exact⟨0,by omega,rfl,HW4⟩
   case round=>
    clear HW4;obtain⟨k,hk,rfl,HV⟩:=hrel;have HK:=aa hk;have jg:k<=aM.length:=(by omega)
    clear hk;by_cases bw:k<aM.length
    ·have ml:(k:Int)<(aM.length:Int):=(by omega)
     obtain⟨ab,o,x,y,z,hA,he,cx,cy,cz,fN,gd,BP⟩:=XW.out wr HV.out.fr k bw;try simp only at hA cx cy cz
     subst hA;have kR:=OM.out k bw;try simp only at kR
     rw[he.out]at kR;try simp only at kR
     have hkz:k<Z1.size:=(by omega)
     obtain⟨u,hu⟩:∃u,((Z1[k]).toNat:Int)=u:=⟨_,rfl⟩
     obtain⟨wx,jY⟩:∃W,wr.alloc (.cells #[.int .i64 x, .int .i64 y, .int .i64 z] 63)=W:=⟨_,rfl⟩
     have zE:Hid (At wx wr.heap.size 63 #[.int .i64 x, .int .i64 y, .int .i64 z]):=jY▸At.new _ _ _;have HVX:=aa (HV.out.keep (jY▸aH _ _));have KS:Hid (∀W,Fr [] wx W->Calls Tryz.prog 105 #[.slice (some ⟨g,0,none⟩) (M+1) (M+1), .int .i64 x, .int .u8 u] W fun e w'=>e= .returned (.tuple #[])/\vT w' (some ⟨g,0,none⟩) (M+1) (VL (k+1))/\Fr [g] W w'):=fun W hW=>by have KS:=aaQ.out W g (VL k) x st[k]! (HVX.out.keep hW).row (pB.out k) (by omega) (by omega);rw[<-HG1.out k hkz,hu,<-HVL.out.2 k x y z he.out]at KS;exact KS
     clear he fN gd BP kR HV;go_upto_region 15 with fail;try rw[jY]
     clear jY;refine aam ?_;refine bi (fun w':World=>Fr [] wx w') 6 (by kernel_rfl) ((Fr.refl _ wx).drew) (fun cZ=> ?_);apply TB 6 [(0,[]),(1,[]),(2,[2,6]),(3,[]),(4,[]),(5,[])];kernel_rfl;rfl;· (repeat (apply eH;rfl;rfl;(· intro w bl;(try(have bl:=bl.resolve_left (aF _ _);(have s0:=bl.aN (zE.out.cell 0);simp at s0)));go_simp<;>with_reducible rfl);try simp only[Act.put,q5,q6,q7]));exact eG
     exact cZ;intro cZ;refine R2 6 (by kernel_rfl) (by rfl) cZ fun K hK aw=> ?_
     (go_simp;refine(KS.out _ aw).mono ?_;rintro e w5 ⟨rfl,Qg,ev⟩;dsimp only)
     refine hK.out _ _ (.inl rfl) (fun vF=> ?_);clear hK K;try simp only[Act.put,q5,q6,q7]
     refine aD (by kernel_rfl) ?_ _;refine NoPanic.normal ?_;have Wj:=aa ((HVX.out.keep aw).put ev Qg);clear Qg ev aw;go_wp2_with fail;go_roundg (gk-1);case measure=>have :=HK.out;omega
     case rel=>exact⟨k+1,by have :=HK.out;omega,by go_num,Wj⟩
    ·obtain rfl :k=aM.length:=by omega
     have X2:Hid (Vx w wr ⟨iA,iC,lA,lC,oA,oC,bA,bC,vA,vC,gA,gC,nA,nC⟩ ⟨(M:Int),ins,aM,outs,aT,aU,az,bY⟩ g (M+1) (VG 0)):=by show Vx _ _ _ _ _ _ _;rw[HVG.out.1];exact HV.out
     clear HK HV;obtain⟨e0,e1,e2,e6⟩:=X2.out.cells;try simp only at e0 e1 e2 e6
     obtain⟨wp,rfl⟩:∃x,x=wr:=⟨_,rfl⟩
     go_wp2_with fail;clear e0 e1 e2 e6;go_loopg [74] az.length (fun gg x74 wr=>∃k:Nat,k+gg=az.length/\x74= .int .i64 k/\Hid (Vx w wr ⟨iA,iC,lA,lC,oA,oC,bA,bC,vA,vC,gA,gC,nA,nC⟩ ⟨(M:Int),ins,aM,outs,aT,aU,az,bY⟩ g (M+1) (VG k)));case atStart=>exact⟨0,by omega,rfl,X2⟩
     case round=>
      clear X2;obtain⟨k,hk,rfl,HV⟩:=hrel;have HK:=aa hk;have jg:k<=az.length:=(by omega)
      clear hk;by_cases bw:k<az.length
      ·have ml:(k:Int)<(az.length:Int):=(by omega)
       obtain⟨ab,o,x,y,z,hA,he,cx,cy,cz,fN,gd,BP⟩:=KGT.out wr HV.out.fr k bw;try simp only at hA cx cy cz
       subst hA;have kR:=HRG.out k bw;try simp only at kR
       rw[he.out]at kR;try simp only at kR
       obtain⟨wx,jY⟩:∃W,wr.alloc (.cells #[.int .i64 x, .int .i64 y, .int .i64 z] 93)=W:=⟨_,rfl⟩
       have zE:Hid (At wx wr.heap.size 93 #[.int .i64 x, .int .i64 y, .int .i64 z]):=jY▸At.new _ _ _;have HVX:=aa (HV.out.keep (jY▸aH _ _));obtain⟨a1,Q2⟩:∃a,Wp.of (VG k) y=a:=⟨_,rfl⟩
       obtain⟨a2,te⟩:∃a,Wp.of (VG k) z=a:=⟨_,rfl⟩
       have K1:Hid (∀W,Fr [] wx W->Calls Tryz.prog 106 #[.slice (some ⟨g,0,none⟩) (M+1) (M+1), .int .i64 y] W fun e w'=>e= .returned (.int .u8 (a1.toNat:Int))/\W=w'):=fun W hW=>Q2▸KOF.out W g (VG k) y (HVX.out.keep hW).row (vQ.out k) (by omega) (by omega);have K2:Hid (∀W,Fr [] wx W->Calls Tryz.prog 106 #[.slice (some ⟨g,0,none⟩) (M+1) (M+1), .int .i64 z] W fun e w'=>e= .returned (.int .u8 (a2.toNat:Int))/\W=w'):=fun W hW=>te▸KOF.out W g (VG k) z (HVX.out.keep hW).row (vQ.out k) (by omega) (by omega);have Xz:=YJ a1 a2;have KS:Hid (∀W,Fr [] wx W->Calls Tryz.prog 105 #[.slice (some ⟨g,0,none⟩) (M+1) (M+1), .int .i64 x, .int .u8 (min (a1.toNat:Int) (a2.toNat:Int))] W fun e w'=>e= .returned (.tuple #[])/\vT w' (some ⟨g,0,none⟩) (M+1) (VG (k+1))/\Fr [g] W w'):=fun W hW=>by have KS:=aaQ.out W g (VG k) x (Wp.mn a1 a2) (HVX.out.keep hW).row (vQ.out k) (by omega) (by omega);rw[<-Q2,<-te,<-HVG.out.2 k x y z he.out,Q2,te,<-Xz]at KS;exact KS
       clear he fN gd BP kR HV Q2 te Xz;go_upto_region 20 with fail;try rw[jY]
       clear jY;refine aam ?_;refine bi (fun w':World=>Fr [] wx w') 12 (by kernel_rfl) ((Fr.refl _ wx).drew) (fun cZ=> ?_);apply TB 9 [(0,[]),(1,[]),(2,[2,12]),(3,[]),(4,[]),(5,[5,6,11,12]),(7,[]),(8,[]),(9,[9,10,12])];kernel_rfl;rfl;· (repeat (apply eH;rfl;rfl;(· intro w bl;(try(have bl:=bl.resolve_left (aF _ _);(have s0:=bl.aN (zE.out.cell 0);have s1:=bl.aN (zE.out.cell 1);have s2:=bl.aN (zE.out.cell 2);simp at s0 s1 s2)));go_simp<;>with_reducible rfl);try simp only[Act.put,q5,q6,q7]));exact eG
       exact cZ;intro cZ;refine R2 6 (by kernel_rfl) (by rfl) cZ fun K hK aw=> ?_
       (go_simp;refine(K1.out _ aw).mono ?_;rintro e w5 ⟨rfl,rfl⟩;dsimp only)
       refine hK.out _ _ (.inr ?_) (fun js=> ?_)
       ·exact aw
       clear hK K;try simp only[Act.put,q5,q6,q7]
       refine R2 10 (by kernel_rfl) (by rfl) js fun K hK aw=> ?_
       (go_simp;refine(K2.out _ aw).mono ?_;rintro e w5 ⟨rfl,rfl⟩;dsimp only)
       refine hK.out _ _ (.inr ?_) (fun fo=> ?_)
       ·exact aw
       clear hK K;try simp only[Act.put,q5,q6,q7]
       apply TB 1 [(11,[])];kernel_rfl;rfl;· (repeat (apply eH;rfl;rfl;(· intro w bl;go_simp<;>with_reducible rfl);try simp only[Act.put,q5,q6,q7]));exact eG
       exact fo;intro fo;refine R2 12 (by kernel_rfl) (by rfl) fo fun K hK aw=> ?_
       (go_simp;refine(KS.out _ aw).mono ?_;rintro e w5 ⟨rfl,Qg,ev⟩;dsimp only)
       refine hK.out _ _ (.inl rfl) (fun kH=> ?_);clear hK K;try simp only[Act.put,q5,q6,q7]
       refine aD (by kernel_rfl) ?_ _;refine NoPanic.normal ?_;have Wj:=aa ((HVX.out.keep aw).put ev Qg);clear Qg ev aw;go_wp2_with fail;go_roundg (gk-1);case measure=>have :=HK.out;omega
       case rel=>exact⟨k+1,by have :=HK.out;omega,by go_num,Wj⟩
      ·obtain rfl :k=az.length:=by omega
       have hr:=HV.out.row;rw[NU.out]at hr;have Oz:=KCV.out wr g VAL hr (by rw[<-NU.out];exact vQ.out _);have HF:=aa HV.out.fr;unfold sv at Oz;rw[HZV.out]at Oz;clear HK HV hr;go_wp2_with fail;go_ret2;exact⟨rfl,HF.out⟩
end
end Go.Proofs.YtjmmpfjcpdepjaaGreatDoor
