/- Parts of a proof. -/
import Derived.Test.YtpjbaobgnhjgoaaGreatGAU
set_option linter.unusedVariables false
set_option linter.unusedSimpArgs false
namespace Go.Proofs.YtpjbaobgnhjgoaaGreat
section
open Go.RowKit
theorem Sv.kW{red:Bool}{budget:Int}{us:List Int}{D C:Nat}{Q Q':Sv->Int->Prop}{S:Sv}(hq:∀S r,Q S r->Q' S r)(h:S.fE red budget us D C Q):S.fE red budget us D C Q':=by
 unfold Sv.fE at h⊢;split at h
 ·rename_i e;rw[qai e];exact hq _ _ h
 ·rename_i e;rw[qah e];split at h
  ·rename_i J;rw[qai J];exact hq _ _ h
  ·rename_i J;rw[qah J];exact tQ _ _ (fun S1 r g=>hq _ _ g) _ _ _ _ h
theorem DQ{k:Nat}(hk:k<=79):(nT (k+1) 0).map (fun x=>(x.1.val,x.2.val))=QG k:=by
 unfold nT QG;rw[List.range_zero,fQ,cq,List.map_flatMap];have h:∀n,n<=80->((List.range n).flatMap fun b=>((List.range b).map fun x=>(PJ x,PJ b)).map fun x:Pf=>(x.1.val,x.2.val))=(List.range n).flatMap fun b=>(List.range b).map fun a=>(a,b):=fun n=>by
  induction n with
  |zero=>intro _;rfl
  |succ n ih=>
   intro hn;rw[ju,List.flatMap_append,List.flatMap_append,ih (by omega)];congr 1;simp only[List.flatMap_cons,List.flatMap_nil,cq,List.map_map];refine List.map_congr_left fun x J=> ?_;have J:=bl.1 J;show((PJ x).val,(PJ n).val)=(x,n);rw[EH (by omega),EH (by omega)]
 exact h (k+1) (by omega)
theorem IF(C:Pc):∀(l:List Pf)(v:Nat),xV C v l=aps C (v:Int) (l.map fun x=>(x.1.val,x.2.val)) l.length
 |[],v=>rfl
 |x::l,v=>by
  rw[xV,IF C l];unfold aps;rw[b8,List.range_succ_eq_map,List.flatMap_cons,List.flatMap_map];congr 1
  ·simp
  ·refine aaa (fun f=>List.flatMap f (List.range l.length)) (funext fun t=> ?_);show E4 C _ _ _=E4 C _ _ _;rw[dJ,List.getElem!_cons_succ];congr 1;rw[Nat.succ_mul];omega
theorem V9{k:Nat}(hk:k<=79):∀x∈nT (k+1) 0,x.1.val<=k/\x.2.val<=k:=fun x hx=>by
 have h1:(x.1.val,x.2.val)∈QG k:=by rw[<-DQ hk];exact aN.2 ⟨x,hx,rfl⟩
 have J:=MW h1;simp only at J;omega
theorem Ue{C:Pc}(hv:Valid C){x:Int}(hx:0<=x/\x<=2*C.mx+1)(j:Nat):bV (cu C j) x≠0/\ -(cu C ((j+1:Nat):Int))<=bV (cu C j) x/\bV (cu C j) x<=cu C ((j+1:Nat):Int):=by have h1:=lN (jq hv.m0 (f:=(j:Int)) (by omega)) (m:=C.mx) hx;have J:=qP C (j:Int);rw[show((j+1:Nat):Int)=(j:Int)+1 by omega,J];exact⟨h1.1,by omega,by omega⟩
theorem P4{C:Pc}(J:Valid C){am:List (List Int)}(ha:sa C.mx am){x:Int}(hx:0<=x/\x<=2*C.mx+1){m:Nat}(hm:m<=79)(hb:cu C ((m+1:Nat):Int)<=262143){budget:Int}(nq:budget<=1099511627776):
  ∃D K,(uv C am true (m+1) (m+1)).fE true budget [bV (cu C m) x] D K (Sv.Told [bV (cu C m) x] fun a=>∀c∈jQ C am true (m+1),eX a c):=by
 have hk:=CD J ha (fst:=true) (n:=m+1) ⟨by omega,by omega⟩ hb;have h0:=jq J.m0 (f:=((m+1:Nat):Int)) (by omega);have hl:=mK J ha.1 true (m+1);have hV:(jQ C am true (m+1)).length<=8388608:=aE hl (aE (Nat.add_le_add_left (Nat.mul_le_mul_left 8449 (show m+1<=80 by omega)) 64) (by decide));have hU:0+3+budget.toNat<4611686018427387904:=by omega
 have ad:[bV (cu C m) x].length<=1099511627776:=by rw[aV];omega
 have ab:(0:Nat)<=1000000000000:=aU _;refine⟨_,_,Sv.kW (fun S r h=>Sv.Va.told h hU) (Sv.ML hk nq ab hV (fun y hy=> ?_) ad)⟩;rw[ag.1 hy,Int.toNat_of_nonneg h0];exact Ue J hx m
theorem Om{C:Pc}(J:Valid C){am:List (List Int)}(ha:sa C.mx am){x:Int}(hx:0<=x/\x<=2*C.mx+1){k:Nat}(hk:k<=79)(je:cu C ((k+1:Nat):Int)+((C.az.length*k*(k+1)/2:Nat):Int)<=262143){budget:Int}(nq:budget<=1099511627776):
  ∃D K,((xz C (uv C am false (k+1) (k+1)) (nT (k+1) 0)).cF ((List.range k).map fun a:Nat=>[-(bV (cu C a) x)])).fE true budget [bV (cu C k) x] D K (Sv.Told [bV (cu C k) x] fun a=>∀c∈Rw C am x k,eX a c):=by
 have h0:=jq J.m0 (f:=((k+1:Nat):Int)) (by omega);have Bo:cu C ((k+1:Nat):Int)<=262143:=by have :=Int.natCast_nonneg (C.az.length*k*(k+1)/2);omega
 have np:=(B0 h0 je).2 _ (aq _);have hl:=mK J ha.1 false (k+1);have hc:=MX hk;have Ep:=J.l;have hmul:(nT (k+1) 0).length*(2*C.az.length+1)<=3160*129:=Nat.mul_le_mul hc (by omega);have h1:=On J hk (CD J ha (fst:=false) (n:=k+1) ⟨by omega,by omega⟩ Bo) (by omega) (nT (k+1) 0) (V9 hk) np (by omega);have h2:=h1.cF (ls:=(List.range k).map fun a:Nat=>[-(bV (cu C a) x)]) (by rw[aG,de];omega) (fun c hc=>by
  obtain⟨j,hj,rfl⟩:=aN.1 hc;have hj:=bl.1 hj;have h3:=Ue J hx j;have h4:=gI J.m0 (f:=((j+1:Nat):Int)) (g:=((k+1:Nat):Int)) (by omega);have h5:BJ (((cu C ((k+1:Nat):Int)).toNat+(nT (k+1) 0).length*C.az.length:Nat):Int) [-(bV (cu C j) x)]:=⟨by simp,fun y hy=>by rw[ag.1 hy];omega⟩
  exact⟨h5.ra (by omega),BJ.chk h5 np⟩)
 rw[aG,de]at h2;have hV:(jQ C am false (k+1)).length+(nT (k+1) 0).length*(2*C.az.length+1)+k<=8388608:=by omega
 have hU:0+3+budget.toNat<4611686018427387904:=by omega
 have ad:[bV (cu C k) x].length<=1099511627776:=by rw[aV];omega
 have ab:(0:Nat)<=1000000000000:=aU _;refine⟨_,_,Sv.kW (fun S r h=> ?_) (Sv.ML h2 nq ab hV (fun y hy=> ?_) ad)⟩
 ·have h3:=Sv.Va.told h hU;have e:∀a:Nat->Bool,((((∀c∈jQ C am false (k+1),eX a c)/\∀c∈xV C (cu C ((k+1:Nat):Int)).toNat (nT (k+1) 0),eX a c)/\∀c∈(List.range k).map fun a:Nat=>[-(bV (cu C a) x)],eX a c))↔∀c∈Rw C am x k,eX a c:=fun a=>by
   have ea:xV C (cu C ((k+1:Nat):Int)).toNat (nT (k+1) 0)=aps C (cu C ((k+1:Nat):Int)) (QG k) (QG k).length:=by rw[IF,DQ hk,Int.toNat_of_nonneg h0,<-DQ hk,aG]
   unfold Rw;rw[ea];simp only[ah,or_imp,forall_and]
  refine⟨h3.model,h3.used,?_⟩;rcases h3.rr with g |⟨g1,g2,g3⟩ |⟨g1,g2⟩
  ·exact .inl g
  ·exact .inr (.inl ⟨g1,(e _).1 g2,g3⟩)
  ·exact .inr (.inr ⟨g1,fun a ha=>g2 a ((e a).2 ha)⟩)
 ·rw[ag.1 hy];have h3:=Ue J hx k;omega
def NoB(q:Qn)(J:List (List Int))(j:Nat):Prop:=¬∃g,(∀c∈jQ q.C J true (j+1),eX g c)/\jD g (bV (cu q.C j) (sY q))
def knI(q:Qn)(J:List (List Int))(k:Nat)(v:Vd):Prop:=Emp v/\0<=v.used/\v.used<=q.ji/\v.kind=0/\∀j:Nat,j<k->NoB q J j
def ald(q:Qn)(J:List (List Int))(k:Nat)(v:Vd):Prop:=Emp v/\0<=v.used/\v.used<=q.ji/\v.kind=0/\∀j:Nat,j<=k->NoB q J j
def knD(q:Qn)(J:List (List Int))(v:Vd)(il:List (List UInt8)):Prop:=
 v.kind=0\/(v.kind=1/\∀n:Nat,¬AA (kf q.C) (fm q.C []) (mR q.C) (xU q.C (sY q)) n)\/
 (v.kind=2/\v.pb=q.bad/\∃(n:Nat)(p i:Nat->List UInt8),v.st=p 0/\il=(List.range (n+1)).map i/\kf q.C (p 0)/\Way (fm q.C J) (mR q.C) n p i/\fm q.C J (p n) (i n)/\xU q.C (sY q) (p n) (i n))
theorem si{α β:Type}[Inhabited α](f:α->β)(l:List α):(List.range l.length).map (fun j=>f l[j]!)=l.map f:=by
 refine List.ext_getElem (by simp) fun k h1 J=> ?_;have hk:k<l.length:=by simpa using J
 rw[List.getElem_map,List.getElem_range,List.getElem_map,aa,af hk];rfl
theorem NV{S:Sv}{b x:Int}(J:0<=b)(hx:0<=x):Ix S b x=oG (jP (Sv.xt S) b (x/2).toNat):=by unfold Ix oG jP Sv.xt;rw[show(((b+((x/2).toNat:Int)+1).toNat:Nat):Int)=b+x/2+1 by omega]
theorem aat{C:Pc}(hv:Valid C)(S:Sv):VY S C=Dz C (Sv.xt S) 0:=by have hb:0<=cu C ((0:Nat):Int):=jq hv.m0 (by omega);unfold VY Dz nQ;rw[List.map_map];refine Eq.trans (List.map_congr_left fun x hx=> ?_) (si (fun x:T3=>oG (jP (Sv.xt S) (cu C ((0:Nat):Int)) (x.a/2).toNat)) C.az).symm;obtain⟨j,J,rfl⟩:=List.getElem_of_mem hx;have h1:=eF hv j J;rw[aa,af J,aJ]at h1;exact NV hb (show 0<=(C.az[j]).a by omega)
theorem aaT{C:Pc}(J:Valid C)(S:Sv)(n:Nat):Fj S C n=(List.range n).map (Ja C (Sv.xt S)):=by unfold Fj;refine List.map_congr_left fun k _=> ?_;have hb:0<=cu C (k:Int):=jq J.m0 (by omega);unfold nQ Ja;refine Eq.trans (List.map_congr_left fun x hx=> ?_) (si (fun x:Int=>oG (jP (Sv.xt S) (cu C (k:Int)) (x/2).toNat)) C.ins).symm;have h1:=eE J x (by simp[cm,hx]);exact NV hb (by omega)
theorem Ww{q:Qn}(hu:uV q=0)(jN:sa q.C.mx (q.am.map (·.l)++q.ls.map (·.l))){d:Nat}(hd:d<=79)(je:cu q.C ((d+1:Nat):Int)+((q.C.az.length*d*(d+1)/2:Nat):Int)<=262143)
  (hl:∀s i,Jo (kf q.C) (fm q.C []) (mR q.C) s->fm q.C [] s i->∀l∈q.am.map (·.l)++q.ls.map (·.l),l.any (lJ (vL q.C s i))=true):
  Uu q d (knI q (q.am.map (·.l)++q.ls.map (·.l))) (ald q (q.am.map (·.l)++q.ls.map (·.l))) (knD q (q.am.map (·.l)++q.ls.map (·.l))):=by
 obtain⟨J,mT,-⟩:=sE hu;have hx:=yy J ⟨mT.1,mT.2.1⟩;obtain⟨AM,ab⟩:∃AM,q.am.map (·.l)++q.ls.map (·.l)=AM:=⟨_,rfl⟩
 rw[ab]at jN hl⊢;have ad:Over q.C.mx AM:=fun l Po=>(jN.2 l Po).2;refine⟨fun k v h=>⟨h.1,h.2.1,h.2.2.1⟩,fun k v h=>⟨h.1,h.2.1,h.2.2.1⟩,fun k v hk h=> ?_,fun k v hk h=> ?_,fun v h=> .inl h.2.2.2.1⟩
 ·rw[ab];obtain⟨D,K,hT⟩:=P4 J jN hx (m:=k) (by omega) (E3 J je hk).1 (budget:=q.ji-v.used) (by have :=h.2.1;omega);refine⟨D,K,Sv.kW (fun S r hS=>⟨⟨hS.model,hS.used⟩,?_⟩) hT⟩;have Cy:=h.2.1;have nq:=h.2.2.1;rcases hS.rr with rfl |⟨rfl,g1,g2⟩ |⟨rfl,g1⟩
  ·exact .inr (.inl ⟨by decide,by decide, .inl h.2.2.2.1⟩)
  ·refine .inl ⟨rfl,fun A c=> .inr (.inr ?_)⟩;unfold Vd.base;rw[qai rfl];obtain⟨e1,e2,e3,e4⟩:=P5 J ad hx g1 (g2 _ (ag.2 rfl));exact⟨rfl,rfl,k,Dz q.C (Sv.xt S),Ja q.C (Sv.xt S),aat J S,aaT J S (k+1),e1,e2,e3,e4⟩
  ·refine .inr (.inr ⟨rfl,h.1,by simp only;omega,by simp only;omega,h.2.2.2.1,fun j hj=> ?_⟩);by_cases e:j=k
   ·subst e;rintro⟨g,g2,g3⟩;exact g1 g g2 (fun u hu=>by rw[ag.1 hu];exact g3)
   ·exact h.2.2.2.2 j (by omega)
 ·rw[ab];obtain⟨D,K,hT⟩:=Om J jN hx (k:=k) (by omega) (E3 J je hk).2 (budget:=q.ji-v.used) (by have :=h.2.1;omega);refine⟨D,K,Sv.kW (fun S r hS=>⟨hS.used,?_⟩) hT⟩;have Cy:=h.2.1;have nq:=h.2.2.1;rcases hS.rr with rfl |⟨rfl,g1,g2⟩ |⟨rfl,g1⟩
  ·refine .inr ⟨by decide, .inl ?_⟩;unfold Vd.step;rw[qah (by decide)];exact h.2.2.2.1
  ·refine .inl ⟨rfl,h.1,by unfold Vd.step;simp only;omega,by unfold Vd.step;simp only;omega,?_,fun j hj=>h.2.2.2.2 j (by omega)⟩;unfold Vd.step;rw[qah (by decide)];exact h.2.2.2.1
  ·refine .inr ⟨by decide, .inr (.inl ⟨?_,?_⟩)⟩
   ·unfold Vd.step;rw[qai rfl]
   ·exact OP J ad hx hl (k:=k) h.2.2.2.2 (fun⟨g,g2,g3⟩=>g1 g g2 (fun u hu=>by rw[ag.1 hu];exact g3))
def ae0(C:Pc)(l:List Int):Prop:=∀i,i<(bW C.az.length).length->0<=(qh C)[i]! ->∀k,k<(bW C.ins.length).length->tc C (vL C (bW C.az.length)[i]! (bW C.ins.length)[k]!)=true->l.any (lJ (vL C (bW C.az.length)[i]! (bW C.ins.length)[k]!))=true
theorem Wr{C:Pc}(hv:Valid C){l:List Int}(h:ae0 C l):∀s i,Jo (kf C) (fm C []) (mR C) s->fm C [] s i->∀c∈[l],c.any (lJ (vL C s i))=true:=fun s i hr ha c hc=>by rw[ag.1 hc];have hs:=DO hr;have uq:=mN.1 ha;obtain⟨h1,h2⟩:=gJ hs;obtain⟨h3,h4⟩:=gJ uq.1;have J:=h _ h1 ((tN hv).2.2 s hs |>.2 hr) _ h3;rw[h2,h4]at J;exact J uq.2
theorem Rl{q:Qn}(hv:Valid q.C){AM:List (List Int)}{v:Vd}{il:List (List UInt8)}(h:knD q AM v il):(v.kind=1->Q1 q.C (sY q)<0)/\(v.kind=2->0<=Q1 q.C (sY q)):=by
 have J:=acg hv (sY q);rcases h with h |⟨h,hn⟩ |⟨h,-,n,p,i,-,-,h0,hw,ha,hx⟩
 ·exact⟨fun e=>by omega,fun e=>by omega⟩
 ·refine⟨fun _=> ?_,fun e=>by omega⟩;have h1:¬0<=Q1 q.C (sY q):=fun h2=>by obtain⟨n,h3⟩:=J.1 h2;exact hn n h3
  omega
 ·exact⟨fun e=>by omega,fun _=>J.2 (ach h0 hw ha hx)⟩
theorem aaq{q:Qn}(h:uV q=0):sa q.C.mx (q.ls.map (·.l)):=by
 unfold uV at h;split at h
 ·cases h
 ·rename_i h1;split at h
  ·cases h
  ·rename_i h2;split at h
   ·cases h
   ·rename_i h3;split at h
    ·cases h
    ·rename_i h4;refine⟨by rw[aG];omega,fun l hl=> ?_⟩;obtain⟨y,hy,rfl⟩:=aN.1 hl;have J:oW q.C.mx y.l=false:=by
      cases h6:oW q.C.mx y.l with
      |false=>rfl
      |true=>exact absurd (.inr (cP.2 ⟨y,hy,h6⟩)) h4
     unfold oW at J;rw[dw,decide_eq_false_iff_not,Bool.not_eq_false']at J;refine⟨by have :=J.1;omega,fun x hx=> ?_⟩;have h7:=J.2;unfold Vf at h7;have :=cR.1 h7 x hx;simp only[ax,qam]at this;exact this
end
section
open Go.RowKit Go.Shelf
def Si:Pc:=⟨1,[],[⟨2,2,0⟩],[],[2],[],[],[]⟩
def AC:Qn:=⟨Si,[],[],[],0,3,99⟩
theorem OM:Valid Si where
 m0:=by decide
 m1:=by decide
 i:=by decide
 l:=by decide
 n:=by decide
 az:=fun j J=>by
  have rR:j=0:=by have :j<1:=J;omega
  subst rR;decide+kernel
 au:=fun j J=>absurd J (aD _)
 own:=fun j J=>by
  have h1:(cm Si).length=1:=by decide+kernel
  have rR:j=0:=by omega
  subst rR;decide+kernel
 o:=by decide
 b:=by decide
 v:=by decide
theorem aaO:uV AC=0:=by unfold uV;rw[qah (fun h=>h OM),qah (by decide),qah (by decide),qah (by decide),qah (by decide)]
namespace Sv
theorem JG{budget:Int}{us:List Int}{D C:Nat}{Q:Sv->Int->Prop}{S:Sv}(h:fE false budget us D C Q S):fE true budget us D C Q S:=by
 have key:∀c next n S,ev false budget us (fun S r=>Q (S.back 0) r) D c next n S->ev true budget us (fun S r=>Q (S.back 0) r) D c next n S:=by
  generalize (fun(S:Sv)(r:Int)=>Q (S.back 0) r)=Q';intro c;induction c with
  |zero=>intro next n S h;exact h
  |succ c ih=>
   intro next n S hh
   rw[ev]at hh⊢;revert hh;generalize hK:ev false budget us Q' D c=K;generalize ab:ev true budget us Q' D c=K';rw[hK,ab]at ih;clear hK ab;generalize D=d;induction d generalizing next n S with
   |zero=>exact fun h=>h
   |succ d ad=>
    intro hh;rw[gN]at hh⊢;obtain⟨m1,m2,m3,m4⟩:=hh;refine⟨m1,m2,m3,?_⟩;cases hf:S.follow.2 with
    |some cc=>
     rw[hf]at m4;simp only at m4⊢;revert m4;cases S.follow.1.cW.conflict cc with
     |none=>exact fun h=>h
     |some q=>
      obtain⟨S2,b⟩:=q;cases b with
      |false=>exact fun h=>h
      |true=>
       show(if _ then _ else _)->(if _ then _ else _);split
       ·exact fun h=>h
       ·exact ih _ _ _
    |none=>
     rw[hf]at m4;simp only at m4⊢;unfold yM at m4⊢;split at m4
     ·exact absurd m4 (by simp)
     ·rename_i rQ;rw[qah rQ];have Ni:∀J:Sv,(if(J.aP us).2=0 then gN false budget us Q' K d (if next <=n then n+64 else next) n (J.aP us).1 else Q' (J.aP us).1 (J.aP us).2)->(if(J.aP us).2=0 then gN true budget us Q' K' d (if next <=n then n+64 else next) n (J.aP us).1 else Q' (J.aP us).1 (J.aP us).2):=by
       intro J;split
       ·exact ad _ _ _
       ·exact fun h=>h
      exact Ni _ m4
 unfold fE at h⊢;split at h
 ·rename_i h1;rw[qai h1];exact h
 ·rename_i h1;rw[qah h1];split at h
  ·rename_i h2;rw[qai h2];exact h
  ·rename_i h2;rw[qah h2];exact key _ _ _ _ h
end Sv
def II(S:Sv):List (List Int)->Sv
 |[]=>S
 |c::r=>II (S.acn c).1 r
theorem uL:∀(ls:List (List Int))(S:Sv),S.cF ls=II S ls
 |[],S=>rfl
 |c::r,S=>by show(S.fD c).1.cF r=_;rw[Sv.X4];exact uL r _
def fsJ(C:Pc)(am:List (List Int))(fst:Bool)(n k:Nat):Sv:=II (Sv.new (cu C n)) (jQ C am fst k)
theorem TP(C:Pc)(am:List (List Int))(fst:Bool)(n k:Nat):uv C am fst n k=fsJ C am fst n k:=uL _ _
def stJ(C:Pc):Sv->List Pf->Sv
 |S,[]=>S
 |S,x::l=>stJ C (II (S.a7.grow C.az.length) (E4 C x.1.val x.2.val S.vars)) l
theorem Ry(C:Pc):∀(l:List Pf)(S:Sv),xz C S l=stJ C S l
 |[],S=>rfl
 |x::l,S=>by show xz C ((S.a7.grow C.az.length).cF (E4 C x.1.val x.2.val S.vars)) l=_;rw[uL,Ry C l];rfl
def Ow(budget:Int)(us:List Int)(S:Sv)(r u:Int):Bool:=match Sv.DC budget us 40 40 S with
 |none=>false
 |some p=>decide (p.2=r)&&decide ((p.1.used:Int)=u)&&(!p.1.has ||decide (p.1.model.length=p.1.vars+1))
theorem MP{budget:Int}{us:List Int}{S:Sv}{r u:Int}(h:Ow budget us S r u=true){Q:Sv->Int->Prop}(hQ:∀S':Sv,(S'.used:Int)=u->(S'.has=true->S'.model.length=S'.vars+1)->Q S' r):∃D C,S.fE true budget us D C Q:=by
 unfold Ow at h;cases hp:Sv.DC budget us 40 40 S with
 |none=>rw[hp]at h;cases h
 |some p=>
  rw[hp]at h;simp only[ax,qam,dI,i8]at h;refine⟨40,40,Sv.kW (fun S' r' e=> ?_) (Sv.JG (Sv.RA hp))⟩;have e1:S'=p.1:=by rw[<-e]
  have e2:r'=p.2:=by rw[<-e]
  rw[e2,h.1.1];refine hQ S' (by rw[e1];exact h.1.2) (fun hh=> ?_);rw[e1]at hh⊢;rcases h.2 with J |J
  ·rw[J]at hh;cases hh
  ·exact J
def kvB(k:Nat):Sv:=fsJ Si [] true (k+1) (k+1)
def kvS(k:Nat):Sv:=II (stJ Si (fsJ Si [] false (k+1) (k+1)) (nT (k+1) 0)) ((List.range k).map fun a:Nat=>[-(bV (cu Si a) 2)])
def kvL(k:Nat):List Int:=[bV (cu Si k) 2]
theorem ae8:Ow 99 (kvL 0) (kvB 0) 2 1=true:=by decide+kernel
theorem ae7:Ow 98 (kvL 0) (kvS 0) 1 1=true:=by decide+kernel
theorem ae6:Ow 97 (kvL 1) (kvB 1) 2 1=true:=by decide+kernel
theorem ae5:Ow 96 (kvL 1) (kvS 1) 2 2=true:=by decide+kernel
def QK(u:Int):Vd:=⟨0,0,[],none,0,0,u⟩
def kaI(k:Nat)(v:Vd):Prop:=(k=0/\v=QK 0)\/(k=1/\v=QK 2)
def kaJ(k:Nat)(v:Vd):Prop:=(k=0/\v=QK 1)\/(k=1/\v=QK 3)
def kaD(v:Vd)(il:List (List UInt8)):Prop:=v.kind=1
theorem Sk(k:Nat):uv AC.C (AC.am.map (·.l)++AC.ls.map (·.l)) true (k+1) (k+1)=kvB k:=TP _ _ _ _ _
theorem Sh(k:Nat):(xz AC.C (uv AC.C (AC.am.map (·.l)++AC.ls.map (·.l)) false (k+1) (k+1)) (nT (k+1) 0)).cF ((List.range k).map fun a:Nat=>[-(bV (cu AC.C a) (sY AC))])=kvS k:=by rw[TP,Ry,uL];rfl
theorem Ee(k:Nat):[bV (cu AC.C k) (sY AC)]=kvL k:=rfl
theorem Ei{u x y:Int}(h:x=y)(e:min (u+y) 99=(QK (min (u+y) 99)).used):({ QK u with used:=min ((QK u).used+x) AC.ji }:Vd)=QK (min (u+y) 99):=by subst h;rfl
theorem Sp:Uu AC 3 kaI kaJ kaD where
 pG:=by
  rintro k v (⟨-,rfl⟩ |⟨-,rfl⟩)
  ·exact⟨⟨rfl,rfl,rfl⟩,by decide,by decide⟩
  ·exact⟨⟨rfl,rfl,rfl⟩,by decide,by decide⟩
 aeB:=by
  rintro k v (⟨-,rfl⟩ |⟨-,rfl⟩)
  ·exact⟨⟨rfl,rfl,rfl⟩,by decide,by decide⟩
  ·exact⟨⟨rfl,rfl,rfl⟩,by decide,by decide⟩
 base:=by
  rintro k v hk (⟨rfl,rfl⟩ |⟨rfl,rfl⟩)
  ·rw[Sk,Ee,show AC.ji-(QK 0).used=99 by decide];exact MP ae8 fun S hu hm=>⟨⟨hm,by omega⟩, .inr (.inr ⟨rfl, .inl ⟨rfl,Ei hu rfl⟩⟩)⟩
  ·rw[Sk,Ee,show AC.ji-(QK 2).used=97 by decide];exact MP ae6 fun S hu hm=>⟨⟨hm,by omega⟩, .inr (.inr ⟨rfl, .inr ⟨rfl,Ei hu rfl⟩⟩)⟩
 step:=by
  rintro k v hk (⟨rfl,rfl⟩ |⟨rfl,rfl⟩)
  ·rw[Sh,Ee,show AC.ji-(QK 1).used=98 by decide];exact MP ae7 fun S hu hm=>⟨by omega, .inl ⟨rfl, .inr ⟨rfl,Ei hu rfl⟩⟩⟩
  ·rw[Sh,Ee,show AC.ji-(QK 3).used=96 by decide];exact MP ae5 fun S hu hm=>⟨by omega, .inr ⟨by decide,rfl⟩⟩
 fin:=by
  rintro v (⟨h,-⟩ |⟨h,-⟩)
  ·omega
  ·omega
def kvH(a b:Nat):Qh:=⟨⟨none,0,some ⟨a,0,none⟩,1,none,0,some ⟨b,0,none⟩,1,none,0,none,0,none,0⟩,none,0,none,0,none,0⟩
theorem aaP{w:World}{a b:Nat}(ha:At w a 62 #[.int .i64 2, .int .i64 2, .int .i64 0])(hb:At w b 3 #[.int .i64 2]):uO w (kvH a b) AC:=by
 refine⟨⟨fun h=>absurd h (by decide),?_,fun h=>absurd h (by decide),?_,fun h=>absurd h (by decide),fun h=>absurd h (by decide),fun h=>absurd h (by decide),by decide,by decide,by decide,by decide,by decide,by decide,by decide,⟨by decide,by decide⟩,?_,?_,?_,?_,?_,?_,?_⟩,⟨fun h=>absurd h (da 0),fun j J=>absurd J (aD _)⟩,⟨fun h=>absurd h (da 0),fun j J=>absurd J (aD _)⟩,⟨fun h=>absurd h (da 0),fun j J=>absurd J (aD _)⟩,by decide,by decide,by decide,⟨by decide,by decide⟩,⟨by decide,by decide⟩,⟨by decide,by decide⟩⟩
 ·intro _;refine⟨_,_,rfl,fun j J=> ?_⟩;have rR:j=0:=by have :j<1:=J;omega
  subst rR;exact⟨ha.cell 0,ha.cell 1,ha.cell 2⟩
 ·intro _;refine⟨_,_,rfl,fun j J=> ?_⟩;have rR:j=0:=by have :j<1:=J;omega
  subst rR;exact hb.cell 0
 ·exact fun j J=>absurd J (aD _)
 ·intro j J;have rR:j=0:=by have :j<1:=J;omega
  subst rR;exact⟨⟨by decide,by decide⟩,⟨by decide,by decide⟩,by decide,by decide⟩
 ·exact fun j J=>absurd J (aD _)
 ·intro j J;have rR:j=0:=by have :j<1:=J;omega
  subst rR;exact⟨by decide,by decide⟩
 ·exact fun j J=>absurd J (aD _)
 ·exact fun j J=>absurd J (aD _)
 ·exact fun j J=>absurd J (aD _)
set_option maxRecDepth 100000 in
set_option maxHeartbeats 4000000 in
theorem Eh(w:World):Calls Tryz.prog 8 #[] w fun e w'=>e= .returned (.bool true)/\Fr [] w w':=by
 obtain⟨w1,eo⟩:∃W,w.alloc (.cells #[.int .i64 2, .int .i64 2, .int .i64 0] 62)=W:=⟨_,rfl⟩
 obtain⟨w2,kE⟩:∃W,w1.alloc (.cells #[.int .i64 2] 3)=W:=⟨_,rfl⟩
 obtain⟨J,ow⟩:∃W,w2.alloc (.cells (fv (kvH w.heap.size w1.heap.size).H Si) 27)=W:=⟨_,rfl⟩
 have h1:At w1 w.heap.size 62 #[.int .i64 2, .int .i64 2, .int .i64 0]:=eo▸At.new _ _ _;have h2:At w2 w1.heap.size 3 #[.int .i64 2]:=kE▸At.new _ _ _;have dN:Fr [] w2 J:=ow▸aR _ _;have dG:aj (Fr [] w J):=(eo▸aR _ _:Fr [] w w1).ak ((kE▸aR _ _:Fr [] w1 w2).ak dN);have HQ:=(aaP (h1.keep (kE▸aR _ _:Fr [] w1 w2)) h2).keep dN;have KC:aj (Calls Tryz.prog 17 #[mv (kvH w.heap.size w1.heap.size) AC] J fun e w'=>∃pb st A n c us,e= .returned (.tuple #[.agg #[.int .i64 1, .int .i64 pb, .string st, .slice A n c, .slice none 0 0, .slice none 0 0, .int .i64 us], .int .i64 0])/\Fr [] J w'):=by refine(ul J _ AC HQ aaO ⟨by decide,fun l hl=>by cases hl⟩ rfl 3 rfl (by decide+kernel) Sp (.inl ⟨rfl,rfl⟩)).mono ?_;rintro e w' ⟨v,il,rfl,hk,-,-,hf⟩;refine⟨v.pb,⟨v.st.toArray⟩,v.A,v.n,v.c,v.used,?_,hf⟩;have hk:v.kind=1:=hk;unfold lF sv;rw[hk]
 simp only[mv,pH,kvH,AC,Si,List.length_nil,b8,dd]at KC;simp only[fv,kvH,Si,List.length_nil,b8,dd]at ow;have ab:=ae ow;have HC:aj (∀W,Fr [] J W->W.cell? ⟨w2.heap.size,0,none⟩=some (.int .i64 1)/\W.cell? ⟨w2.heap.size,1,none⟩=some (.slice none 0 0)/\W.cell? ⟨w2.heap.size,2,none⟩=some (.slice (some ⟨w.heap.size,0,none⟩) 1 1)/\W.cell? ⟨w2.heap.size,3,none⟩=some (.slice none 0 0)/\
   W.cell? ⟨w2.heap.size,4,none⟩=some (.slice (some ⟨w1.heap.size,0,none⟩) 1 1)/\W.cell? ⟨w2.heap.size,5,none⟩=some (.slice none 0 0)/\W.cell? ⟨w2.heap.size,6,none⟩=some (.slice none 0 0)/\W.cell? ⟨w2.heap.size,7,none⟩=some (.slice none 0 0)):=fun W hW=>by
  have h:=(ow▸At.new w2 27 _:At J w2.heap.size 27 _).keep hW;refine⟨?_,?_,?_,?_,?_,?_,?_,?_⟩<;>(rw[h.cell];rfl)
 clear h1 h2 dN HQ ow;go_enter Tryz.func8,Tryz.ntmps8;go_upto_region 2 with fail;rw[ab.o];clear eo kE ab;obtain⟨c0,c1,c2,c3,c4,c5,c6,c7⟩:=HC.o J (Fr.refl _ _);go_wp2_with fail;refine KC.o.mono ?_;clear KC c0 c1 c2 c3 c4 c5 c6 c7 HC;rintro e w4 ⟨pb,st,A,n,c,us,rfl,fG⟩;have ic:=ae (dG.o.ak fG);clear fG;go_upto_region 3 with fail;obtain⟨w5,Cn⟩:∃W,w4.alloc (.cells #[.int .i64 1, .int .i64 pb, .string st, .slice A n c, .slice none 0 0, .slice none 0 0, .int .i64 us] 35)=W:=⟨_,rfl⟩
 have j4:At w5 w4.heap.size 35 #[.int .i64 1, .int .i64 pb, .string st, .slice A n c, .slice none 0 0, .slice none 0 0, .int .i64 us]:=Cn▸At.new _ _ _;have js:aj (Fr [] w w5):=ic.o.ak (Cn▸aR _ _);obtain⟨r0,r1,r2,r3,r4,r5,r6⟩:=Ad j4;rw[Cn];clear Cn j4;go_wp2;go_ret;exact⟨rfl,js.o⟩
end
section
open Go.RowKit
theorem akC(x:Int):∃d:Nat,(wrap64 (x.tmod 6+6)).tmod 6=d/\d<=5:=by have h1:=Int.lt_tmod_of_pos x (b:=6) (by omega);have J:=Int.tmod_lt_of_pos x (b:=6) (by omega);have hw:wrap64 (x.tmod 6+6)=x.tmod 6+6:=IntWalk.wrap64_in _ (by omega);rw[hw];have h3:=Int.tmod_nonneg (a:=x.tmod 6+6) 6 (by omega);have h4:=Int.tmod_lt_of_pos (x.tmod 6+6) (b:=6) (by omega);exact⟨((x.tmod 6+6).tmod 6).toNat,by omega,by omega⟩
theorem Wx{C:Pc}(h0:0<=C.mx)(h1:C.mx<=60)(hl:C.az.length<=4){d:Nat}(hd:d<=5):cu C ((d+1:Nat):Int)+((C.az.length*d*(d+1)/2:Nat):Int)<=262143:=by
 have J:C.az.length*d*(d+1)<=4*5*6:=Nat.mul_le_mul (Nat.mul_le_mul hl hd) (by omega);have h3:cu C ((d+1:Nat):Int)<=6*61:=by unfold cu;exact Int.mul_le_mul (by omega) (by omega) (by omega) (by omega)
 generalize C.az.length*d*(d+1)=y at J⊢;omega
theorem eY.len{w:World}{A:Option Addr}{c:Nat}{l:List (List UInt8)}(h:eY w A c l):l.length<=9223372036854775807:=by
 unfold eY at h;rcases h.2 with⟨_,J⟩ |⟨g,cap,cur,hv,_,hg,hn,hm,_⟩
 ·omega
 ·unfold maxLen at hm;omega
def Gv(C:Pc)(lA:Option Addr)(lC:Nat)(l:List Int)(bad:Int)(d:Nat):Qn:=⟨C,[],[⟨lA,lC,l⟩],[],bad,d,1099511627776⟩
def Sd(H:Hd)(g:Nat):Qh:=⟨H,none,0,some ⟨g,0,none⟩,1,none,0⟩
theorem Y6{w:World}{H:Hd}{C:Pc}(h:eZ w H C){lA:Option Addr}{lC:Nat}{l:List Int}(sP:Rd w lA l)(kQ:Ra l)(nV:l.length<=17592186044416)(AH:lA=none->l.length=0/\lC=0){g:Nat}{t:TypeId}(hg:At w g t #[.slice lA l.length lC]){bad:Int}(PB:eJ bad){d:Nat}(hd:d<=5):
  uO w (Sd H g) (Gv C lA lC l bad d):=by
 refine⟨h,⟨fun h=>absurd h (da 0),fun j J=>absurd J (aD _)⟩,⟨fun _=>⟨_,_,rfl,fun j J=> ?_⟩,fun j J=> ?_⟩,⟨fun h=>absurd h (da 0),fun j J=>absurd J (aD _)⟩,aU _,by show 1<=5864062014805;decide,aU _,PB,?_,⟨by show(-9223372036854775808:Int)<=1099511627776;decide,by show(1099511627776:Int)<=9223372036854775807;decide⟩⟩
 ·have rR:j=0:=by have :j<1:=J;omega
  subst rR;exact hg.cell 0
 ·have rR:j=0:=by have :j<1:=J;omega
  subst rR;exact⟨sP,kQ,nV,AH⟩
 ·show eJ (d:Int);unfold eJ;omega
theorem OO{C:Pc}(hv:Valid C){lA:Option Addr}{lC:Nat}{l:List Int}{bn d:Nat}(hb:bn<C.aI.length){AM:List (List Int)}{v:Vd}{il:List (List UInt8)}(h:knD (Gv C lA lC l (bn:Int) d) AM v il):
  v.kind=0\/(v.kind=1/\Q1 C C.aI[bn]! <0)\/(v.kind=2/\0<=Q1 C C.aI[bn]! /\v.pb=(bn:Int)/\∃p,Un C C.aI[bn]! bn il p/\v.st=p 0):=by
 have hx:sY (Gv C lA lC l (bn:Int) d)=C.aI[bn]! :=by unfold sY Gv;simp only[Int.toNat_natCast]
 have J:=Rl hv h;rw[hx]at J;rcases h with h |⟨h,-⟩ |⟨h,hp,n,p,i,h1,h2,h3,h4,h5,h6⟩
 ·exact .inl h
 ·exact .inr (.inl ⟨h,J.1 h⟩)
 ·rw[hx]at h6;refine .inr (.inr ⟨h,J.2 h,hp,fun k=>if k<=n then p k else mR C (p n) (i n),?_,?_⟩)
  ·rw[h2];exact aay hv ⟨hb,rfl⟩ h3 h4 h5 h6
  ·simp only[aU,if_true];exact h1
structure ahy(w:World)(H:Hd)(C:Pc)(lA:Option Addr)(lC:Nat)(l:List Int)(bn d:Nat)(SL IL:List (List UInt8))(m K:Nat)(V:Nat->Nat->List UInt8)(AL HD:Nat->Nat->Bool)(O:List Int)(N:Int):Prop where
 hm:SL.length=m
 hK:IL.length=K
 m16:m<=16
 K16:K<=16
 m0:0<m
 K0:0<K
 hO:O.length=m
 lr:∀x∈l,0<=x/\x<=9000
 st:∀W,Fr [] w W->Calls Tryz.prog 12 #[bY H C, .slice none 0 0] W fun e w'=>∃b c,e= .returned (.slice (some ⟨b,0,none⟩) m c)/\Ints w' (some ⟨b,0,none⟩) c O/\Fr [] W w'
 al:∀W,Calls Tryz.prog 13 #[.int .i64 (C.az.length:Int)] W fun e w'=>∃b c,e= .returned (.slice (some ⟨b,0,none⟩) m c)/\eY w' (some ⟨b,0,none⟩) c SL/\Fr [] W w'
 ai:∀W,Calls Tryz.prog 13 #[.int .i64 (C.ins.length:Int)] W fun e w'=>∃b c,e= .returned (.slice (some ⟨b,0,none⟩) K c)/\eY w' (some ⟨b,0,none⟩) c IL/\Fr [] W w'
 kv:∀i k,i<m->k<K->∀W,Fr [] w W->Calls Tryz.prog 14 #[bY H C,sv SL[i]!,sv IL[k]!] W fun e w'=>e= .returned (.tuple #[sv (V i k), .int .i64 0])/\Fr [] W w'
 ka:∀i k,i<m->k<K->∀W,Fr [] w W->Calls Tryz.prog 15 #[bY H C, .slice none 0 0,sv (V i k)] W fun e w'=>e= .returned (.bool (AL i k))/\Fr [] W w'
 kh:∀i k,∀W,Fr [] w W->Calls Tryz.prog 16 #[.string (tx (V i k)), .slice lA l.length lC] W fun e w'=>e= .returned (.bool (HD i k))/\Fr [] W w'
 ck:∀W g,Fr [] w W->At W g 22 #[.slice lA l.length lC]->(∀i,i<m->0<=O[i]! ->∀k,k<K->AL i k=true->HD i k=true)->
  Calls Tryz.prog 17 #[mv (Sd H g) (Gv C lA lC l (bn:Int) d)] W fun e w'=>∃v,e= .returned (.tuple #[lF v, .int .i64 0])/\(v.kind=0\/(v.kind=1/\N<0)\/(v.kind=2/\0<=N/\
   ∀W',Fr [] w' W'->Calls Tryz.prog 19 #[bY H C, .slice none 0 0, .agg #[.int .i64 v.pb,sv v.st, .slice v.A v.n v.c]] W' fun e w2=>e= .returned (.int .i64 0)/\Fr [] W' w2))/\Fr [] W w'
 bd:∀W,Fr [] w W->Calls Tryz.prog 18 #[bY H C, .slice none 0 0, .int .i64 (bn:Int)] W fun e w'=>e= .returned (.int .i64 N)/\Fr [] W w'
theorem Ws{w:World}{H:Hd}{C:Pc}(h:eZ w H C)(gD:H.iA=none->C.ins.length=0/\H.iC=0){lA:Option Addr}{lC:Nat}{l:List Int}(sP:Rd w lA l)(kQ:Ra l)(nV:l.length<=17592186044416)(AH:lA=none->l.length=0/\lC=0){bad:Int}(PB:eJ bad){d:Nat}(hd:d<=5)
  (hu:uV (Gv C lA lC l bad d)=0) (hs:Oq C=true):∃(bn:Nat)(SL IL:List (List UInt8))(m K:Nat)(V:Nat->Nat->List UInt8)(AL HD:Nat->Nat->Bool)(O:List Int)(N:Int),bad=(bn:Int)/\ahy w H C lA lC l bn d SL IL m K V AL HD O N:=by
 obtain⟨J,mT,-⟩:=sE hu;have J:Valid C:=J;have Cy:0<=bad:=mT.1;have nq:bad<(C.aI.length:Int):=mT.2.1;obtain⟨bn,rfl⟩:=Int.eq_ofNat_of_zero_le Cy;have rC:bn<C.aI.length:=by omega
 have jN:sa C.mx [l]:=aaq hu;unfold Oq at hs;simp only[ax,qam]at hs;obtain⟨⟨ni,jB⟩,aB⟩:=hs;have sl:=J.m1;have Cs:∀x∈l,0<=x/\x<=9000:=fun x hx=>by have :=(jN.2 l (ag.2 rfl)).2 x hx;omega
 have yk:(qh C).length=(bW C.az.length).length:=(tN J).1;have je:=Wx J.m0 aB ni hd;refine⟨bn,bW C.az.length,bW C.ins.length,(bW C.az.length).length,(bW C.ins.length).length,fun i k=>vL C (bW C.az.length)[i]! (bW C.ins.length)[k]!,fun i k=>tc C (vL C (bW C.az.length)[i]! (bW C.ins.length)[k]!),fun i k=>l.any (lJ (vL C (bW C.az.length)[i]! (bW C.ins.length)[k]!)),qh C,Q1 C C.aI[bn]!,rfl,
  rfl,rfl,rJ ni,rJ (by omega),j8 _,j8 _,yk,Cs,fun W hW=> ?_,fun W=> ?_,fun W=> ?_,fun i k hi hk W hW=> ?_,fun i k hi hk W hW=> ?_,fun i k W hW=> ?_,fun W g hW hg ad=> ?_,fun W hW=> ?_⟩
 ·refine(ui W H C (h.keep hW) gD J ni (by omega)).mono ?_;rintro e w' ⟨A,c,rfl,h1,-,h2⟩;obtain⟨b,rfl,-⟩:=h1.pos (i:=0) (by rw[yk];exact j8 _);exact⟨b,c,by rw[yk],h1,h2⟩
 ·refine(kB W C.az.length ni).mono ?_;rintro e w' ⟨A,c,rfl,h1,-,h2⟩;obtain⟨b,rfl⟩:=h1.pos (j8 _);exact⟨b,c,rfl,h1,h2⟩
 ·refine(kB W C.ins.length (by omega)).mono ?_;rintro e w' ⟨A,c,rfl,h1,-,h2⟩;obtain⟨b,rfl⟩:=h1.pos (j8 _);exact⟨b,c,rfl,h1,h2⟩
 ·exact nK W H C (h.keep hW) gD J (bk hi) (bk hk)
 ·exact mE W H C (h.keep hW) J _ (aE (qac J _ _) (by omega))
 ·exact G6 W _ lA lC l (sP.keep hW) kQ nV Cs (aE (qac J _ _) (by omega))
 ·have sQ:ae0 C l:=fun i hi ho k hk ha=>ad i hi ho k hk ha;have He:knI (Gv C lA lC l (bn:Int) d) [l] 0 ⟨0,0,[],none,0,0,0⟩:=⟨⟨rfl,rfl,rfl⟩,gE 0,by show(0:Int)<=1099511627776;decide,rfl,fun j hj=>absurd hj (aD _)⟩
  refine(ul W (Sd H g) (Gv C lA lC l (bn:Int) d) (Y6 (h.keep hW) (sP.keep hW) kQ nV AH hg PB hd) hu jN rfl d rfl je (Ww hu jN (by omega) je (Wr J sQ)) He).mono ?_;rintro e w' ⟨v,il,rfl,ar,ab,hn,hf⟩;refine⟨v,rfl,?_,hf⟩;rcases OO J rC ar with h1 |h1 |⟨h1,h2,h3,p,h4,h5⟩
  ·exact .inl h1
  ·exact .inr (.inl h1)
  ·refine .inr (.inr ⟨h1,h2,fun W' Vp=> ?_⟩);rw[h3,h5,hn];exact GF W' H C (h.keep ((hW.ak hf).ak Vp)) gD J v.A v.c il (ab.keep Vp) C.aI[bn]! bn p h4 ab.len
 ·exact GI W H C (h.keep hW) gD J ni (by omega) C.aI[bn]! bn ⟨rC,rfl⟩
set_option maxRecDepth 100000 in
set_option maxHeartbeats 16000000 in
theorem J8(w:World)(H:Hd)(C:Pc)(h:eZ w H C)(gD:H.iA=none->C.ins.length=0/\H.iC=0)(eA:Option Addr)(eC:Nat)(el:List Int)(sP:Rd w eA el)(kQ:Ra el)(nV:el.length<=17592186044416)(AH:eA=none->el.length=0/\eC=0)(bad:Int)(PB:eJ bad)(dep:Int)(sT:eJ dep):
  Calls Tryz.prog 4 #[bY H C, .slice eA el.length eC, .int .i64 bad, .int .i64 dep] w fun e w'=>e= .returned (.bool true)/\Fr [] w w':=by
 obtain⟨w1,eo⟩:∃W,w.alloc (.cells (fv H C) 27)=W:=⟨_,rfl⟩
 have HX:aj (Cx w w1 H C):=eo▸Cx.start w H C;obtain⟨d,hd,bo⟩:=akC dep;have HH:=ae h;have VA:=ae sP;have tf:=ae kQ;have KA:=ae (fun W=>Eh W);obtain⟨U,hU⟩:∃U,uV (Gv C eA eC el bad d)=U:=⟨_,rfl⟩
 have KU:aj (∀W g,Fr [] w W->At W g 22 #[.slice eA el.length eC]->Calls Tryz.prog 9 #[mv (Sd H g) (Gv C eA eC el bad d)] W fun e w'=>e= .returned (.int .i64 U)/\Fr [] W w'):=fun W g hW hg=>by have :=lH W (Sd H g) (Gv C eA eC el bad d) (Y6 (h.keep hW) (sP.keep hW) kQ nV AH hg PB bo);rw[hU]at this;exact this
 obtain⟨SB,bg⟩:∃SB,Oq C=SB:=⟨_,rfl⟩
 have KS:aj (∀W,Calls Tryz.prog 10 #[bY H C] W fun e w'=>e= .returned (.bool SB)/\Fr [] W w'):=fun W=>by have :=F1 W H C;rw[bg]at this;exact this
 have ab:aj (U=0->SB=true->∃(bn:Nat)(SL IL:List (List UInt8))(m K:Nat)(V:Nat->Nat->List UInt8)(AL HD:Nat->Nat->Bool)(O:List Int)(N:Int),bad=(bn:Int)/\ahy w H C eA eC el bn d SL IL m K V AL HD O N):=fun h0 h1=>
  Ws h gD sP kQ nV AH PB bo (hU.trans h0) (bg.trans h1)
 have Fy:aj (∀W g2 g,At W g 40 (pH (Sd H g2) (Gv C eA eC el bad d))->_):=fun W g2 g h=>ku h;clear h gD sP kQ AH PB hU bg sT;have cy:(d:Int)<=5:=by omega
 clear bo;obtain⟨mx,ins,az,outs,aI,aH,au,bD⟩:=C;obtain⟨iA,iC,lA,lC,oA,oC,bA,bC,vA,vC,gA,gC,nA,nC⟩:=H;simp only[bY,fv]at *;simp only[mv,pH,Sd,Gv,List.length_nil,b8,dd]at Fy KU;obtain⟨J,c1,c2,c3,c4,c5,c6,c7⟩:=HX.o.cells;go_enter Tryz.func4,Tryz.ntmps4;go_wp2_with fail;refine(KA.o _).mono ?_;rintro e w2 ⟨rfl,cE⟩;have fZ:=ae (HX.o.keep cE);clear cE J c1 c2 c3 c4 c5 c6 c7 KA eo HX;obtain⟨g2,fu⟩:∃g,w2.heap.size=g:=⟨_,rfl⟩
 obtain⟨w3,ow⟩:∃W,w2.alloc (.cells #[.slice eA el.length eC] 22)=W:=⟨_,rfl⟩
 obtain⟨g3,AK⟩:∃g,w3.heap.size=g:=⟨_,rfl⟩
 obtain⟨w4,vE⟩:∃W,w3.alloc (.cells (pH (Sd ⟨iA,iC,lA,lC,oA,oC,bA,bC,vA,vC,gA,gC,nA,nC⟩ g2) (Gv ⟨mx,ins,az,outs,aI,aH,au,bD⟩ eA eC el bad d)) 40)=W:=⟨_,rfl⟩
 have aT:At w4 g3 40 (pH (Sd ⟨iA,iC,lA,lC,oA,oC,bA,bC,vA,vC,gA,gC,nA,nC⟩ g2) (Gv ⟨mx,ins,az,outs,aI,aH,au,bD⟩ eA eC el bad d)):=AK▸(vE▸At.new _ _ _);simp only[pH,Sd,Gv,List.length_nil,b8,dd]at vE aT;have IW:At w3 g2 22 #[.slice eA el.length eC]:=fu▸(ow▸At.new _ _ _);have dN:Fr [] w2 w3:=ow▸aR _ _;have fG:Fr [] w3 w4:=vE▸aR _ _;have jr:=ae (fZ.o.keep (dN.ak fG));have N9:=ae (IW.keep fG);have HQ:=ae (fun W (hW:Fr [] w4 W)=>Fy.o W g2 g3 (aT.keep hW));have b1:=ae (KU.o w4 g2 jr.o.fr N9.o);have Q5:=ae vE;obtain⟨J,c1,c2,c3,c4,c5,c6,c7⟩:=fZ.o.cells;clear vE aT IW dN fG Fy KU;go_upto_region 4 with fail;rw[Q5.o];clear J c1 c2 c3 c4 c5 c6 c7 ow AK fu Q5 fZ hd;obtain⟨q0,q1,q2,q3,q4,q5,q6,q7,q8,q9,jG,jF,jL,jR⟩:=HQ.o w4 (Fr.refl _ _);go_wp2_with fail;refine b1.o.mono ?_;rintro e w5 ⟨rfl,fT⟩;have js:=ae fT;clear q0 q1 q2 q3 q4 q5 q6 q7 q8 q9 jG jF jL jR fT b1;by_cases bj:U=0
 ·subst bj;have b2:=ae (ab.o rfl);clear ab;obtain⟨J,c1,c2,c3,c4,c5,c6,c7⟩:=(jr.o.keep js.o).cells;go_wp2_with fail;refine(KS.o w5).mono ?_;rintro e w6 ⟨rfl,gQ⟩;have fC:=ae (js.o.ak gQ);clear J c1 c2 c3 c4 c5 c6 c7 gQ js KS;cases SB with
  |false=>
   go_wp2;go_ret;exact⟨rfl,jr.o.fr.ak fC.o⟩
  |true=>
   obtain⟨bn,SL,IL,m,K,V,AL,HD,O,N,rfl,kk⟩:=b2.o (by first |rfl |trivial);have LK:=ae kk;have cc:=kk.m16;have cf:=kk.K16;have uY:=kk.m0;have cz:=kk.K0;clear kk b2;go_wp2_with fail;go_loopg [10] el.length (fun g tj wr=>∃j:Nat,j+g=el.length/\tj= .int .i64 j/\aj (Fr [] w4 wr));case atStart=>exact⟨0,by omega,rfl,fC⟩
   case round=>
    clear fC;obtain⟨j,hk,rfl,Js⟩:=hrel;obtain⟨wk,rfl⟩:∃x,x=wr:=⟨_,rfl⟩
    have HK:=ae hk;have QS:j<=el.length:=(by omega)
    clear hk;by_cases bt:j<el.length
    ·have qJ:(j:Int)<(el.length:Int):=(by omega)
     have ar:=ae (jr.o.fr.ak Js.o);obtain⟨b,o,x,hA,he,cx,-,-⟩:=(VA.o.keep ar.o).one tf.o bt;subst hA;have rN:0<=x/\x<=9000:=LK.o.lr x (by rw[<-he.o];exact bk bt);obtain⟨n,hn⟩:∃n:Nat,x/2=n:=⟨(x/2).toNat,by omega⟩
     have Je:x.tdiv 2=(n:Int):=by rw[Int.tdiv_eq_ediv_of_nonneg (by omega)];exact hn
     have aK:(n:Int)=wrap64 (n:Int):=(IntWalk.wrap64_in _ (by omega)).symm;have ex:=Ext.cell cx;obtain⟨J,c1,c2,c3,c4,c5,c6,c7⟩:=(jr.o.keep Js.o).cells;obtain⟨e0,e1,e2,e3,e4,e5,e6,e7⟩:=zO J c1 c2 c3 c4 c5 c6 c7;by_cases ad:gP ⟨mx,ins,az,outs,aI,aH,au,bD⟩ (n:Int)=true
     ·obtain⟨ch,Cv⟩:=So ad;have KQ:=ae (fun W (hf:Fr [] w W)=>GG W _ _ (n:Int) (HH.o.keep hf) ad ch Cv);simp only[bY,fv]at KQ;rw[aK]at KQ;clear Cv ad hn aK;go_upto_region 9 with fail;refine ap ?_;repeat (go_big_quiet_step (exact bf (KQ.o _ (ar.o.ak (Ext.fr _)))))
      refine fq ?_;intro w7 kp;clear J c1 c2 c3 c4 c5 c6 c7 cx ex e0 e1 e2 e3 e4 e5 e6 e7;go_wp2;go_roundg (gk-1);case measure=>have :=HK.o;omega
      case rel=>exact⟨j+1,by have :=HK.o;omega,by go_num,Js.o.ak kp.o⟩
     ·have KQ:=ae (fun W (hf:Fr [] w W)=>Na W _ _ (n:Int) (HH.o.keep hf) (fa.2 ad));simp only[bY,fv]at KQ;rw[aK]at KQ;clear ad hn aK;go_upto_region 9 with fail;refine ap ?_;repeat (go_big_quiet_step (exact bf (KQ.o _ (ar.o.ak (Ext.fr _)))))
      refine fq ?_;intro w7 kp;clear J c1 c2 c3 c4 c5 c6 c7 cx ex e0 e1 e2 e3 e4 e5 e6 e7;go_wp2;go_ret;exact⟨rfl,ar.o.ak kp.o⟩
    ·have Fq:¬(j:Int)<(el.length:Int):=(by omega)
     clear HK HH;go_upto_region 11 with fail;refine qan ?_;refine bw (fun w':World=>Fr [] wk w') 9 (by kernel_rfl) ((Fr.refl _ wk).drew) (fun dy=> ?_);refine TB 7 [(0,[0,1,5,9]),(2,[]),(3,[3,4,5,9]),(4,[]),(6,[]),(7,[7,8,9]),(8,[])] dy ?_ (hr:=by(repeat (apply ZR;rfl;rfl;(intro w bT;(try(have bT:=bT.resolve_left (List.cons_ne_nil _ _);(obtain⟨q0,q1,q2,q3,q4,q5,q6,q7⟩:=(jr.o.keep (Js.o.ak bT)).cells)));go_simp<;>with_reducible rfl);try simp only[Act.put,q5,q6,q7]));exact ZQ);intro dy;refine R2 1 dy fun K hK aM=> ?_
     (go_simp;refine(LK.o.st _ (jr.o.fr.ak (Js.o.ak aM))).mono ?_;rintro e wA ⟨bO,cO,rfl,b4,b6⟩;dsimp only);have bG:=ae b4;have Ff:=ae (aM.ak b6);clear b4 b6
     refine hK.out _ _ (.inr ?_) (fun Lo=> ?_)
     ·first |exact Mm.o |exact Ff.o |exact aM
     clear hK K;try simp only[Act.put,q5,q6,q7]
     refine R2 5 Lo fun K hK aM=> ?_
     (go_simp;refine(LK.o.al _).mono ?_;rintro e wB ⟨bS,cS,rfl,hS,Xs⟩;dsimp only);have nY:=ae hS;have b0:aj (Ints _ _ _ _):=bG.o.fr Xs (by simp);have Mm:=ae (aM.ak Xs);clear hS Xs bG Ff
     refine hK.out _ _ (.inr ?_) (fun TD=> ?_)
     ·first |exact Mm.o |exact Ff.o |exact aM
     clear hK K;try simp only[Act.put,q5,q6,q7]
     refine R2 9 TD fun K hK aM=> ?_
     (go_simp;refine(LK.o.ai _).mono ?_;rintro e wI ⟨bI,cI,rfl,hI,QU⟩;dsimp only);have Z3:=ae (nY.o.keep QU);have Md:aj (Ints _ _ _ _):=b0.o.fr QU (by simp);have VG:=ae hI;have vY:=ae (Mm.o.ak QU);clear hI QU nY Mm b0
     refine hK.out _ _ (.inl rfl) (fun kG=> ?_);clear hK K;try simp only[Act.put,q5,q6,q7]
     refine R1 (i:=10) (o:= ?aiX) (by kernel_rfl) (by rfl) ?_;intro K hK;go_simp;refine hK.out _ _ (.inl rfl) (fun nO=> ?_);clear hK K;try simp only[Act.put,q5,q6,q7]
     refine R1 (i:=11) (o:= ?aiW) (by kernel_rfl) (by rfl) ?_;intro K hK;go_simp;refine hK.out _ _ (.inl rfl) (fun jO=> ?_);clear hK K;try simp only[Act.put,q5,q6,q7]
     refine R1 (i:=12) (o:= ?aiV) (by kernel_rfl) (by rfl) ?_;intro K hK;go_simp;refine hK.out _ _ (.inl rfl) (fun oE=> ?_);clear hK K;try simp only[Act.put,q5,q6,q7]
     refine fO ?_;have b3:=ae (Js.o.ak vY.o);have IU:=ae (jr.o.keep b3.o);have Yq:aj (∀W,Fr [] wI W->∀k,k<m->W.cell? ⟨bS,k,none⟩=some (sv SL[k]!)):=fun W hW k hk=>(Z3.o.keep hW).cell (by rw[LK.o.hm];exact hk);have cb:aj (∀W,Fr [] wI W->∀k,k<K->W.cell? ⟨bI,k,none⟩=some (sv IL[k]!)):=fun W hW k hk=>(VG.o.keep hW).cell (by rw[LK.o.hK];exact hk);have bB:aj (∀W,Fr [] wI W->∀k,k<m->W.cell? ⟨bO,k,none⟩=some (.int .i64 O[k]!)):=fun W hW k hk=>(Md.o.fr hW (by simp)).cell (by rw[LK.o.hO];exact hk);have Fa:aj (∀W,Fr [] wI W->Fr [] w W):=fun W hW=>IU.o.fr.ak hW;have Mm:aj (Fr [] wI wI):=Fr.refl _ _;clear Z3 VG Md vY Js;try clear dy
     try clear oE
     go_wp2_with fail;go_loopg [14,15,16,17] m (fun gi QC QB Ve MA wo=>∃i:Nat,i+gi=m/\QC= .int .i64 i/\aj (∀a,a<i->0<=O[a]! ->∀k,k<K->AL a k=true->HD a k=true)/\aj (Fr [] wI wo));case atStart=>exact⟨0,by omega,rfl,fun a ha=>absurd ha (aD _),Mm⟩
     case round=>
      clear Mm;obtain⟨i,hk,rfl,a1,Ff⟩:=hrel;obtain⟨wo,rfl⟩:∃x,x=wr:=⟨_,rfl⟩
      have IZ:=ae hk;have mO:i<=m:=(by omega)
      clear hk;by_cases SY:i<m
      ·have cr:(i:Int)<(m:Int):=(by omega)
       have ba:aj ((0<=O[i]! ->∀k,k<K->AL i k=true->HD i k=true)->∀a,a<i+1->0<=O[a]! ->∀k,k<K->AL a k=true->HD a k=true):=fun h a ha=>by
        by_cases e:a=i
        ·subst e;exact h
        ·exact a1.o a (by omega)
       obtain⟨s,hs⟩:∃s,O[i]! =s:=⟨_,rfl⟩
       have HS:=ae hs;rw[hs]at ba;clear hs;by_cases hc:0<=s
       ·have d1:decide (0<=s)=true:=qak hc;go_wp2_with fail;go_loopg [15,16,17] K (fun gl QB Ve MA wk=>∃k:Nat,k+gl=K/\QB= .int .i64 k/\aj (∀a,a<k->AL i a=true->HD i a=true)/\aj (Fr [] wI wk));case atStart=>exact⟨0,by omega,rfl,fun a ha=>absurd ha (aD _),Ff⟩
        case round=>
         clear Ff;obtain⟨k,hk,rfl,ab,oS⟩:=hrel;obtain⟨wz,rfl⟩:∃x,x=wr:=⟨_,rfl⟩
         have uQ:=ae hk;have iS:k<=K:=(by omega)
         clear hk;by_cases qI:k<K
         ·have Zw:(k:Int)<(K:Int):=(by omega)
          have xr:aj ((AL i k=true->HD i k=true)->∀a,a<k+1->AL i a=true->HD i a=true):=fun h a ha=>by
           by_cases e:a=k
           ·subst e;exact h
           ·exact ab.o a (by omega)
          have ci:=bB.o wz oS.o i SY;rw[HS.o]at ci;obtain⟨J,c1,c2,c3,c4,c5,c6,c7⟩:=(IU.o.keep oS.o).cells;have kF:=Yq.o wz oS.o i SY;have vJ:=cb.o wz oS.o k qI;have IS:=ae (LK.o.kv i k SY qI);have CR:=ae (LK.o.ka i k SY qI);have aB:=ae (LK.o.kh i k);obtain⟨al,vN⟩:∃al,AL i k=al:=⟨_,rfl⟩
          obtain⟨hd,K2⟩:∃hd,HD i k=hd:=⟨_,rfl⟩
          rw[vN]at CR xr;rw[K2]at aB xr;simp only[sv]at kF vJ IS CR;obtain⟨ZS,PD⟩:∃Z:ByteArray,(⟨(SL[i]!).toArray⟩:ByteArray)=Z:=⟨_,rfl⟩
          obtain⟨ZI,EC⟩:∃Z:ByteArray,(⟨(IL[k]!).toArray⟩:ByteArray)=Z:=⟨_,rfl⟩
          obtain⟨ZV,Fu⟩:∃Z:ByteArray,(⟨(V i k).toArray⟩:ByteArray)=Z:=⟨_,rfl⟩
          rw[PD]at kF;rw[EC]at vJ;rw[PD,EC,Fu]at IS;rw[Fu]at CR;rw[show tx (V i k)=ZV from Fu]at aB;try simp only[bY,fv]at IS CR
          clear vN K2 PD EC Fu;have Uy:=ae (Fa.o wz oS.o);obtain⟨s0,s1,s2,s3,s4,s5,s6,s7⟩:=zO J c1 c2 c3 c4 c5 c6 c7;have s8:=Ext.cell kF;have s9:=Ext.cell vJ;go_upto_region 18 with fail;refine ap ?_;repeat (go_big_quiet_step (exact bf (IS.o _ (Uy.o.ak (Ext.fr _)))))
          refine fq ?_;intro w7 kp;have mP:=ae (oS.o.ak kp.o);clear J c1 c2 c3 c4 c5 c6 c7 s0 s1 s2 s3 s4 s5 s6 s7 s8 s9 kF vJ kp IS ci oS Uy;obtain⟨J,c1,c2,c3,c4,c5,c6,c7⟩:=(IU.o.keep mP.o).cells;go_wp2_with fail;refine(CR.o w7 (Fa.o _ mP.o)).mono ?_;rintro e w8 ⟨rfl,kc⟩;have pV:=ae (mP.o.ak kc);clear J c1 c2 c3 c4 c5 c6 c7 kc CR mP;cases al with
          |false=>
           go_wp2;go_roundg (gk-1);case measure=>have :=uQ.o;omega
           case rel=>exact⟨k+1,by have :=uQ.o;omega,by go_num,xr.o (fun h=>by cases h),pV⟩
          |true=>
           go_wp2_with fail;refine(aB.o w8 (Fa.o _ pV.o)).mono ?_;rintro e w9 ⟨rfl,rT⟩;have th:=ae (pV.o.ak rT);clear rT aB pV;cases hd with
           |false=>
            go_wp2;go_ret;exact⟨rfl,Fa.o _ th.o⟩
           |true=>
            go_wp2;go_roundg (gk-1);case measure=>have :=uQ.o;omega
            case rel=>exact⟨k+1,by have :=uQ.o;omega,by go_num,xr.o (fun _=>by first |rfl |trivial),th⟩
         ·have cp:¬(k:Int)<(K:Int):=(by omega)
          have bb:=ae (ba.o (fun _ a ha=>ab.o a (by omega)));clear uQ ab;go_wp2;go_roundg (m-(i+1));case measure=>have :=IZ.o;omega
          case rel=>exact⟨i+1,by have :=IZ.o;omega,by go_num,bb,oS⟩
       ·have d1:decide (0<=s)=false:=qaj hc;have bb:=ae (ba.o (fun h=>absurd h hc));go_wp2_with fail;go_loopg [15] 0 (fun gl QB wk=>QB= .int .i64 0/\aj (Fr [] wI wk));case atStart=>exact⟨rfl,Ff⟩
        case round=>
         clear Ff;obtain⟨rfl,oS⟩:=hrel;obtain⟨wz,rfl⟩:∃x,x=wr:=⟨_,rfl⟩
         have ci:=bB.o wz oS.o i SY;rw[HS.o]at ci;have cn:(0:Int)<(K:Int):=(by omega)
         go_wp2;go_roundg (m-(i+1));case measure=>have :=IZ.o;omega
         case rel=>exact⟨i+1,by have :=IZ.o;omega,by go_num,bb,oS⟩
      ·have ct:¬(i:Int)<(m:Int):=(by omega)
       have ic:=ae (b3.o.ak Ff.o);have KC:=LK.o.ck wo g2 (jr.o.fr.ak ic.o) (N9.o.keep ic.o) (fun a ha=>a1.o a (by omega));simp only[mv,pH,Sd,Gv,lF,sv,List.length_nil,b8,dd]at KC;have KB:=ae LK.o.bd;simp only[bY,fv]at KB KC;have KC:=ae KC;obtain⟨q0,q1,q2,q3,q4,q5,q6,q7,q8,q9,jG,jF,jL,jR⟩:=HQ.o wo ic.o;clear a1 IZ;go_wp2_with fail;refine KC.o.mono ?_;rintro e w7 ⟨⟨vk,pb,st,b7,vn,vc,us⟩,rfl,hv,jg⟩;simp only at hv;have HV:=ae hv;have mP:=ae (Ff.o.ak jg);clear hv q0 q1 q2 q3 q4 q5 q6 q7 q8 q9 jG jF jL jR KC ic Ff;go_upto_region 22 with fail;obtain⟨w8,Fl⟩:∃W,w7.alloc (.cells #[.int .i64 vk, .int .i64 pb, .string ⟨st.toArray⟩, .slice b7 vn vc, .slice none 0 0, .slice none 0 0, .int .i64 us] 35)=W:=⟨_,rfl⟩
       have j4:At w8 w7.heap.size 35 #[.int .i64 vk, .int .i64 pb, .string ⟨st.toArray⟩, .slice b7 vn vc, .slice none 0 0, .slice none 0 0, .int .i64 us]:=Fl▸At.new _ _ _;have CZ:=ae j4;have kc:Fr [] w7 w8:=Fl▸aR _ _;have YH:=ae kc;have pV:=ae (mP.o.ak kc);obtain⟨g7,Tk⟩:∃g,w7.heap.size=g:=⟨_,rfl⟩
       rw[Fl,Tk];rw[Tk]at CZ;clear Fl j4 kc Tk jg;obtain⟨J,c1,c2,c3,c4,c5,c6,c7⟩:=(IU.o.keep pV.o).cells;go_wp2_with fail;refine(KB.o w8 (Fa.o _ pV.o)).mono ?_;rintro e w9 ⟨rfl,rT⟩;have th:=ae (pV.o.ak rT);have ca:=ae (YH.o.ak rT);obtain⟨r0,r1,r2,r3,r4,r5,r6⟩:=Ad (CZ.o.keep rT);clear rT KB pV YH J c1 c2 c3 c4 c5 c6 c7;rcases HV.o with h0 |⟨h1,hN⟩ |⟨h2,hN,hP⟩
       ·subst h0;clear HV;go_wp2;go_ret;exact⟨rfl,Fa.o _ th.o⟩
       ·subst h1;clear HV;have dn:decide (N<0)=true:=qak hN;go_wp2;go_ret;exact⟨rfl,Fa.o _ th.o⟩
       ·subst h2;clear HV;have dn:decide (0<=N)=true:=qak hN;have KP:=hP w9 ca.o;try simp only[bY,fv,sv]at KP
        have KP:=ae KP;clear hP;obtain⟨J,c1,c2,c3,c4,c5,c6,c7⟩:=(IU.o.keep th.o).cells;go_wp2_with fail;refine KP.o.mono ?_;rintro e wE ⟨rfl,b5⟩;have b9:=ae (th.o.ak b5);clear b5 KP J c1 c2 c3 c4 c5 c6 c7 r0 r1 r2 r3 r4 r5 r6;go_wp2;go_ret;exact⟨rfl,Fa.o _ b9.o⟩
 ·have dU:(U !=0)=true:=by simpa using bj
  clear bj;go_wp2;go_ret;exact⟨rfl,jr.o.fr.ak js.o⟩
end
end Go.Proofs.YtpjbaobgnhjgoaaGreat
