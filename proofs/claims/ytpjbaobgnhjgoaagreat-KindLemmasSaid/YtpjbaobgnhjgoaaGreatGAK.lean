/- Parts of a proof. -/
import Derived.Test.YtpjbaobgnhjgoaaGreatGAJ
set_option linter.unusedVariables false
set_option linter.unusedSimpArgs false
namespace Go.Proofs.YtpjbaobgnhjgoaaGreat
open Go.RowKit
namespace Sv
structure Mo(S S':Sv):Prop where
 pre:∃Z,S'.R=S.R++Z/\∀e∈Z,e.r≠0
 lits:∀n,(S'.rc n).lits.Perm (S.rc n).lits
 nI:∀n,(S'.rc n).nI=(S.rc n).nI
theorem Mo.refl(S:Sv):Mo S S:=⟨⟨[],by simp,fun e h=>by cases h⟩,fun n=>dM _,fun n=>rfl⟩
theorem Mo.same{S S':Sv}(h1:S'.T=S.T)(J:S'.list=S.list):Mo S S':=by
 refine⟨⟨[],by rw[ew h1];simp,fun e h=>by cases h⟩,fun n=> ?_,fun n=> ?_⟩
 ·unfold rc;rw[J]
 ·unfold rc;rw[J]
theorem Mo.trans{S S1 S2:Sv}(h:Mo S S1)(k:Mo S1 S2):Mo S S2:=by
 obtain⟨Z,hZ,hr⟩:=h.pre;obtain⟨Z',J,ab⟩:=k.pre;refine⟨⟨Z++Z',by rw[J,hZ,dB],fun e he=> ?_⟩,fun n=>(k.lits n).trans (h.lits n),fun n=>(k.nI n).trans (h.nI n)⟩;rcases ah.1 he with h1 |h1
 ·exact hr e h1
 ·exact ab e h1
theorem Mo.fg(S:Sv){n:Nat}{l:List Int}(h:l.Perm (S.rc n).lits):Mo S (S.fg n l):=by
 refine⟨⟨[],by rw[cq];rfl,fun e h=>by cases h⟩,fun j=> ?_,fun j=> ?_⟩
 ·rw[nc];split
  ·rename_i e;rw[<-e.1];exact h
  ·exact dM _
 ·rw[nc];split
  ·rename_i e;rw[<-e.1]
  ·rfl
theorem Mo.cY{S:Sv}{m:Nat}(ok:S.Ok m)(n:Nat)(off:Int):Mo S (S.cY n off):=by
 unfold Sv.cY;split
 ·refine Mo.fg S ?_;by_cases h:(S.rc n).lits=[]
  ·rw[h];exact dM _
  ·have :=qae ok h;exact iI (by omega) (by omega)
 ·exact Mo.refl S
theorem Mo.Ce(S:Sv)(n:Nat):Mo S (S.dO n).1:=by
 unfold Sv.dO;cases hk:S.iu (S.rc n).lits (S.rc n).lits.length 2 with
 |none=>exact Mo.refl S
 |some k=>
  obtain⟨k1,J,k3⟩:=ux _ _ _ hk;exact(Mo.fg S (iI (i:=1) (by omega) J)).trans (Mo.same rfl rfl)
theorem Mo.put{S:Sv}{m:Nat}(ok:S.Ok m)(x:Int){r:Int}(hr:r≠0):Mo S (S.put x r):=by
 by_cases J:S.T.ke x=true
 ·refine⟨⟨_,sA ok J,fun e he=>by rw[ag.1 he];exact hr⟩,fun n=>dM _,fun n=>rfl⟩
 ·refine Mo.same ?_ rfl;unfold Sv.put;simp only;rw[qah J]
theorem Mo.visit{S:Sv}{m:Nat}(ok:S.Ok m)(n:Nat)(off:Int):Mo S (S.dC n off).1:=by
 unfold dC;split
 ·exact Mo.refl S
 ·have h1:=Mo.cY ok n off;have xB:=Ok.cY ok n off;generalize S.cY n off=J at *;unfold gM;simp only;split
  ·exact h1
  ·split
   ·exact h1.trans (Mo.Ce J n)
   ·split
    ·exact h1
    ·exact h1.trans (Mo.put xB _ (by omega))
theorem VI.visit{S:Sv}{e0:St}{n:Nat}{r keep:List Nat}(h:S.VI e0 (n::r) keep):
  ((S.dC n (-e0.x)).2.2=true->(S.dC n (-e0.x)).1.VI e0 r (if(S.dC n (-e0.x)).2.1=true then keep++[n]else keep))/\
  ((S.dC n (-e0.x)).2.2=false->(S.dC n (-e0.x)).2.1=true/\(S.dC n (-e0.x)).1.VI e0 (n::r) keep/\(S.dC n (-e0.x)).1.Of n/\((S.dC n (-e0.x)).1.rc n).lits≠[]):=by
 unfold dC;by_cases hn:(S.rc n).lits.length=0
 ·rw[qai hn];exact⟨fun _=>h.dead (aX hn),fun h=>by cases h⟩
 ·rw[qah hn];obtain⟨h1,h2,h3,h4⟩:=h.cY (fun e=>hn (by rw[e];rfl));generalize S.cY n (-e0.x)=J at *;unfold gM;simp only;by_cases hv:(0:Int)<J.val (J.rc n).lits[0]!
  ·rw[qai hv];exact⟨fun _=>h1.stay h3 h2 hv,fun h=>by cases h⟩
  ·rw[qah hv];by_cases hm:(J.dO n).2=true
   ·rw[qai hm];exact⟨fun _=>h1.Ce h3 h2 hv hm,fun h=>by cases h⟩
   ·rw[qah hm];by_cases oy:J.val (J.rc n).lits[0]! <0
    ·rw[qai oy];exact⟨fun h=>(by cases h),fun _=>⟨rfl,h1,h1.cfl h3 h2 hm oy,h3⟩⟩
    ·rw[qah oy];exact⟨fun _=>h1.put h3 h2 hm (by omega),fun h=>by cases h⟩
theorem pY(S:Sv){c:Nat}(l:List Nat)(hc:c<S.watch.length)(j:Nat):(S.cJ c l).gG j=if j=c then l else S.gG j:=by
 unfold gG cJ;rw[eQ];by_cases e:c=j
 ·rw[qai ⟨e,hc⟩,qai e.symm]
 ·rw[qah (fun h=>e h.1),qah (fun h=>e h.symm)]
theorem NM{x:Int}{v:Nat}(h1:1<=tv x)(J:tv x<=v)(hv:v<=262143):aW (-x)<2*v+2:=by
 unfold tv at h1 J;refine iR ?_ ?_
 ·split at J
  ·omega
  ·split at J<;>omega
 ·split at J
  ·omega
  ·split at J
   ·omega
   ·rename_i e1 e2;rw[qah e1,qah e2]at h1;omega
theorem VI.code{S:Sv}{e0:St}{todo keep:List Nat}(h:S.VI e0 todo keep):aW (-e0.x)<S.watch.length:=by have h1:=iE h.ok h.at.1;rw[h.ok.wl];exact NM h1.1 h1.2.1 h.ok.vl
theorem VI.end_{S:Sv}{e0:St}{keep:List Nat}(h:S.VI e0 [] keep)(hb:∀n∈keep,n<S.list.length):
  ({ S.cJ (aW (-e0.x)) (keep++S.gG (aW (-e0.x)))with head:=S.head+1 }:Sv).Inv:=by
 obtain⟨sq,K2,oD⟩:=h.at;have hc:=h.code;rw[h.OB,cq];have o:(S.cJ (aW (-e0.x)) keep).Ok 0:=h.ok.cJ hc hb (by simp);have hw:∀c,(S.cJ (aW (-e0.x)) keep).gG c=S.W (-e0.x) (keep++[]) c:=fun c=>by rw[pY S keep hc,cq];rfl
 have yi:S.R.take (S.head+1)=S.R.take S.head++[e0]:=by rw[List.take_add_one,h.at_];rfl
 refine⟨⟨o.vl,o.tr,o.hi,o.hl,o.ph,o.wl,o.ll,o.wb,o.wt,o.lr,o.ln,o.lb,?_,o.rs⟩,h.lT,h.wu,h.dec,fun e he=> ?_,⟨fun c=> ?_,fun c n hn hl=> ?_,fun n hl=> ?_⟩,fun n hl e he=> ?_⟩
 ·show S.head+1<=S.T.lits.length;rw[<-ko];omega
 ·have he:e∈S.R.drop (S.head+1):=he;refine h.hd e ?_;rw[List.drop_eq_getElem_cons K2];exact bU _ he
 ·exact(hw c)▸h.wi.nd c
 ·exact h.wi.wd c n ((hw c)▸hn) hl
 ·have :=h.wi.wc n hl;rw[<-hw,<-hw]at this;exact this
 ·have he:e∈S.R.take (S.head+1):=he;rw[yi]at he;rcases ah.1 he with h1 |h1
  ·exact h.wt n hl e h1
  ·have ad:=ag.1 h1;subst ad;have ab:=h.wi.wc n hl;have hk:∀x:Int,n∈S.W (-e.x) (keep++[]) (aW x)->e.x= -x->n∈keep:=fun x hx J=>by rw[show x= -e.x by omega,Ap,cq]at hx;exact hx
   exact⟨fun J=>(h.wk n (hk _ ab.1 J) hl e bM).1 J,fun J=>(h.wk n (hk _ ab.2 J) hl e bM).2 J⟩
theorem VI.stop{S:Sv}{e0:St}{todo keep:List Nat}(h:S.VI e0 todo keep)(J:∀n∈keep++todo,n<S.list.length):
  (S.cJ (aW (-e0.x)) (keep++todo)).Inv:=by
 have hc:=h.code;have o:(S.cJ (aW (-e0.x)) (keep++todo)).Ok 0:=h.ok.cJ hc J (by simp);have hw:∀c,(S.cJ (aW (-e0.x)) (keep++todo)).gG c=S.W (-e0.x) (keep++todo) c:=fun c=>by rw[pY S _ hc];rfl
 refine⟨o,h.lT,h.wu,h.dec,h.hd,⟨fun c=> ?_,fun c n hn hl=> ?_,fun n hl=> ?_⟩,h.wt⟩
 ·exact(hw c)▸h.wi.nd c
 ·exact h.wi.wd c n ((hw c)▸hn) hl
 ·have :=h.wi.wc n hl;rw[<-hw,<-hw]at this;exact this
theorem VI.p8{e0:St}:∀(ws keep:List Nat)(S:Sv),S.VI e0 ws keep->(∀n∈keep++ws,n<S.list.length)->
  Mo S (cg (-e0.x) ws keep S).1/\
  ((cg (-e0.x) ws keep S).2=none->({ (cg (-e0.x) ws keep S).1 with head:=(cg (-e0.x) ws keep S).1.head+1 }:Sv).Inv)/\
  ∀n,(cg (-e0.x) ws keep S).2=some n->(cg (-e0.x) ws keep S).1.Inv/\(cg (-e0.x) ws keep S).1.Of n/\((cg (-e0.x) ws keep S).1.rc n).lits≠[]
 |[],keep,S,h,J=>by
  simp only[cg];exact⟨Mo.same rfl rfl,fun _=>h.end_ (fun n hn=>J n (by simpa using hn)),fun n h=>by cases h⟩
 |n::r,keep,S,h,J=>by
  simp only[cg];obtain⟨v1,v2⟩:=h.visit;have ab:=Mo.visit h.ok n (-e0.x);have nV:=(Ok.visit (h.ok.less (m':=keep.length+r.length+1) (by simp only[b8];omega)) (J n (by simp)) (-e0.x)).2.2.1;generalize S.dC n (-e0.x)=q at *;obtain⟨S1,b1,b2⟩:=q;simp only at v1 v2 ab nV⊢;cases b2 with
  |true=>
   rw[qai rfl];obtain⟨i1,i2,i3⟩:=VI.p8 r _ S1 (v1 rfl) (fun j hj=>by
    rw[nV];rcases ah.1 hj with h1 |h1
    ·split at h1
     ·rcases ah.1 h1 with h2 |h2
      ·exact J j (by simp[h2])
      ·exact J j (by simp at h2;simp[h2])
     ·exact J j (by simp[h1])
    ·exact J j (by simp[h1]))
   exact⟨ab.trans i1,i2,i3⟩
  |false=>
   rw[qah (by simp)];obtain⟨nq,k1,k2,k3⟩:=v2 rfl;subst nq;have pO:=k1.stop (fun j hj=>by rw[nV];exact J j hj);refine⟨ab.trans (Mo.same rfl rfl),fun h=>(by cases h),fun j hj=> ?_⟩;simp only[Option.some.injEq]at hj;subst hj;have ha:(keep++[n])++r=keep++n::r:=by simp
   rw[qai rfl,ha];exact⟨pO,k2,k3⟩
theorem Inv.begin{S:Sv}(h:S.Inv){e0:St}(h0:S.R[S.head]? =some e0):(S.cJ (aW (-e0.x)) []).VI e0 (S.gG (aW (-e0.x))) []:=by
 have hm:e0∈S.R:=List.mem_of_getElem? h0;have h1:=iE h.ok hm;have lP:=h.ok.vl;have hc:aW (-e0.x)<S.watch.length:=by rw[h.ok.wl];exact NM h1.1 h1.2.1 lP
 have o:(S.cJ (aW (-e0.x)) []).Ok (([]:List Nat).length+(S.gG (aW (-e0.x))).length):=h.ok.cJ hc (fun n J=>by cases J) (by simp);have hw:∀c,(S.cJ (aW (-e0.x)) []).W (-e0.x) ([]++S.gG (aW (-e0.x))) c=S.gG c:=fun c=>by
  unfold W;rw[pY S [] hc];by_cases e:c=aW (-e0.x)
  ·rw[qai e,e];rfl
  ·rw[qah e,qah e]
 refine⟨o,h.lT,h.wu,h.dec,h.hd,h0,?_,⟨fun c=> ?_,fun c n J hl=> ?_,fun n hl=> ?_⟩,h.wt,fun n J=>by cases J⟩
 ·rw[pY S [] hc,qai rfl]
 ·rw[hw];exact h.wi.nd c
 ·rw[hw]at J;exact h.wi.wd c n J hl
 ·rw[hw,hw];exact h.wi.wc n hl
theorem Ea{S:Sv}{m:Nat}(ok:S.Ok m):S.T.lits.length<=S.vars:=by
 have J:=ok.rep.nd;have tm:(S.R.map fun e:St=>(tv e.x-1).toNat).Nodup:=by unfold List.Nodup at J⊢;rw[List.pairwise_map]at J⊢;refine List.Pairwise.imp_of_mem ?_ J;intro a b ha hb dV e;have :=iE ok ha;have :=iE ok hb;omega
 have :=lM S.vars _ tm (fun x hx=>by rw[aN]at hx;obtain⟨e,he,rfl⟩:=hx;have :=iE ok he;omega);rw[<-ko];simpa using this
theorem uw:∀(f:Nat)(S:Sv),S.Inv->S.vars+1<=f+S.head->(dE f S).1.Inv/\Mo S (dE f S).1/\((dE f S).2=none->(dE f S).1.head=(dE f S).1.T.lits.length)/\∀n,(dE f S).2=some n->(dE f S).1.Of n/\((dE f S).1.rc n).lits≠[]
 |0,S,h,hf=>by
  have h1:=Ea h.ok;have h2:=h.ok.hd;omega
 |f+1,S,h,hf=>by
  by_cases hh:S.head<S.T.lits.length
  ·rw[zM hh];obtain⟨e0,sq⟩:∃e0,S.R[S.head]? =some e0:=⟨_,af (by rw[ko];exact hh)⟩
   have hx:S.T.lits[S.head]! =e0.x:=by
    have :(S.T.lits)[S.head]? =some e0.x:=by rw[h.ok.rep.lits,aZ,sq];rfl
    rw[aa,this];rfl
   rw[hx];obtain⟨i1,i2,i3⟩:=VI.p8 (S.gG (aW (-e0.x))) [] _ (h.begin sq) (fun n hn=>h.ok.wb (aW (-e0.x)) n ((ah.1 hn).elim (fun h=>by cases h) id));have Bd:=qr (-e0.x) (S.gG (aW (-e0.x))) [] (S.cJ (aW (-e0.x)) []);have ab:=(Ok.p8 (-e0.x) (S.gG (aW (-e0.x))) [] _ (h.begin sq).ok (fun n hn=>h.ok.wb _ n hn) (fun n hn=>by cases hn) (h.begin sq).code).2.2.1;rw[rh]at Bd;have yh:(cg (-e0.x) (S.gG (aW (-e0.x))) [] (S.cJ (aW (-e0.x)) [])).1.vars=S.vars:=aaa (fun x=>x.2.1) Bd;have uY:Mo S (S.cJ (aW (-e0.x)) []):=Mo.same rfl rfl;generalize cg (-e0.x) (S.gG (aW (-e0.x))) [] (S.cJ (aW (-e0.x)) [])=q at *;obtain⟨J,o⟩:=q;simp only at i1 i2 i3 ab yh⊢;have ab:J.head=S.head:=ab;cases o with
   |some n=>
    rw[qai (show(some n).isSome=true from rfl)];obtain⟨k1,k2,k3⟩:=i3 n rfl;refine⟨k1,uY.trans i1,fun h=>(by cases h),fun j hj=> ?_⟩;simp only[Option.some.injEq]at hj;subst hj;exact⟨k2,k3⟩
   |none=>
    rw[qah (show ¬(none:Option Nat).isSome=true by simp)];obtain⟨k1,k2,k3,k4⟩:=uw f { J with head:=J.head+1 } (i2 rfl) (by show J.vars+1<=f+(J.head+1);omega);exact⟨k1,(uY.trans i1).trans ((Mo.same rfl rfl :Mo J { J with head:=J.head+1 }).trans k2),k3,k4⟩
  ·rw[pq hh];have :=h.ok.hd;exact⟨h,Mo.refl S,fun _=>by show S.head=S.T.lits.length;omega,fun n h=>by cases h⟩
theorem xa{S:Sv}(h:S.Inv):S.follow.1.Inv/\Mo S S.follow.1/\(S.follow.2=none->S.follow.1.head=S.follow.1.T.lits.length)/\∀n,S.follow.2=some n->S.follow.1.Of n/\(S.follow.1.rc n).lits≠[]:=
 uw _ S h (by omega)
end Sv
theorem zX(m:Int):∀{R:List St},R.Pairwise (fun a b:St=>a.l<=b.l)->∃B,R=R.filter (fun e:St=>decide (e.l<=m))++B/\∀e∈B,m<e.l
 |[],_=>⟨[],rfl,fun e h=>by cases h⟩
 |e::R,h=>by
  rw[List.pairwise_cons]at h;by_cases he:e.l<=m
  ·obtain⟨B,h1,h2⟩:=zX m h.2;refine⟨B,?_,h2⟩;rw[List.filter_cons,qai (by simpa using he),List.cons_append,<-h1]
  ·have gZ:∀J∈R,m<J.l:=fun J fj=>by have :=h.1 J fj;omega
   have :R.filter (fun e:St=>decide (e.l<=m))=[]:=by rw[List.filter_eq_nil_iff];intro J fj;have :=gZ J fj;simp;omega
   refine⟨e::R,?_,fun J fj=> ?_⟩
   ·rw[List.filter_cons,qah (by simpa using he),this];rfl
   ·rcases ay.1 fj with rfl |fj
    ·omega
    ·exact gZ J fj
namespace Sv
theorem o5{S S':Sv}(h:S'.list=S.list)(n:Nat):S'.rc n=S.rc n:=by unfold rc;rw[h]
theorem pZ{S S':Sv}(h:S'.watch=S.watch)(c:Nat):S'.gG c=S.gG c:=by unfold gG;rw[h]
theorem Inv.congr{S S':Sv}(h:S.Inv)(ok:S'.Ok 0)(hT:S'.T=S.T)(hh:S'.head=S.head)(hl:∀n,(S'.rc n).lits=(S.rc n).lits)(hw:S'.watch=S.watch):S'.Inv:=by
 have hR:=ew hT;refine⟨ok,fun n=>by rw[hl];exact h.lT n,fun A e B h1 h2=> ?_,fun A e B h1 h2=>h.dec A e B (hR▸h1) h2,fun e he=> ?_,⟨fun c=>by rw[pZ hw];exact h.wi.nd c,fun c n hn J=> ?_,fun n J=> ?_⟩,fun n J e he=> ?_⟩
 ·obtain⟨n,h3,ls,h4,h5⟩:=h.wu A e B (hR▸h1) h2;exact⟨n,h3,ls,(hl n).trans h4,h5⟩
 ·rw[hR,hh]at he;rw[hT];exact h.hd e he
 ·rw[hl]at J⊢;rw[pZ hw]at hn;exact h.wi.wd c n hn J
 ·rw[hl]at J⊢;rw[pZ hw,pZ hw];exact h.wi.wc n J
 ·rw[hl]at J⊢;rw[hR,hh]at he;rw[hR];exact h.wt n J e he
theorem xh(level:Int):∀(r:List Int)(S:Sv),(eI level r S).watch=S.watch
 |[],S=>rfl
 |l::r,S=>by
  rw[eI];split
  ·rfl
  ·exact xh level r _
theorem jk{S:Sv}{m:Nat}(ok:S.Ok m){level:Nat}(hl:level<S.T.levels.length):
  (S.back level).list=S.list/\(S.back level).watch=S.watch/\(S.back level).T.levels.length=level/\(S.back level).head=min S.head (S.back level).R.length/\∃B,S.R=(S.back level).R++B/\(∀e∈B,(level:Int)<e.l)/\∀e∈(S.back level).R,e.l<=(level:Int):=by
 obtain⟨B,h1,h2⟩:=zX (level:Int) ok.rep.sorted;have hR:=acr ok level hl;have hd:=(ok.rep.back level hl).dep;obtain⟨g1,g2,g3,g4,g5⟩:=kJ (level:Int) S.T.lits.reverse S m ok;have hw:=xh (level:Int) S.T.lits.reverse S;have J:(S.back level).T=S.T.dz level:=by unfold back;rw[qah (by omega)];simp only;rw[g2]
 refine⟨?_,?_,by rw[J];exact hd,?_,B,by rw[hR];exact h1,h2,fun e he=> ?_⟩
 ·unfold back;rw[qah (by omega)];exact g5
 ·unfold back;rw[qah (by omega)];exact hw
 ·rw[ko,J];unfold back;rw[qah (by omega)];simp only;rw[g2,g3]
 ·rw[hR]at he;have :=(gh.1 he).2;simpa using this
theorem Inv.back{S:Sv}(h:S.Inv)(level:Nat):(S.back level).Inv:=by
 by_cases hl:level<S.T.levels.length
 ·obtain⟨h1,h2,h3,h4,B,h5,h6,h7⟩:=jk h.ok hl;have fJ:=o5 h1;have Vh:=pZ h2;have mO:∀e∈(S.back level).R,e∈S.R:=fun e he=>by rw[h5];exact av _ he
  have Bn:∀e∈S.R,e.l<=(level:Int)->e∈(S.back level).R:=fun e he hle=>by
   rw[h5]at he;rcases ah.1 he with h8 |h8
   ·exact h8
   ·have :=h6 e h8;omega
  refine⟨(h.ok.back level).1,fun n=>by rw[fJ];exact h.lT n,fun A e B1 k1 k2=> ?_,fun A e B1 k1 k2=>h.dec A e (B1++B) (by rw[h5,k1];simp) k2,fun e he=> ?_,⟨fun c=>by rw[Vh];exact h.wi.nd c,fun c n hn J=> ?_,fun n J=> ?_⟩,fun n J e he=> ?_⟩
  ·obtain⟨n,k3,ls,k4,k5⟩:=h.wu A e (B1++B) (by rw[h5,k1];simp) k2;exact⟨n,k3,ls,by rw[fJ];exact k4,k5⟩
  ·exfalso;rw[h4]at he;have hle:=h7 e (List.mem_of_mem_drop he);by_cases hq:S.head<=(S.back level).R.length
   ·rw[li hq]at he;have :=h.hd e (by rw[h5,List.drop_append_of_le_length hq];exact av _ he);omega
   ·rw[Nat.min_eq_right (by omega),List.drop_length]at he;cases he
  ·rw[fJ]at J⊢;rw[Vh]at hn;exact h.wi.wd c n hn J
  ·rw[fJ]at J⊢;rw[Vh,Vh];exact h.wi.wc n J
  ·rw[fJ]at J⊢;have hm:e∈(S.back level).R:=List.mem_of_mem_take he;have hle:=h7 e hm;have ht:e∈S.R.take S.head:=by rw[h4]at he;rw[h5];have h8:((S.back level).R.take (min S.head (S.back level).R.length))=((S.back level).R++B).take (min S.head (S.back level).R.length):=(oO (Nat.min_le_right _ _)).symm;rw[h8]at he;exact List.take_subset_take_left _ (Nat.min_le_left _ _) he
   obtain⟨k1,k2⟩:=h.wt n J e ht;refine⟨fun hx=> ?_,fun hx=> ?_⟩
   ·obtain⟨e',k3,k4,k5⟩:=k1 hx;exact⟨e',Bn e' k3 (by omega),k4,k5⟩
   ·obtain⟨e',k3,k4,k5⟩:=k2 hx;exact⟨e',Bn e' k3 (by omega),k4,k5⟩
 ·have :S.back level=S:=by unfold Sv.back;rw[qai (by omega)]
  rw[this];exact h
structure Qf(S:Sv)(x:Nat):Prop where
 ok:S.Ok 0
 lT:∀n,((S.rc n).lits.map tv).Nodup
 wu:S.Rsn
 dec:S.Dec
 hd:S.Hd
 wi:S.WI S.gG
 wt:∀n,n≠x->S.WT1 (S.R.take S.head) n
theorem Inv.but{S:Sv}(h:S.Inv)(x:Nat):S.Qf x:=⟨h.ok,h.lT,h.wu,h.dec,h.hd,h.wi,fun n _=>h.wt n⟩
theorem Ga{S:Sv}{x:Nat}(h:S.Qf x){y r:Int}(hb:S.T.ke y=true)(hr:0<=r/\r<=S.list.length)
  (h1:r≠0->∃n:Nat,r=(n:Int)+1/\∃ls,(S.rc n).lits=y::ls/\∀z∈ls,∃e'∈S.R,e'.x= -z)
  (h2:r=0->S.T.levels.length=0\/∀e∈S.R,e.l<S.T.levels.length):(S.put y r).Qf x/\(S.put y r).R=S.R++[⟨y,S.T.levels.length,r⟩]/\(S.put y r).R.take (S.put y r).head=S.R.take S.head:=by
 have hR:=sA (r:=r) h.ok hb;have ab:=Ok.put h.ok (x:=y) (r:=r) hr;have hle:(S.put y r).T.levels=S.T.levels:=ee S y r;have K2:S.head<=S.R.length:=by rw[ko];exact h.ok.hd
 have mO:∀e∈S.R,e∈(S.put y r).R:=fun e he=>by rw[hR];exact av _ he
 have yi:(S.put y r).R.take (S.put y r).head=S.R.take S.head:=by show(S.put y r).R.take S.head=_;rw[hR,oO K2]
 refine⟨⟨ab,h.lT,?_,?_,?_,⟨h.wi.nd,h.wi.wd,h.wi.wc⟩,fun j hj hl e he=> ?_⟩,hR,yi⟩
 ·intro A e B Fv hr;rw[hR]at Fv;rcases oX Fv.symm with⟨J,h4,h5⟩ |⟨B',J,h4⟩
  ·subst h4;rw[h5]at hr⊢;exact h1 hr
  ·exact h.wu A e B' h4 hr
 ·intro A e B Fv hr;rw[hR]at Fv;rcases oX Fv.symm with⟨J,h4,h5⟩ |⟨B',J,h4⟩
  ·subst h4;rw[h5]at hr⊢;rcases h2 hr with h6 |h6
   ·left
    show((S.T.levels.length:Nat):Int)=0;rw[h6];rfl
   ·exact .inr h6
  ·exact h.dec A e B' h4 hr
 ·intro e he;have he:e∈(S.put y r).R.drop S.head:=he;rw[hle];rw[hR,List.drop_append_of_le_length K2]at he;rcases ah.1 he with J |J
  ·exact h.hd e J
  ·rw[ag.1 J]
 ·rw[yi]at he;obtain⟨J,h4⟩:=h.wt j hj hl e he;refine⟨fun h5=> ?_,fun h5=> ?_⟩
  ·obtain⟨e',fj,h6⟩:=J h5;exact⟨e',mO e' fj,h6⟩
  ·obtain⟨e',fj,h6⟩:=h4 h5;exact⟨e',mO e' fj,h6⟩
theorem Qf.whole{S:Sv}{x:Nat}(h:S.Qf x)(h1:S.WT1 (S.R.take S.head) x):S.Inv:=
 ⟨h.ok,h.lT,h.wu,h.dec,h.hd,h.wi,fun n=>by
  by_cases e:n=x
  ·rw[e];exact h1
  ·exact h.wt n e⟩
theorem jU{S:Sv}{m:Nat}(ok:S.Ok m){x:Int}(h:S.val x=0):∀e∈S.R,e.x≠x/\e.x≠ -x:=fun e he=>by
 constructor
 ·intro J;have :=(gR ok x).2 ⟨e,he,J⟩;omega
 ·intro J;have :=(val_neg ok).2 ⟨e,he,J⟩;omega
theorem Inv.put{S:Sv}(h:S.Inv){y r:Int}(hb:S.T.ke y=true)(hr:0<=r/\r<=S.list.length)
  (h1:r≠0->∃n:Nat,r=(n:Int)+1/\∃ls,(S.rc n).lits=y::ls/\∀z∈ls,∃J∈S.R,J.x= -z)
  (h2:r=0->S.T.levels.length=0\/∀e∈S.R,e.l<S.T.levels.length):(S.put y r).Inv/\(S.put y r).R=S.R++[⟨y,S.T.levels.length,r⟩]:=by
 obtain⟨k1,k2,k3⟩:=Ga (h.but S.list.length) hb hr h1 h2;refine⟨k1.whole ?_,k2⟩;intro hl;exact absurd (show(S.rc S.list.length).lits=[] by rw[o6 (aq _)]) hl
theorem zb(S:Sv)(l:List Int)(b:Bool)(c:Nat):(S.jA l b).gG c=S.gG c:=rfl
theorem FC(S:Sv){c n:Nat}(hc:c<S.watch.length)(j:Nat):(S.i9 c n).gG j=if j=c then S.gG c++[n]else S.gG j:=pY S _ hc j
theorem Inv.attach{S:Sv}(h:S.Inv){l:List Int}(hf:S.Fits l)(hd:(l.map tv).Nodup)(b:Bool)(hr:S.list.length<2199023255552):
  (S.attach l b).Qf S.list.length/\(S.attach l b).rc S.list.length=⟨l,b,S.used⟩/\∀n,n≠S.list.length->(S.attach l b).rc n=S.rc n:=by
 have h2:=hf.two;have ok:=h.ok.attach hf b hr;have l0:=hf.lit _ (get_mem (l:=l) (i:=0) (by omega));have l1:=hf.lit _ (get_mem (l:=l) (i:=1) (by omega));have fJ:∀n,(S.attach l b).rc n=if n=S.list.length then⟨l,b,S.used⟩else S.rc n:=fun n=>ye S l b n;have ar:aW l[0]! <S.watch.length:=by rw[h.ok.wl];exact iR l0.2.1 l0.2.2
 have tq:aW l[1]! <S.watch.length:=by rw[h.ok.wl];exact iR l1.2.1 l1.2.2
 have ab:aW l[0]! ≠aW l[1]! :=fun e=>by have :=yt hd (by omega:0<_) (by omega:1<_) (by omega);rw[kz e]at this;exact this rfl
 have zr:∀c,(S.attach l b).gG c=if c=aW l[0]! \/c=aW l[1]! then S.gG c++[S.list.length]else S.gG c:=fun c=>by
  show(((S.jA l b).i9 (aW l[0]!) S.list.length).i9 (aW l[1]!) S.list.length).gG c=_;have hq:=fun j=>FC (S.jA l b) (c:=aW l[0]!) (n:=S.list.length) ar j;rw[FC _ (by show _<(S.watch.set _ _).length;rw[aw];exact tq),hq,hq,zb,zb,zb];by_cases e1:c=aW l[1]!
  ·rw[qai e1,qah (fun e=>ab e.symm),qai (.inr e1),e1]
  ·rw[qah e1];by_cases e0:c=aW l[0]!
   ·rw[qai e0,qai (.inl e0),e0]
   ·rw[qah e0,qah (fun e=>e.elim e0 e1)]
 have jC:(S.attach l b).rc S.list.length=⟨l,b,S.used⟩:=by rw[fJ,qai rfl]
 have hold:∀n,n≠S.list.length->(S.attach l b).rc n=S.rc n:=fun n J=>by rw[fJ,qah J]
 have Vk:∀n,(S.rc n).lits≠[]->n≠S.list.length:=fun n J e=>by have :=ru J;omega
 refine⟨⟨ok,fun n=> ?_,fun A e B k1 k2=> ?_,h.dec,h.hd,⟨fun c=> ?_,fun c n J hl=> ?_,fun n hl=> ?_⟩,fun n J hl e he=> ?_⟩,jC,hold⟩
 ·by_cases e:n=S.list.length
  ·rw[e,jC];exact hd
  ·rw[hold n e];exact h.lT n
 ·obtain⟨n,k3,ls,k4,k5⟩:=h.wu A e B k1 k2;exact⟨n,k3,ls,by rw[hold n (Vk n (by rw[k4];simp))];exact k4,k5⟩
 ·rw[zr];have :=h.wi.nd c;split
  ·rw[List.nodup_append];refine⟨this,by simp,fun a ha b' ad=> ?_⟩;rw[ag.1 ad];have :=h.ok.wb c a ha;omega
  ·exact this
 ·rw[zr]at J;by_cases e:n=S.list.length
  ·rw[e,jC];split at J
   ·rename_i hc;exact hc.imp Eq.symm Eq.symm
   ·have :=h.ok.wb c n J;omega
  ·rw[hold n e]at hl⊢;refine h.wi.wd c n ?_ hl;split at J
   ·rcases ah.1 J with h3 |h3
    ·exact h3
    ·exact absurd (ag.1 h3) e
   ·exact J
 ·by_cases e:n=S.list.length
  ·rw[e,jC];rw[zr,zr,qai (.inl rfl),qai (.inr rfl)];exact⟨by simp,by simp⟩
  ·rw[hold n e]at hl⊢;have hq:=h.wi.wc n hl;have Eo:∀c,n∈S.gG c->n∈(S.attach l b).gG c:=fun c hc=>by
    rw[zr];split
    ·exact av _ hc
    ·exact hc
   exact⟨Eo _ hq.1,Eo _ hq.2⟩
 ·rw[hold n J]at hl⊢;exact h.wt n hl e he
end Sv
theorem tH{x:Int}{v:Nat}(J:x≠0)(h1: -(v:Int)<=x)(h2:x<=v)(hv:v<=262143):1<=tv x/\tv x<=v:=by
 unfold tv;split
 ·omega
 ·split<;>omega
namespace Sv
structure Nu(S S2:Sv):Prop where
 vars:S2.vars=S.vars
 aeX:S.list.length<=S2.list.length
 Y9:S2.list.length<=S.list.length+1
 used:S2.used=S.used
 bump:S2.bump<=1073741824
 M5:S.many<=S2.many
 many1:S2.many<=S.many+1
 cv:S2.cv=S.cv
 core:S2.core=S.core
 db:S2.T.levels.length<=S.T.levels.length
 bad:S2.bad=S.bad
theorem J4{B:Sv}(h:B.Inv){l:List Int}(hr:B.list.length<2199023255552)(l0:0<l.length)(l1:l.length<=1048576)(hl:∀x∈l,x≠0/\ -(B.vars:Int)<=x/\x<=B.vars)(Fm:(l.map tv).Nodup)
  (hv:B.val l[0]! =0) (mO:∀k,1<=k->k<l.length->∃e∈B.R,e.x= -l[k]!) (h1:l.length=1->B.T.levels.length=0) (h2:2<=l.length->∃e∈B.R,e.x= -l[1]! /\e.l=B.T.levels.length):(B.bQ l).Inv:=by
 have uZ:=hl _ (get_mem (l:=l) (i:=0) l0);have ht:=tH uZ.1 uZ.2.1 uZ.2.2 h.ok.vl;unfold bQ;by_cases e1:l.length=1
 ·rw[qai e1];exact(h.put (r:=0) (lK h.ok ht.1 ht.2 hv) (by omega) (fun h=>absurd rfl h) (fun _=> .inl (h1 e1))).1
 ·rw[qah e1];obtain⟨k1,k2,k3⟩:=h.attach (l:=l) ⟨by omega,l1,hl⟩ Fm true hr;have hs:=du B l true;have hb:(B.attach l true).T.ke l[0]! =true:=by rw[hs.1];exact lK h.ok ht.1 ht.2 hv
  have ab:(B.attach l true).R=B.R:=ew hs.1;obtain⟨y,ls,oP⟩:∃y ls,l=y::ls:=by
   cases l with
   |nil=>simp at l0
   |cons y ls=>exact⟨y,ls,rfl⟩
  have hy:l[0]! =y:=by rw[oP];rfl
  obtain⟨p1,p2,p3⟩:=Ga k1 (r:=(B.list.length:Int)+1) hb (by rw[hs.2.2.1];omega) (fun _=>⟨B.list.length,rfl,ls,by rw[k2,hy];exact oP,fun z hz=>by obtain⟨i,hi,hg⟩:=List.getElem_of_mem hz;obtain⟨e,he,J⟩:=mO (i+1) (by omega) (by rw[oP];simp;omega);refine⟨e,by rw[ab];exact he,?_⟩;rw[J,oP,rV (by simp;omega)];simp[hg]⟩) (fun e=>by omega);have hI:((B.attach l true).put l[0]! ((B.list.length:Int)+1)).Inv:=by refine p1.whole ?_;intro dV e he;have fJ:((B.attach l true).put l[0]! ((B.list.length:Int)+1)).rc B.list.length=⟨l,true,B.used⟩:=k2;rw[fJ];rw[p3,ab]at he;have ad:e∈B.R:=List.mem_of_mem_take he;have GQ:=jU h.ok hv e ad;refine⟨fun J=>absurd J GQ.2,fun J=> ?_⟩;obtain⟨e2,jZ,jn,pJ⟩:=h2 (by omega);have ar:e=e2:=pD h.ok ad jZ (by have J:e.x= -l[1]! :=J;rw[J,jn]);refine⟨⟨l[0]!,(B.attach l true).T.levels.length,(B.list.length:Int)+1⟩,by rw[p2];simp,rfl,?_⟩;show((B.attach l true).T.levels.length:Int)<=e.l;rw[hs.1,ar,pJ];exact gE _
  exact hI.congr (hI.ok.MN _) rfl rfl (fun _=>rfl) rfl
theorem OJ(B:Sv)(l:List Int):Nu B (B.bQ l).cZ:=by
 have hm:(B.bQ l).cZ.bump<=1073741824:=Nat.min_le_right _ _;by_cases J:l.length=1
 ·have e:(B.bQ l)=B.put l[0]! 0:=by unfold bQ;rw[qai J]
  rw[e]at hm⊢;exact⟨rfl,aq _,by show B.list.length<=_;omega,rfl,hm,gE _,by show B.many<=_;omega,rfl,rfl,by show(B.put l[0]! 0).T.levels.length<=_;rw[ee];exact aq _,rfl⟩
 ·have e:(B.bQ l)={ ((B.attach l true).put l[0]! (B.list.length+1))with many:=B.many+1 }:=by unfold bQ;rw[qah J]
  have hs:=du B l true;rw[e]at hm⊢;exact⟨rfl,by show B.list.length<=(B.attach l true).list.length;omega,by show(B.attach l true).list.length<=_;omega,rfl,hm,by show B.many<=B.many+1;omega,gE _,rfl,rfl,by show((B.attach l true).put l[0]! _).T.levels.length<=_;rw[ee,hs.1];exact aq _,rfl⟩
theorem Bw{S:Sv}(h:S.Inv){n:Nat}(hc:S.Of n)(hn:(S.rc n).lits≠[])(hr:S.list.length<2199023255552)(hd:0<S.T.levels.length):
  ∃S2 l db,S.Lrd l db/\S.conflict n=some (S2,true)/\S2.Inv/\Nu S S2/\∃J:Sv,J.lp=S.lp/\S2=((J.back db.toNat).bQ l).cZ:=by
 obtain⟨J,l,db,h1,h2,h3⟩:=lO h.ok h.wu h.dec hc hd hn;obtain⟨xB,eT,eV,eL,eU,f0,f1,f2,f3,f4⟩:=jI h.ok h1;have Jk:J.Inv:=h.congr xB eT (aaa (fun x=>x.2.2.2.2.2.2.1) h2) (fun j=>(oY h2 j).1) (aaa (fun x=>x.2.2.1) h2);have ad:J.R=S.R:=ew eT;have bt:=h3.lt;have oD:db.toNat<J.T.levels.length:=by rw[eT];omega
 obtain⟨b1,b2,b3,b4,BB,b5,b6,b7⟩:=jk Jk.ok oD;have aB:((db.toNat:Nat):Int)=db:=by omega
 have ar:=(Jk.ok.back db.toNat).2.1;have XH:=Jk.back db.toNat;have Bn:∀e∈S.R,e.l<=db->e∈(J.back db.toNat).R:=fun e he hle=>by
  rw[<-ad,b5]at he;rcases ah.1 he with h8 |h8
  ·exact h8
  ·have :=b6 e h8;omega
 have mO:∀e∈(J.back db.toNat).R,e∈S.R:=fun e he=>by rw[<-ad,b5];exact av _ he
 obtain⟨et,het,Bk,Tm⟩:=h3.top;have ED:((J.back db.toNat).bQ l).Inv:=by
  refine J4 XH (by rw[b1,eL];exact hr) f0 f1 (by rw[ar,eV];exact f2) h3.nd ?_ (fun k k1 k2=> ?_) (fun k1=>by rw[b3,h3.one k1];rfl) (fun k2=> ?_)
  ·rcases jE XH.ok l[0]! with h5 |h5 |h5
   ·exact h5
   ·exfalso;obtain⟨e,he,hx⟩:=(gR XH.ok l[0]!).1 (by omega);exact qy h.ok (mO e he) het (by rw[hx,Bk])
   ·exfalso;obtain⟨e,he,hx⟩:=(val_neg XH.ok).1 (by omega:(J.back db.toNat).val l[0]! <0);have xE:e.x=et.x:=by rw[hx,Bk];omega
    have :=pD h.ok (mO e he) het (by rw[xE]);have :=b7 e he
    subst_vars
    omega
  ·obtain⟨e,he,hx,_,hle⟩:=h3.tail k k1 k2;exact⟨e,Bn e he hle,hx⟩
  ·obtain⟨e,he,hx,hle⟩:=h3.two k2;exact⟨e,Bn e he (by omega),hx,by rw[b3];omega⟩
 refine⟨((J.back db.toNat).bQ l).cZ,l,db,h3,?_,ED.congr ED.ok.cZ rfl rfl (fun _=>rfl) rfl,?_,J,h2,rfl⟩
 ·unfold conflict;rw[qah (by omega),h1]
 ·have SS:=OJ (J.back db.toNat) l;have XC:=mh J db.toNat;have pI:J.many=S.many:=aaa (fun x=>x.2.2.2.2.2.2.2.2.2.1) h2;have rQ:J.cv=S.cv:=aaa (fun x=>x.2.2.2.2.2.2.2.2.2.2.1) h2;have iT:J.core=S.core:=aaa (fun x=>x.2.2.2.2.2.1) h2;have Ty:J.bad=S.bad:=aaa (fun x=>x.2.2.2.2.2.2.2.2.2.2.2.1) h2;have Zu:=SS.aeX;have rP:=SS.Y9;have uY:=SS.M5;have sl:=SS.many1;have Xh:=SS.db;rw[b1,eL]at Zu rP;rw[XC.2.2.1,pI]at uY sl;have ab:=XC.2.2.2.2.2.1;rw[eT]at ab;exact⟨SS.vars.trans (ar.trans eV),Zu,rP,SS.used.trans (XC.2.1.trans eU),SS.bump,uY,sl,SS.cv.trans (XC.2.2.2.1.trans rQ),SS.core.trans (XC.1.trans iT),aE Xh ab,SS.bad.trans (XC.2.2.2.2.1.trans Ty)⟩
theorem MD{S:Sv}{m:Nat}(ok:S.Ok m){x:Int}(h:S.val x=0):S.val (-x)=0:=by
 rcases jE ok (-x)with h1 |h1 |h1
 ·exact h1
 ·exfalso;obtain⟨e,he,J⟩:=(gR ok (-x)).1 (by omega);exact(jU ok h e he).2 J
 ·exfalso;obtain⟨e,he,J⟩:=(val_neg ok).1 (by omega:S.val (-x)<0);exact(jU ok h e he).1 (by omega)
theorem vt{J:Sv}{m:Nat}(ok:J.Ok m):∀(f:Nat)(S:Sv),S.T=J.T->(dg f S).2≠0->J.val (dg f S).2=0
 |0,S,hT,h=>absurd rfl h
 |f+1,S,hT,h=>by
  rw[dg]at h⊢;split at h
  ·exact absurd rfl h
  ·rename_i hi;rw[qah hi];simp only at h⊢;split at h
   ·rename_i hv;rw[qai hv];exact vt ok f _ hT h
   ·rename_i hv;rw[qah hv];have h0:J.val (S.H.it 0)=0:=by
     have :({ S with H:=S.H.lu }:Sv).val (S.H.it 0)=J.val (S.H.it 0):=by unfold val;rw[show({ S with H:=S.H.lu }:Sv).T=J.T from hT]
     rw[<-this];exact Classical.byContradiction fun e=>hv e
    simp only;split
    ·exact h0
    ·exact MD ok h0
theorem Inv.deep{S:Sv}(h:S.Inv)(hf:S.head=S.T.lits.length):S.deep.Inv:=by have hR:=te h.ok;refine⟨h.ok.deep,h.lT,fun A e B h1 J=>h.wu A e B (hR▸h1) J,fun A e B h1 J=>h.dec A e B (hR▸h1) J,fun e he=> ?_,⟨h.wi.nd,h.wi.wd,h.wi.wc⟩,h.wt⟩;exfalso;rw[hR]at he;have he:e∈S.R.drop S.head:=he;rw[hf,<-ko,List.drop_length]at he;cases he
theorem Inv.choice{S:Sv}(h:S.Inv)(hf:S.head=S.T.lits.length){x:Int}(h0:x≠0)(h1: -(S.vars:Int)<=x)(h2:x<=S.vars)(hv:S.val x=0):(S.deep.put x 0).Inv/\(S.deep.put x 0).R=S.R++[⟨x,(S.T.levels.length+1:Nat),0⟩]:=by have ht:=tH h0 h1 h2 h.ok.vl;have hb:S.deep.T.ke x=true:=lK (S:=S.deep) h.ok.deep ht.1 ht.2 hv;have J:=te h.ok;obtain⟨k1,k2⟩:=(h.deep hf).put (r:=0) hb ⟨gE _,by omega⟩ (fun h=>absurd rfl h) (fun _=> .inr fun e he=>by rw[J]at he;have :=(iE h.ok he).2.2.2;rw[ep];omega);rw[ep,J]at k2;exact⟨k1,k2⟩
theorem choose_spec{S:Sv}(h:S.Inv)(hf:S.head=S.T.lits.length):S.choose.1.Inv/\(S.choose.2=0->S.choose.1.T.lits.length=S.T.lits.length+1):=by
 obtain⟨p1,p2,p3,p4,p5,p6,p7⟩:=h.ok.pick;have hw:S.pick.1.watch=S.watch:=by
  have :∀(f:Nat)(S:Sv),(dg f S).1.watch=S.watch:=by
   intro f;induction f with
   |zero=>intro S;rfl
   |succ f ih=>
    intro S;rw[dg];split
    ·rfl
    ·simp only;split
     ·exact ih _
     ·rfl
  exact this _ S
 have hI:S.pick.1.Inv:=h.congr p1 p2 p5 (fun n=>by rw[o5 p4]) hw;unfold choose;by_cases J:S.pick.2=0
 ·rw[qai J];exact⟨hI.congr hI.ok.keep rfl rfl (fun _=>rfl) rfl,fun h=>by cases h⟩
 ·rw[qah J];have hv:=vt h.ok _ S rfl J;obtain⟨k1,k2⟩:=hI.choice (by rw[p2,p5];exact hf) J (by rw[p3];exact p6) (by rw[p3];exact p7) (by unfold val;rw[p2];exact hv);refine⟨k1,fun _=> ?_⟩;rw[<-ko,k2,an,ko,p2];rfl
theorem uA{us:List Int}:∀(f:Nat)(S:Sv),S.Inv->S.head=S.T.lits.length->(∀x∈us,x≠0/\ -(S.vars:Int)<=x/\x<=S.vars)->(bJ us f S).1.Inv/\((bJ us f S).2=0->(bJ us f S).1.T.lits.length=S.T.lits.length+1)
 |0,S,h,J,hu=>choose_spec h J
 |f+1,S,h,J,hu=>by
  rw[bJ];split
  ·rename_i hd;have ha:=hu _ (get_mem (l:=us) hd);simp only;split
   ·exact⟨h.congr (h.ok.oZ _) rfl rfl (fun _=>rfl) rfl,fun h=>by cases h⟩
   ·split
    ·rename_i h1 h2;obtain⟨k1,k2⟩:=h.choice J ha.1 ha.2.1 ha.2.2 h2;refine⟨k1,fun _=> ?_⟩;rw[<-ko,k2,an,ko];rfl
    ·have :=uA f S.deep (h.deep J) J hu;exact this
  ·exact choose_spec h J
theorem Il{S:Sv}{us:List Int}(h:S.Inv)(J:S.head=S.T.lits.length)(hu:∀x∈us,x≠0/\ -(S.vars:Int)<=x/\x<=S.vars):(S.aP us).1.Inv/\((S.aP us).2=0->(S.aP us).1.T.lits.length=S.T.lits.length+1):=uA _ S h J hu
end Sv
theorem OG(w:World)(a:Int):Calls Tryz.prog 196 #[.int .i64 a] w fun e w'=>e= .returned (.bool false)/\w=w':=by
 have h:(a !=a)=false:=by simp
 go_enter Tryz.func196,Tryz.ntmps196;go_wp2;go_ret;exact⟨by simp,rfl⟩
def kI(a b:Int):Int:=if a<b then -1 else if b<a then 1 else 0
theorem By(w:World)(a b:Int):Calls Tryz.prog 177 #[.int .i64 a, .int .i64 b] w fun e w'=>e= .returned (.int .i64 (kI a b))/\w=w':=by
 have KN:=ae (fun x=>OG w x);have hK:aj (∀s,kI a b=s->Ending.returned (.int .i64 s)= .returned (.int .i64 (kI a b))):=fun s h=>by rw[h]
 go_enter Tryz.func177,Tryz.ntmps177;go_wp2_with fail;refine(KN.o _).mono ?_;rintro e w1 ⟨rfl,rfl⟩;go_wp2_with fail;refine(KN.o _).mono ?_;rintro e w1 ⟨rfl,rfl⟩;by_cases h1:a<b
 ·have d1:decide (a<b)=true:=qak h1;have J:aj (kI a b= -1):=(by rw[kI,qai h1]:kI a b= -1)
  go_wp2;go_ret;exact⟨hK.o _ J.o,rfl⟩
 ·have d1:decide (a<b)=false:=qaj h1;by_cases h2:b<a
  ·have d2:decide (b<a)=true:=qak h2;have J:aj (kI a b=1):=(by rw[kI,qah h1,qai h2]:kI a b=1)
   go_wp2;go_ret;exact⟨hK.o _ J.o,rfl⟩
  ·have d2:decide (b<a)=false:=qaj h2;have J:aj (kI a b=0):=(by rw[kI,qah h1,qah h2]:kI a b=0)
   go_wp2;go_ret;exact⟨hK.o _ J.o,rfl⟩
def iY(a:Int):Int:=if a<wrap64 (-a)then wrap64 (-a)else a
theorem LR(w:World)(a:Int):Calls Tryz.prog 55 #[.int .i64 a] w fun e w'=>e= .returned (.int .i64 (iY a))/\w=w':=by go_enter Tryz.func55,Tryz.ntmps55;go_wp2_with fail;all_goals (go_ret;first |exact⟨by rw[iY,qai (by assumption)];rfl,rfl⟩ |exact⟨by rw[iY,qah (by omega)];rfl,rfl⟩)
def QH(a b:Int):Int:=if a=0 then b else a
set_option maxHeartbeats 1000000 in
theorem R6(w:World)(g:Nat)(a b:Int)(h0:w.cell? ⟨g,0,none⟩=some (.int .i64 a))(h1:w.cell? ⟨g,1,none⟩=some (.int .i64 b)):
  Calls Tryz.prog 176 #[.slice (some ⟨g,0,none⟩) 2 2] w fun e w'=>e= .returned (.int .i64 (QH a b))/\w=w':=by
 have hK:aj (∀s,QH a b=s->Ending.returned (.int .i64 s)= .returned (.int .i64 (QH a b))):=fun s h=>by rw[h]
 have H0:=ae h0;have H1:=ae h1;clear h0 h1;go_enter Tryz.func176,Tryz.ntmps176;go_wp2_with fail;go_loopg [8] 2 (fun gk i wr=>wr=w/\((gk=2/\i= .int .i64 0)\/(gk=1/\i= .int .i64 1/\a=0)\/(gk=0/\i= .int .i64 2/\a=0/\b=0)));case atStart=>exact⟨rfl, .inl ⟨rfl,rfl⟩⟩
 case round=>
  obtain⟨rfl,hc⟩:=hrel;rcases hc with⟨rfl,rfl⟩ |⟨rfl,rfl,rfl⟩ |⟨rfl,rfl,rfl,rfl⟩
  ·have h0:=H0.o;by_cases J:a=0
   ·have hb:(a !=0)=false:=by simp[J]
    go_wp2;go_roundg 1;case measure=>decide
    case rel=>exact⟨rfl, .inr (.inl ⟨rfl,rfl,J⟩)⟩
   ·have hb:(a !=0)=true:=by simp[J]
    have HV:aj (QH a b=a):=(by rw[QH,qah J]:QH a b=a)
    go_wp2;go_ret;exact⟨hK.o _ HV.o,rfl⟩
  ·have h1:=H1.o;by_cases J:b=0
   ·have hb:(b !=0)=false:=by simp[J]
    go_wp2;go_roundg 0;case measure=>decide
    case rel=>exact⟨rfl, .inr (.inr ⟨by first |rfl |trivial,by first |rfl |trivial,by first |rfl |trivial,J⟩)⟩
   ·have hb:(b !=0)=true:=by simp[J]
    have HV:aj (QH 0 b=b):=(by rw[QH,qai rfl]:QH 0 b=b)
    go_wp2;go_ret;exact⟨hK.o _ HV.o,rfl⟩
  ·go_wp2;go_ret;exact⟨rfl,rfl⟩
def vu(a b:Int):Int:=QH (kI (iY a) (iY b)) (kI a b)
set_option maxHeartbeats 1000000 in
theorem Gl(w:World)(a b:Int):Calls Tryz.prog 157 #[.int .i64 a, .int .i64 b] w fun e w'=>e= .returned (.int .i64 (vu a b))/\w'=w.alloc (.cells #[.int .i64 (kI (iY a) (iY b)), .int .i64 (kI a b)] 3):=by have KA:=ae (fun x=>LR w x);have KC:=ae (fun x y=>By w x y);have J:=At.new w 3 #[.int .i64 (kI (iY a) (iY b)), .int .i64 (kI a b)];have KO:=ae (R6 (w.alloc (.cells #[.int .i64 (kI (iY a) (iY b)), .int .i64 (kI a b)] 3)) w.heap.size (kI (iY a) (iY b)) (kI a b) (by rw[J.cell];rfl) (by rw[J.cell];rfl));have hK:aj (Ending.returned (.int .i64 (QH (kI (iY a) (iY b)) (kI a b)))= .returned (.int .i64 (vu a b))):=rfl;clear J;go_enter Tryz.func157,Tryz.ntmps157;go_wp2_with fail;refine(KA.o _).mono ?_;rintro e w1 ⟨rfl,rfl⟩;go_wp2_with fail;refine(KA.o _).mono ?_;rintro e w1 ⟨rfl,rfl⟩;go_wp2_with fail;refine(KC.o _ _).mono ?_;rintro e w1 ⟨rfl,rfl⟩;go_wp2_with fail;refine(KC.o _ _).mono ?_;rintro e w1 ⟨rfl,rfl⟩;go_wp2_with fail;refine KO.o.mono ?_;rintro e w1 ⟨rfl,rfl⟩;go_wp2;go_ret;exact⟨hK.o,rfl⟩
end Go.Proofs.YtpjbaobgnhjgoaaGreat
