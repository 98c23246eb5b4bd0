/- Parts of a proof. -/
import Derived.Test.YtjmmpfjcpdepjaaGreatDoorGAJ
import Derived.Shelf.SlSortCmp.NoneTotal
set_option linter.unusedVariables false
set_option linter.unusedSimpArgs false
set_option maxHeartbeats 16000000
namespace Go.Proofs.YtjmmpfjcpdepjaaGreatDoor
section
open Go.RowKit
theorem jA {x y:Int}(h:aS x=aS y):x=y:=by unfold aS at h;split at h<;>split at h<;>omega
theorem ns {α:Type}{A B R:List α}{e e1:α}(h:A++e::B=R++[e1]):(B=[]/\A=R/\e=e1)\/∃B',B=B'++[e1]/\R=A++e::B':=by
 rcases List.eq_nil_or_concat B with rfl |⟨B',b,rfl⟩
 ·left
  have :=List.append_inj' h rfl;exact⟨rfl,this.1,by simpa using this.2⟩
 ·right
  rw[List.concat_eq_append,<-List.cons_append,<-jP]at h;have :=List.append_inj' h rfl;refine⟨B',?_,this.1.symm⟩;rw[List.concat_eq_append,show b=e1 by simpa using this.2]
theorem su {l:List Int}(hn:(l.map tv).Nodup){i j:Nat}(hi:i<l.length)(hj:j<l.length)(tM:i≠j):tv l[i]! ≠tv l[j]! :=by
 have hp:=List.pairwise_iff_getElem.1 hn;rw[mR hi,mR hj];rcases Nat.lt_or_gt_of_ne tM with h |h
 ·have :=hp i j (by simpa using hi) (by simpa using hj) h;simpa using this
 ·have :=hp j i (by simpa using hj) (by simpa using hi) h;intro e;exact this (by simpa using e.symm)
namespace Sv
def W (S:Sv)(off:Int)(L:List Nat)(c:Nat):List Nat:=if c=aS off then L else S.fY c
structure WI (S:Sv)(V:Nat->List Nat):Prop where
 nd:∀c,(V c).Nodup
 wd:∀c n,n∈V c->(S.rc n).lits≠[]->aS (S.rc n).lits[0]! =c\/aS (S.rc n).lits[1]! =c
 wc:∀n,(S.rc n).lits≠[]->n∈V (aS (S.rc n).lits[0]!)/\n∈V (aS (S.rc n).lits[1]!)
def WT1 (S:Sv)(D:List St)(n:Nat):Prop:=(S.rc n).lits≠[]->∀e∈D,
 (e.x= -(S.rc n).lits[0]! ->∃e'∈S.R,e'.x=(S.rc n).lits[1]! /\e'.l<=e.l)/\(e.x= -(S.rc n).lits[1]! ->∃e'∈S.R,e'.x=(S.rc n).lits[0]! /\e'.l<=e.l)
structure Inv (S:Sv):Prop where
 ok:S.Ok 0
 kI:∀n,((S.rc n).lits.map tv).Nodup
 ud:S.Rsn
 dec:S.Dec
 hd:S.Hd
 wi:S.WI S.fY
 wt:∀n,S.WT1 (S.R.take S.head) n
structure VI (S:Sv)(e0:St)(todo keep:List Nat):Prop where
 ok:S.Ok (keep.length+todo.length)
 kI:∀n,((S.rc n).lits.map tv).Nodup
 ud:S.Rsn
 dec:S.Dec
 hd:S.Hd
 at_:S.R[S.head]? =some e0
 LM:S.fY (aS (-e0.x))=[]
 wi:S.WI (S.W (-e0.x) (keep++todo))
 wt:∀n,S.WT1 (S.R.take S.head) n
 wk:∀n∈keep,S.WT1 [e0] n
theorem yj (S:Sv)(off:Int)(L:List Nat):S.W off L (aS off)=L:=aae rfl
theorem uG (S:Sv){off:Int}(L:List Nat){c:Nat}(h:c≠aS off):S.W off L c=S.fY c:=aac h
theorem qU {S:Sv}{m:Nat}(ok:S.Ok m){n:Nat}(h:(S.rc n).lits≠[]):2<=(S.rc n).lits.length:=by have h1:=ok.ln n;have h2:(S.rc n).lits.length≠0:=fun e=>h (aP e);omega
theorem lW {S:Sv}{n:Nat}(h:(S.rc n).lits≠[]):n<S.list.length:=by
 by_cases hn:n<S.list.length
 ·exact hn
 ·rw[nD (by omega)]at h;exact absurd rfl h
theorem VI.at (S:Sv){e0:St}{todo keep:List Nat}(h:S.VI e0 todo keep):e0∈S.R/\S.head<S.R.length/\e0.l=S.T.levels.length:=by have h1:=h.at_;obtain⟨h2,h3⟩:=lH.1 h1;refine⟨List.mem_of_getElem? h1,h2,h.hd e0 ?_⟩;rw[List.drop_eq_getElem_cons h2,h3];exact bD
theorem jS {S:Sv}{m:Nat}(ok:S.Ok m){e e':St}(h:e∈S.R)(h':e'∈S.R)(hx:e.x= -e'.x):False:=by
 obtain⟨h1,h2⟩:=kd ok h (y:= -e.x) (by omega);have h3:e'.x= -e.x:=by omega
 rw[<-h3]at h1;have :=mt ok h h' h1.symm;subst this;have h4:e.x=0:=by omega
 have h5:=gM ok h;rw[h4]at h5;have :tv 0=0:=by rfl
 omega
theorem VI.dead {S:Sv}{e0:St}{n:Nat}{r keep:List Nat}(h:S.VI e0 (n::r) keep)(hn:(S.rc n).lits=[]):S.VI e0 r keep:=by
 have hs:(keep++r).Sublist (keep++n::r):=List.Sublist.append_left (List.sublist_cons_self n r) keep;refine⟨h.ok.less (by simp only[cW];omega),h.kI,h.ud,h.dec,h.hd,h.at_,h.LM,⟨fun c=> ?_,fun c j hj hl=> ?_,fun j hl=> ?_⟩,h.wt,h.wk⟩
 ·by_cases hc:c=aS (-e0.x)
  ·have :=h.wi.nd c;subst hc;rw[yj]at this⊢;exact this.sublist hs
  ·have :=h.wi.nd c;rw[uG _ _ hc]at this⊢;exact this
 ·refine h.wi.wd c j ?_ hl;by_cases hc:c=aS (-e0.x)
  ·subst hc;rw[yj]at hj⊢;exact hs.subset hj
  ·rw[uG _ _ hc]at hj⊢;exact hj
 ·have To:j≠n:=fun e=>hl (by rw[e];exact hn);have hq:=h.wi.wc j hl;have hm:∀c,j∈S.W (-e0.x) (keep++n::r) c->j∈S.W (-e0.x) (keep++r) c:=fun c hj=>by
   by_cases hc:c=aS (-e0.x)
   ·subst hc;rw[yj]at hj⊢;rcases ah.1 hj with h1 |h1
    ·exact an _ h1
    ·rcases av.1 h1 with h1 |h1
     ·exact absurd h1 To
     ·exact bk _ h1
   ·rw[uG _ _ hc]at hj⊢;exact hj
  exact⟨hm _ hq.1,hm _ hq.2⟩
theorem VI.cP {S:Sv}{e0:St}{n:Nat}{r keep:List Nat}(h:S.VI e0 (n::r) keep)(hn:(S.rc n).lits≠[]):
  (S.cP n (-e0.x)).VI e0 (n::r) keep/\((S.cP n (-e0.x)).rc n).lits[1]! = -e0.x/\((S.cP n (-e0.x)).rc n).lits≠[]/\((S.cP n (-e0.x)).rc n).lits.Perm (S.rc n).lits:=by
 have h2:=qU h.ok hn;have ov:=lW hn;obtain⟨qI,Ow,mj⟩:=h.at;have hw:=h.wi.wd (aS (-e0.x)) n (by rw[yj];simp) hn;have okT:=Ok.cP h.ok n (-e0.x);unfold Sv.cP at okT⊢;by_cases h0:(S.rc n).lits[0]! = -e0.x
 ·rw[aae h0]at okT⊢;have hp:=gR (l:=(S.rc n).lits) (i:=0) (j:=1) (by omega) (by omega);have eE:∀j,(S.eI n (cS (S.rc n).lits 0 1)).rc j=if n=j then{ S.rc n with lits:=cS (S.rc n).lits 0 1 }else S.rc j:=fun j=>by
   rw[lR];by_cases e:n=j
   ·rw[aae ⟨e,ov⟩,aae e]
   ·rw[aac (fun h=>e h.1),aac e]
  have uv:((S.eI n (cS (S.rc n).lits 0 1)).rc n).lits=cS (S.rc n).lits 0 1:=by rw[eE,aae rfl]
  have uV:∀j,j≠n->(S.eI n (cS (S.rc n).lits 0 1)).rc j=S.rc j:=fun j hj=>by rw[eE,aac (fun e=>hj e.symm)]
  have g0:(cS (S.rc n).lits 0 1)[0]! =(S.rc n).lits[1]! :=by rw[mG (by omega) (by omega) (by omega),aac (by omega),aae rfl]
  have g1:(cS (S.rc n).lits 0 1)[1]! =(S.rc n).lits[0]! :=by rw[mG (by omega) (by omega) (by omega),aae rfl]
  have dS:cS (S.rc n).lits 0 1≠[]:=fun e=>by have :=fO (S.rc n).lits 0 1;rw[e]at this;simp at this;omega
  have hnk:n∉keep:=fun hk=>by have :=h.wi.nd (aS (-e0.x));rw[yj,List.nodup_append]at this;exact this.2.2 n hk n bD rfl
  refine⟨⟨okT,fun j=> ?_,?_,h.dec,h.hd,h.at_,h.LM,⟨h.wi.nd,fun c j hj hl=> ?_,fun j hl=> ?_⟩,fun j=> ?_,fun j hj=> ?_⟩,by rw[uv,g1,h0],by rw[uv];exact dS,by rw[uv];exact hp⟩
  ·by_cases e:j=n
   ·rw[e,uv];exact(hp.map tv).nodup_iff.2 (h.kI n)
   ·rw[uV j e];exact h.kI j
  ·intro A e B hR hr;obtain⟨k,hk,ls,kf,ip⟩:=h.ud A e B hR hr;have jg:k≠n:=fun ek=>by rw[ek]at kf;rw[kf]at h0;have h0:e.x= -e0.x:=h0;exact jS h.ok (by rw[show S.R=A++e::B from hR];simp) qI h0
   exact⟨k,hk,ls,by rw[uV k jg];exact kf,ip⟩
  ·by_cases e:j=n
   ·subst e;rw[uv,g0,g1];exact(h.wi.wd c j hj hn).symm
   ·rw[uV j e]at hl⊢;exact h.wi.wd c j hj hl
  ·by_cases e:j=n
   ·subst e;rw[uv,g0,g1];exact(h.wi.wc j hn).symm
   ·rw[uV j e]at hl⊢;exact h.wi.wc j hl
  ·intro hl e he;by_cases ej:j=n
   ·subst ej;rw[uv,g0,g1];exact(h.wt j hn e he).symm
   ·rw[uV j ej]at hl⊢;exact h.wt j hl e he
  ·have ej:j≠n:=fun e=>hnk (e▸hj);intro hl e he;rw[uV j ej]at hl⊢;exact h.wk j hj hl e he
 ·rw[aac h0]at okT⊢;refine⟨h,?_,hn,dy _⟩;rcases hw with hw |hw
  ·exact absurd (jA hw) h0
  ·exact jA hw
theorem VI.stay {S:Sv}{e0:St}{n:Nat}{r keep:List Nat}(h:S.VI e0 (n::r) keep)(hn:(S.rc n).lits≠[])(h1:(S.rc n).lits[1]! = -e0.x)(hv:0<S.val (S.rc n).lits[0]!):S.VI e0 r (keep++[n]):=by
 have ha:(keep++[n])++r=keep++n::r:=by simp
 refine⟨h.ok.less (by simp;omega),h.kI,h.ud,h.dec,h.hd,h.at_,h.LM,by rw[ha];exact h.wi,h.wt,fun j hj=> ?_⟩;rcases ah.1 hj with hj |hj
 ·exact h.wk j hj
 ·rw[ai.1 hj];intro hl e he;rw[ai.1 he];obtain⟨qI,Ow,mj⟩:=h.at;obtain⟨e',eK,Td⟩:=(fK h.ok _).1 hv;refine⟨fun hx=> ?_,fun hx=>⟨e',eK,Td,?_⟩⟩
  ·exact(jS h.ok qI eK (by rw[hx,Td])).elim
  ·have :=(gM h.ok eK).2.2.2;omega
theorem VI.Af {S:Sv}{e0:St}{n:Nat}{r keep:List Nat}(h:S.VI e0 (n::r) keep)(hn:(S.rc n).lits≠[])(h1:(S.rc n).lits[1]! = -e0.x)(hv:¬0<S.val (S.rc n).lits[0]!)(hm:(S.dz n).2=true):(S.dz n).1.VI e0 r keep:=by
 have h2:=qU h.ok hn;have ov:=lW hn;obtain⟨qI,Ow,mj⟩:=h.at;have okM:=Ok.Af (h.ok.less (m':=keep.length+r.length+1) (by simp;omega)) ov hm;have ut:=qX S n;unfold Sv.dz at okM hm ut⊢;cases hk:S.gE (S.rc n).lits (S.rc n).lits.length 2 with
 |none=>rw[hk]at hm;cases hm
 |some k=>
  rw[hk]at okM ut;obtain⟨k1,k2,k3⟩:=sC _ _ _ hk;simp only[Sv.pP]at okM ut⊢;obtain⟨x,hx⟩:∃x,(S.rc n).lits[k]! =x:=⟨_,rfl⟩
  rw[hx]at okM ut k3⊢;have hxo:x≠ -e0.x:=fun e=>by have :=su (h.kI n) k2 (by omega:1<_) (by omega);rw[hx,h1,e]at this;exact this rfl
  have hcx:aS x≠aS (-e0.x):=fun e=>hxo (jA e);have D8:(S.rc n).lits[0]! ≠x:=fun e=>by have :=su (h.kI n) (by omega:0<_) k2 (by omega);rw[hx,e]at this;exact this rfl
  have h0o:(S.rc n).lits[0]! ≠ -e0.x:=fun e=>by have :=su (h.kI n) (by omega:0<_) (by omega:1<_) (by omega);rw[h1,e]at this;exact this rfl
  have hp:=gR (l:=(S.rc n).lits) (i:=1) (j:=k) (by omega) k2;have g0:(cS (S.rc n).lits 1 k)[0]! =(S.rc n).lits[0]! :=by rw[mG (by omega) k2 (by omega),aac (by omega),aac (by omega)]
  have g1:(cS (S.rc n).lits 1 k)[1]! =x:=by rw[mG (by omega) k2 (by omega),aac (by omega),aae rfl,hx]
  have dS:cS (S.rc n).lits 1 k≠[]:=fun e=>by have :=fO (S.rc n).lits 1 k;rw[e]at this;simp at this;omega
  obtain⟨S',vG⟩:∃S',(S.eI n (cS (S.rc n).lits 1 k)).ii (aS x) n=S':=⟨_,rfl⟩
  have eE:∀j,S'.rc j=if n=j then{ S.rc n with lits:=cS (S.rc n).lits 1 k }else S.rc j:=fun j=>by
   rw[<-vG];show(S.eI n (cS (S.rc n).lits 1 k)).rc j=_;rw[lR];by_cases e:n=j
   ·rw[aae ⟨e,ov⟩,aae e]
   ·rw[aac (fun h=>e h.1),aac e]
  have uv:(S'.rc n).lits=cS (S.rc n).lits 1 k:=by rw[eE,aae rfl]
  have uV:∀j,j≠n->S'.rc j=S.rc j:=fun j hj=>by rw[eE,aac (fun e=>hj e.symm)]
  have od:aS x<S.watch.length:=by have :=h.ok.lit k2;rw[hx]at this;rw[h.ok.wl];exact gX this.2.1 this.2.2
  have xf:∀c,S'.fY c=if c=aS x then S.fY c++[n]else S.fY c:=fun c=>by
   rw[<-vG];unfold fY ii cm eI;rw[ef];by_cases e:aS x=c
   ·rw[aae ⟨e,od⟩,aae e.symm,<-e];rfl
   ·rw[aac (fun h=>e h.1),aac (fun h=>e h.symm)]
  have Ix:S'.R=S.R:=dJ (by rw[<-vG];rfl);have hSh:S'.head=S.head:=by rw[<-vG];rfl
  have hST:S'.T=S.T:=by rw[<-vG];rfl
  rw[vG]at okM⊢;have yC:=h.wi.nd (aS (-e0.x));rw[yj,List.nodup_append]at yC;have hnk:n∉keep:=fun hk=>yC.2.2 n hk n bD rfl;have hnr:n∉r:=(fG.1 yC.2.1).1;have hs:(keep++r).Sublist (keep++n::r):=List.Sublist.append_left (List.sublist_cons_self n r) keep;have Hv:n∉S.fY (aS x):=fun hm=>by
   have :=h.wi.wd (aS x) n (by rw[uG _ _ hcx];exact hm) hn;rcases this with e |e
   ·exact D8 (jA e)
   ·rw[h1]at e;exact hxo (jA e).symm
  refine⟨okM,fun j=> ?_,?_,?_,?_,by rw[Ix,hSh];exact h.at_,?_,⟨fun c=> ?_,fun c j hj hl=> ?_,fun j hl=> ?_⟩,fun j=> ?_,fun j hj=> ?_⟩
  ·by_cases e:j=n
   ·rw[e,uv];exact(hp.map tv).nodup_iff.2 (h.kI n)
   ·rw[uV j e];exact h.kI j
  ·intro A e B hR hr;rw[Ix]at hR;obtain⟨i,hi,ls,kf,ip⟩:=h.ud A e B hR hr;have kF:i≠n:=fun ei=>by rw[ei]at kf;rw[kf]at hv;exact hv ((fK h.ok _).2 ⟨e,by rw[hR];simp,rfl⟩)
   exact⟨i,hi,ls,by rw[uV i kF];exact kf,ip⟩
  ·intro A e B hR hr;rw[Ix]at hR;exact h.dec A e B hR hr
  ·intro e he;rw[Ix,hSh]at he;rw[hST];exact h.hd e he
  ·rw[xf,aac (fun e=>hcx e.symm)];exact h.LM
  ·by_cases hc:c=aS (-e0.x)
   ·have :=h.wi.nd c;subst hc;rw[yj]at this⊢;exact this.sublist hs
   ·have :=h.wi.nd c;rw[uG _ _ hc]at this⊢;rw[xf];split
    ·rename_i ec;rw[List.nodup_append];refine⟨this,by simp,fun a ha b hb=> ?_⟩;rw[ai.1 hb];intro e;rw[e,ec]at ha;exact Hv ha
    ·exact this
  ·have hold:j∈S.W (-e0.x) (keep++n::r) c\/(j=n/\c=aS x):=by
    by_cases hc:c=aS (-e0.x)
    ·subst hc;rw[yj]at hj⊢;exact .inl (hs.subset hj)
    ·rw[uG _ _ hc]at hj⊢;rw[xf]at hj;split at hj
     ·rename_i ec;rcases ah.1 hj with h3 |h3
      ·exact .inl h3
      ·exact .inr ⟨ai.1 h3,ec⟩
     ·exact .inl hj
   by_cases e:j=n
   ·subst e;rw[uv,g0,g1];by_cases hc:c=aS (-e0.x)
    ·subst hc;rw[yj]at hj;rcases ah.1 hj with h3 |h3
     ·exact absurd h3 hnk
     ·exact absurd h3 hnr
    ·rcases hold with h3 |h3
     ·rcases h.wi.wd c j h3 hn with h4 |h4
      ·exact .inl h4
      ·rw[h1]at h4;exact absurd h4.symm hc
     ·exact .inr h3.2.symm
   ·rw[uV j e]at hl⊢;rcases hold with h3 |h3
    ·exact h.wi.wd c j h3 hl
    ·exact absurd h3.1 e
  ·have yD:∀c,j≠n\/c≠aS (-e0.x)->j∈S.W (-e0.x) (keep++n::r) c->j∈S'.W (-e0.x) (keep++r) c:=fun c hor hj=>by
    by_cases hc:c=aS (-e0.x)
    ·have To:j≠n:=by
      rcases hor with h3 |h3
      ·exact h3
      ·exact absurd hc h3
     subst hc;rw[yj]at hj⊢;rcases ah.1 hj with h3 |h3
     ·exact an _ h3
     ·rcases av.1 h3 with h3 |h3
      ·exact absurd h3 To
      ·exact bk _ h3
    ·rw[uG _ _ hc]at hj⊢;rw[xf];split
     ·exact an _ hj
     ·exact hj
   by_cases e:j=n
   ·subst e;rw[uv,g0,g1];refine⟨yD _ (.inr fun e=>h0o (jA e)) (h.wi.wc j hn).1,?_⟩;rw[uG _ _ hcx,xf,aae rfl];simp
   ·rw[uV j e]at hl⊢;have :=h.wi.wc j hl;exact⟨yD _ (.inl e) this.1,yD _ (.inl e) this.2⟩
  ·intro hl e he;rw[Ix,hSh]at he;rw[Ix];have heR:e∈S.R:=List.mem_of_mem_take he;by_cases ej:j=n
   ·subst ej;rw[uv,g0,g1];refine⟨fun h3=> ?_,fun h3=> ?_⟩
    ·obtain⟨e',eK,h4,h5⟩:=(h.wt j hn e he).1 h3;rw[h1]at h4;exact(jS h.ok eK qI h4).elim
    ·have :S.val x<0:=(val_neg h.ok).2 ⟨e,heR,h3⟩;omega
   ·rw[uV j ej]at hl⊢;exact h.wt j hl e he
  ·have ej:j≠n:=fun e=>hnk (e▸hj);intro hl e he;rw[uV j ej]at hl⊢;rw[Ix];exact h.wk j hj hl e he
theorem xE {S:Sv}{l:List Int}:∀(f k:Nat),l.length<=f+k->S.gE l f k=none->∀j,k<=j->j<l.length->S.val l[j]! <0
 |0,k,hf,h,j,h1,h2=>by omega
 |f+1,k,hf,h,j,h1,h2=>by
  simp only[gE]at h;rw[aae (by omega)]at h;split at h
  ·cases h
  ·by_cases e:j=k
   ·rw[e];omega
   ·exact xE f (k+1) (by omega) h j (by omega) h2
theorem VI.Rj {S:Sv}{e0:St}{n:Nat}{r keep:List Nat}(h:S.VI e0 (n::r) keep)(hn:(S.rc n).lits≠[])(h1:(S.rc n).lits[1]! = -e0.x)(hm:¬(S.dz n).2=true):
  ∃ls,(S.rc n).lits=(S.rc n).lits[0]! ::ls/\(-e0.x)∈ls/\∀y∈ls,∃e∈S.R,e.x= -y:=by
 have h2:=qU h.ok hn;obtain⟨qI,Ow,mj⟩:=h.at;have hk:S.gE (S.rc n).lits (S.rc n).lits.length 2=none:=by
  unfold Sv.dz at hm;cases hk:S.gE (S.rc n).lits (S.rc n).lits.length 2 with
  |none=>rfl
  |some k=>rw[hk]at hm;exact absurd rfl hm
 have hf:=xE _ _ (by omega) hk;generalize (S.rc n).lits=l at *
 match l,h2 with
 |x::y::ls,_=>
  have h1:y= -e0.x:=h1;refine⟨y::ls,rfl,by rw[h1];exact bD,fun z hz=> ?_⟩;rcases av.1 hz with rfl |hz
  ·exact⟨e0,qI,by omega⟩
  ·obtain⟨i,hi,hg⟩:=List.getElem_of_mem hz;have :=hf (i+2) (by omega) (by simp;omega);rw[mR (by simp;omega)]at this;simp only[List.getElem_cons_succ]at this;rw[hg]at this;exact(val_neg h.ok).1 this
theorem VI.put {S:Sv}{e0:St}{n:Nat}{r keep:List Nat}(h:S.VI e0 (n::r) keep)(hn:(S.rc n).lits≠[])(h1:(S.rc n).lits[1]! = -e0.x)(hm:¬(S.dz n).2=true)(hv:S.val (S.rc n).lits[0]! =0):
  (S.put (S.rc n).lits[0]! (n+1)).VI e0 r (keep++[n]):=by
 have h2:=qU h.ok hn;have ov:=lW hn;obtain⟨qI,Ow,mj⟩:=h.at;obtain⟨ls,kf,hol,ip⟩:=h.Rj hn h1 hm;have jU:=h.ok.lit (n:=n) (k:=0) (by omega);obtain⟨x,hx⟩:∃x,(S.rc n).lits[0]! =x:=⟨_,rfl⟩
 rw[hx]at jU hv kf⊢;have lx:=h.ok.vl;have YZ:1<=tv x/\tv x<=S.vars:=by
  unfold tv;split
  ·omega
  ·split
   ·omega
   ·omega
 have hb:=i9 h.ok YZ.1 YZ.2 hv;have hR:=ol (r:=(n:Int)+1) h.ok hb;have okP:=Ok.put h.ok (x:=x) (r:=(n:Int)+1) (by omega);have hle:(S.put x (n+1)).T.levels=S.T.levels:=dO S x (n+1);have ha:(keep++[n])++r=keep++n::r:=by simp
 have kF:∀e∈S.R,e∈(S.put x (n+1)).R:=fun e he=>by rw[hR];exact an _ he
 have An:(S.put x (n+1)).R.take (S.put x (n+1)).head=S.R.take S.head:=by show(S.put x (n+1)).R.take S.head=_;rw[hR,mY (by omega)]
 refine⟨okP.less (by simp;omega),h.kI,?_,?_,?_,?_,h.LM,by rw[ha];exact⟨h.wi.nd,h.wi.wd,h.wi.wc⟩,fun j hl e he=> ?_,fun j hj hl e he=> ?_⟩
 ·intro A e B CR hr;rw[hR]at CR;rcases ns CR.symm with⟨h3,h4,h5⟩ |⟨B',h3,h4⟩
  ·subst h4;rw[h5];exact⟨n,rfl,ls,kf,ip⟩
  ·exact h.ud A e B' h4 hr
 ·intro A e B CR hr;rw[hR]at CR;rcases ns CR.symm with⟨h3,h4,h5⟩ |⟨B',h3,h4⟩
  ·rw[h5]at hr;have hr:(n:Int)+1=0:=hr;omega
  ·exact h.dec A e B' h4 hr
 ·intro e he;have he:e∈(S.put x (n+1)).R.drop S.head:=he;rw[hle];rw[hR,List.drop_append_of_le_length (by omega)]at he;rcases ah.1 he with h3 |h3
  ·exact h.hd e h3
  ·rw[ai.1 h3]
 ·show(S.put x (n+1)).R[S.head]? =_;rw[hR,cJ Ow];exact h.at_
 ·rw[An]at he;obtain⟨h3,h4⟩:=h.wt j hl e he;refine⟨fun h5=> ?_,fun h5=> ?_⟩
  ·obtain⟨e',eK,h6⟩:=h3 h5;exact⟨e',kF e' eK,h6⟩
  ·obtain⟨e',eK,h6⟩:=h4 h5;exact⟨e',kF e' eK,h6⟩
 ·rcases ah.1 hj with hj |hj
  ·obtain⟨h3,h4⟩:=h.wk j hj hl e he;refine⟨fun h5=> ?_,fun h5=> ?_⟩
   ·obtain⟨e',eK,h6⟩:=h3 h5;exact⟨e',kF e' eK,h6⟩
   ·obtain⟨e',eK,h6⟩:=h4 h5;exact⟨e',kF e' eK,h6⟩
  ·have To:=ai.1 hj;subst To;rw[ai.1 he];refine⟨fun h5=> ?_,fun h5=>⟨⟨x,S.T.levels.length,(j:Int)+1⟩,by rw[hR];simp,hx.symm,by simp[mj]⟩⟩;have h5:e0.x= -(S.rc j).lits[0]! :=h5;rw[hx]at h5;have :S.val x<0:=(val_neg h.ok).2 ⟨e0,qI,h5⟩;omega
theorem VI.cfl {S:Sv}{e0:St}{n:Nat}{r keep:List Nat}(h:S.VI e0 (n::r) keep)(hn:(S.rc n).lits≠[])(h1:(S.rc n).lits[1]! = -e0.x)(hm:¬(S.dz n).2=true)(hv:S.val (S.rc n).lits[0]! <0):S.Jv n:=by
 obtain⟨qI,Ow,mj⟩:=h.at;obtain⟨ls,kf,hol,ip⟩:=h.Rj hn h1 hm;refine⟨fun y hy=> ?_,-e0.x,by rw[kf];exact aY _ hol,e0,qI,by omega,mj⟩;rw[kf]at hy;rcases av.1 hy with rfl |hy
 ·exact(val_neg h.ok).1 hv
 ·exact ip y hy
end Sv
namespace Sv
structure Mo (S S':Sv):Prop where
 pre:∃Z,S'.R=S.R++Z/\∀e∈Z,e.r≠0
 lits:∀n,(S'.rc n).lits.Perm (S.rc n).lits
 jr:∀n,(S'.rc n).jr=(S.rc n).jr
theorem Mo.refl (S:Sv):Mo S S:=⟨⟨[],by simp,fun e h=>by cases h⟩,fun n=>dy _,fun n=>rfl⟩
theorem Mo.same {S S':Sv}(h1:S'.T=S.T)(h2:S'.list=S.list):Mo S S':=by
 refine⟨⟨[],by rw[dJ h1];simp,fun e h=>by cases h⟩,fun n=> ?_,fun n=> ?_⟩
 ·unfold rc;rw[h2]
 ·unfold rc;rw[h2]
theorem Mo.trans {S S1 S2:Sv}(h:Mo S S1)(k:Mo S1 S2):Mo S S2:=by
 obtain⟨Z,hZ,hr⟩:=h.pre;obtain⟨Z',hZ',Tm⟩:=k.pre;refine⟨⟨Z++Z',by rw[hZ',hZ,jP],fun e he=> ?_⟩,fun n=>(k.lits n).trans (h.lits n),fun n=>(k.jr n).trans (h.jr n)⟩;rcases ah.1 he with h1 |h1
 ·exact hr e h1
 ·exact Tm e h1
theorem Mo.eI (S:Sv){n:Nat}{l:List Int}(h:l.Perm (S.rc n).lits):Mo S (S.eI n l):=by
 refine⟨⟨[],by rw[bZ];rfl,fun e h=>by cases h⟩,fun j=> ?_,fun j=> ?_⟩
 ·rw[lR];split
  ·rename_i e;rw[<-e.1];exact h
  ·exact dy _
 ·rw[lR];split
  ·rename_i e;rw[<-e.1]
  ·rfl
theorem Mo.cP {S:Sv}{m:Nat}(ok:S.Ok m)(n:Nat)(off:Int):Mo S (S.cP n off):=by
 unfold Sv.cP;split
 ·refine Mo.eI S ?_;by_cases h:(S.rc n).lits=[]
  ·rw[h];exact dy _
  ·have :=qU ok h;exact gR (by omega) (by omega)
 ·exact Mo.refl S
theorem Mo.Af (S:Sv)(n:Nat):Mo S (S.dz n).1:=by
 unfold Sv.dz;cases hk:S.gE (S.rc n).lits (S.rc n).lits.length 2 with
 |none=>exact Mo.refl S
 |some k=>
  obtain⟨k1,k2,k3⟩:=sC _ _ _ hk;exact(Mo.eI S (gR (i:=1) (by omega) k2)).trans (Mo.same rfl rfl)
theorem Mo.put {S:Sv}{m:Nat}(ok:S.Ok m)(x:Int){r:Int}(hr:r≠0):Mo S (S.put x r):=by
 by_cases hb:S.T.ij x=true
 ·refine⟨⟨_,ol ok hb,fun e he=>by rw[ai.1 he];exact hr⟩,fun n=>dy _,fun n=>rfl⟩
 ·refine Mo.same ?_ rfl;unfold Sv.put;simp only;rw[aac hb]
theorem Mo.visit {S:Sv}{m:Nat}(ok:S.Ok m)(n:Nat)(off:Int):Mo S (S.dg n off).1:=by
 unfold dg;split
 ·exact Mo.refl S
 ·have h1:=Mo.cP ok n off;have tA:=Ok.cP ok n off;generalize S.cP n off=S1 at *;unfold fZ;simp only;split
  ·exact h1
  ·split
   ·exact h1.trans (Mo.Af S1 n)
   ·split
    ·exact h1
    ·exact h1.trans (Mo.put tA _ (by omega))
theorem VI.visit {S:Sv}{e0:St}{n:Nat}{r keep:List Nat}(h:S.VI e0 (n::r) keep):
  ((S.dg n (-e0.x)).2.2=true->(S.dg n (-e0.x)).1.VI e0 r (if(S.dg n (-e0.x)).2.1=true then keep++[n]else keep))/\
  ((S.dg n (-e0.x)).2.2=false->(S.dg n (-e0.x)).2.1=true/\(S.dg n (-e0.x)).1.VI e0 (n::r) keep/\(S.dg n (-e0.x)).1.Jv n/\((S.dg n (-e0.x)).1.rc n).lits≠[]):=by
 unfold dg;by_cases hn:(S.rc n).lits.length=0
 ·rw[aae hn];exact⟨fun _=>h.dead (aP hn),fun h=>by cases h⟩
 ·rw[aac hn];obtain⟨h1,h2,h3,h4⟩:=h.cP (fun e=>hn (by rw[e];rfl));generalize S.cP n (-e0.x)=S1 at *;unfold fZ;simp only;by_cases hv:(0:Int)<S1.val (S1.rc n).lits[0]!
  ·rw[aae hv];exact⟨fun _=>h1.stay h3 h2 hv,fun h=>by cases h⟩
  ·rw[aac hv];by_cases hm:(S1.dz n).2=true
   ·rw[aae hm];exact⟨fun _=>h1.Af h3 h2 hv hm,fun h=>by cases h⟩
   ·rw[aac hm];by_cases oH:S1.val (S1.rc n).lits[0]! <0
    ·rw[aae oH];exact⟨fun h=>(by cases h),fun _=>⟨rfl,h1,h1.cfl h3 h2 hm oH,h3⟩⟩
    ·rw[aac oH];exact⟨fun _=>h1.put h3 h2 hm (by omega),fun h=>by cases h⟩
theorem oS (S:Sv){c:Nat}(l:List Nat)(hc:c<S.watch.length)(j:Nat):(S.cm c l).fY j=if j=c then l else S.fY j:=by
 unfold fY cm;rw[ef];by_cases e:c=j
 ·rw[aae ⟨e,hc⟩,aae e.symm]
 ·rw[aac (fun h=>e h.1),aac (fun h=>e h.symm)]
theorem Ky {x:Int}{v:Nat}(h1:1<=tv x)(h2:tv x<=v)(hv:v<=262143):aS (-x)<2*v+2:=by
 unfold tv at h1 h2;refine gX ?_ ?_
 ·split at h2
  ·omega
  ·split at h2<;>omega
 ·split at h2
  ·omega
  ·split at h2
   ·omega
   ·rename_i e1 e2;rw[aac e1,aac e2]at h1;omega
theorem VI.code {S:Sv}{e0:St}{todo keep:List Nat}(h:S.VI e0 todo keep):aS (-e0.x)<S.watch.length:=by have h1:=gM h.ok h.at.1;rw[h.ok.wl];exact Ky h1.1 h1.2.1 h.ok.vl
theorem VI.end_ {S:Sv}{e0:St}{keep:List Nat}(h:S.VI e0 [] keep)(hb:∀n∈keep,n<S.list.length):
  ({ S.cm (aS (-e0.x)) (keep++S.fY (aS (-e0.x)))with head:=S.head+1 }:Sv).Inv:=by
 obtain⟨qI,Ow,mj⟩:=h.at;have hc:=h.code;rw[h.LM,bZ];have o:(S.cm (aS (-e0.x)) keep).Ok 0:=h.ok.cm hc hb (by simp);have hw:∀c,(S.cm (aS (-e0.x)) keep).fY c=S.W (-e0.x) (keep++[]) c:=fun c=>by rw[oS S keep hc,bZ];rfl
 have An:S.R.take (S.head+1)=S.R.take S.head++[e0]:=by rw[List.take_add_one,h.at_];rfl
 refine⟨⟨o.vl,o.tr,o.hi,o.hl,o.ph,o.wl,o.ll,o.wb,o.wt,o.lr,o.ln,o.lb,?_,o.rs⟩,h.kI,h.ud,h.dec,fun e he=> ?_,⟨fun c=> ?_,fun c n hn hl=> ?_,fun n hl=> ?_⟩,fun n hl e he=> ?_⟩
 ·show S.head+1<=S.T.lits.length;rw[<-jn];omega
 ·have he:e∈S.R.drop (S.head+1):=he;refine h.hd e ?_;rw[List.drop_eq_getElem_cons Ow];exact aY _ he
 ·exact(hw c)▸h.wi.nd c
 ·exact h.wi.wd c n ((hw c)▸hn) hl
 ·have :=h.wi.wc n hl;rw[<-hw,<-hw]at this;exact this
 ·have he:e∈S.R.take (S.head+1):=he;rw[An]at he;rcases ah.1 he with h1 |h1
  ·exact h.wt n hl e h1
  ·have hee:=ai.1 h1;subst hee;have hwc:=h.wi.wc n hl;have hk:∀x:Int,n∈S.W (-e.x) (keep++[]) (aS x)->e.x= -x->n∈keep:=fun x hx h2=>by rw[show x= -e.x by omega,yj,bZ]at hx;exact hx
   exact⟨fun h2=>(h.wk n (hk _ hwc.1 h2) hl e bD).1 h2,fun h2=>(h.wk n (hk _ hwc.2 h2) hl e bD).2 h2⟩
theorem VI.stop {S:Sv}{e0:St}{todo keep:List Nat}(h:S.VI e0 todo keep)(hb:∀n∈keep++todo,n<S.list.length):
  (S.cm (aS (-e0.x)) (keep++todo)).Inv:=by
 have hc:=h.code;have o:(S.cm (aS (-e0.x)) (keep++todo)).Ok 0:=h.ok.cm hc hb (by simp);have hw:∀c,(S.cm (aS (-e0.x)) (keep++todo)).fY c=S.W (-e0.x) (keep++todo) c:=fun c=>by rw[oS S _ hc];rfl
 refine⟨o,h.kI,h.ud,h.dec,h.hd,⟨fun c=> ?_,fun c n hn hl=> ?_,fun n hl=> ?_⟩,h.wt⟩
 ·exact(hw c)▸h.wi.nd c
 ·exact h.wi.wd c n ((hw c)▸hn) hl
 ·have :=h.wi.wc n hl;rw[<-hw,<-hw]at this;exact this
theorem VI.oU {e0:St}:∀(ws keep:List Nat) (S:Sv),S.VI e0 ws keep->(∀n∈keep++ws,n<S.list.length)->
  Mo S (bU (-e0.x) ws keep S).1/\
  ((bU (-e0.x) ws keep S).2=none->({ (bU (-e0.x) ws keep S).1 with head:=(bU (-e0.x) ws keep S).1.head+1 }:Sv).Inv)/\
  ∀n,(bU (-e0.x) ws keep S).2=some n->(bU (-e0.x) ws keep S).1.Inv/\(bU (-e0.x) ws keep S).1.Jv n/\((bU (-e0.x) ws keep S).1.rc n).lits≠[]
 |[],keep,S,h,hb=>by
  simp only[bU];exact⟨Mo.same rfl rfl,fun _=>h.end_ (fun n hn=>hb n (by simpa using hn)),fun n h=>by cases h⟩
 |n::r,keep,S,h,hb=>by
  simp only[bU];obtain⟨v1,v2⟩:=h.visit;have hmo:=Mo.visit h.ok n (-e0.x);have qh:=(Ok.visit (h.ok.less (m':=keep.length+r.length+1) (by simp only[cW];omega)) (hb n (by simp)) (-e0.x)).2.2.1;generalize S.dg n (-e0.x)=q at *;obtain⟨S1,b1,b2⟩:=q;simp only at v1 v2 hmo qh⊢;cases b2 with
  |true=>
   rw[aae rfl];obtain⟨i1,i2,i3⟩:=VI.oU r _ S1 (v1 rfl) (fun j hj=>by
    rw[qh];rcases ah.1 hj with h1 |h1
    ·split at h1
     ·rcases ah.1 h1 with h2 |h2
      ·exact hb j (by simp[h2])
      ·exact hb j (by simp at h2;simp[h2])
     ·exact hb j (by simp[h1])
    ·exact hb j (by simp[h1]))
   exact⟨hmo.trans i1,i2,i3⟩
  |false=>
   rw[aac (by simp)];obtain⟨qk,k1,k2,k3⟩:=v2 rfl;subst qk;have gU:=k1.stop (fun j hj=>by rw[qh];exact hb j hj);refine⟨hmo.trans (Mo.same rfl rfl),fun h=>(by cases h),fun j hj=> ?_⟩;simp only[Option.some.injEq]at hj;subst hj;have ha:(keep++[n])++r=keep++n::r:=by simp
   rw[aae rfl,ha];exact⟨gU,k2,k3⟩
theorem Inv.begin {S:Sv}(h:S.Inv){e0:St}(h0:S.R[S.head]? =some e0):(S.cm (aS (-e0.x)) []).VI e0 (S.fY (aS (-e0.x))) []:=by
 have hm:e0∈S.R:=List.mem_of_getElem? h0;have h1:=gM h.ok hm;have lx:=h.ok.vl;have hc:aS (-e0.x)<S.watch.length:=by rw[h.ok.wl];exact Ky h1.1 h1.2.1 lx
 have o:(S.cm (aS (-e0.x)) []).Ok (([]:List Nat).length+(S.fY (aS (-e0.x))).length):=h.ok.cm hc (fun n hn=>by cases hn) (by simp);have hw:∀c,(S.cm (aS (-e0.x)) []).W (-e0.x) ([]++S.fY (aS (-e0.x))) c=S.fY c:=fun c=>by
  unfold W;rw[oS S [] hc];by_cases e:c=aS (-e0.x)
  ·rw[aae e,e];rfl
  ·rw[aac e,aac e]
 refine⟨o,h.kI,h.ud,h.dec,h.hd,h0,?_,⟨fun c=> ?_,fun c n hn hl=> ?_,fun n hl=> ?_⟩,h.wt,fun n hn=>by cases hn⟩
 ·rw[oS S [] hc,aae rfl]
 ·rw[hw];exact h.wi.nd c
 ·rw[hw]at hn;exact h.wi.wd c n hn hl
 ·rw[hw,hw];exact h.wi.wc n hl
theorem vw {S:Sv}{m:Nat}(ok:S.Ok m):S.T.lits.length<=S.vars:=by
 have hn:=ok.rep.nd;have qE:(S.R.map fun e:St=>(tv e.x-1).toNat).Nodup:=by unfold List.Nodup at hn⊢;rw[List.pairwise_map]at hn⊢;refine List.Pairwise.imp_of_mem ?_ hn;intro a b ha hb dS e;have :=gM ok ha;have :=gM ok hb;omega
 have :=ja S.vars _ qE (fun x hx=>by rw[aG]at hx;obtain⟨e,he,rfl⟩:=hx;have :=gM ok he;omega);rw[<-jn];simpa using this
theorem sB:∀(f:Nat) (S:Sv),S.Inv->S.vars+1<=f+S.head->(di f S).1.Inv/\Mo S (di f S).1/\((di f S).2=none->(di f S).1.head=(di f S).1.T.lits.length)/\∀n,(di f S).2=some n->(di f S).1.Jv n/\((di f S).1.rc n).lits≠[]
 |0,S,h,hf=>by
  have h1:=vw h.ok;have h2:=h.ok.hd;omega
 |f+1,S,h,hf=>by
  by_cases hh:S.head<S.T.lits.length
  ·rw[xD hh];obtain⟨e0,qI⟩:∃e0,S.R[S.head]? =some e0:=⟨_,af (by rw[jn];exact hh)⟩
   have hx:S.T.lits[S.head]! =e0.x:=by
    have :(S.T.lits)[S.head]? =some e0.x:=by rw[h.ok.rep.lits,aJ,qI];rfl
    rw[ae,this];rfl
   rw[hx];obtain⟨i1,i2,i3⟩:=VI.oU (S.fY (aS (-e0.x))) [] _ (h.begin qI) (fun n hn=>h.ok.wb (aS (-e0.x)) n ((ah.1 hn).elim (fun h=>by cases h) id));have xg:=o6 (-e0.x) (S.fY (aS (-e0.x))) [] (S.cm (aS (-e0.x)) []);have hvh:=(Ok.oU (-e0.x) (S.fY (aS (-e0.x))) [] _ (h.begin qI).ok (fun n hn=>h.ok.wb _ n hn) (fun n hn=>by cases hn) (h.begin qI).code).2.2.1;rw[pO]at xg;have Oi:(bU (-e0.x) (S.fY (aS (-e0.x))) [] (S.cm (aS (-e0.x)) [])).1.vars=S.vars:=aao (fun x=>x.2.1) xg;have uY:Mo S (S.cm (aS (-e0.x)) []):=Mo.same rfl rfl;generalize bU (-e0.x) (S.fY (aS (-e0.x))) [] (S.cm (aS (-e0.x)) [])=q at *;obtain⟨S1,o⟩:=q;simp only at i1 i2 i3 hvh Oi⊢;have hvh:S1.head=S.head:=hvh;cases o with
   |some n=>
    rw[aae (show(some n).isSome=true from rfl)];obtain⟨k1,k2,k3⟩:=i3 n rfl;refine⟨k1,uY.trans i1,fun h=>(by cases h),fun j hj=> ?_⟩;simp only[Option.some.injEq]at hj;subst hj;exact⟨k2,k3⟩
   |none=>
    rw[aac (show ¬(none:Option Nat).isSome=true by simp)];obtain⟨k1,k2,k3,k4⟩:=sB f { S1 with head:=S1.head+1 } (i2 rfl) (by show S1.vars+1<=f+(S1.head+1);omega);exact⟨k1,(uY.trans i1).trans ((Mo.same rfl rfl :Mo S1 { S1 with head:=S1.head+1 }).trans k2),k3,k4⟩
  ·rw[nR hh];have :=h.ok.hd;exact⟨h,Mo.refl S,fun _=>by show S.head=S.T.lits.length;omega,fun n h=>by cases h⟩
theorem uz {S:Sv}(h:S.Inv):S.follow.1.Inv/\Mo S S.follow.1/\(S.follow.2=none->S.follow.1.head=S.follow.1.T.lits.length)/\∀n,S.follow.2=some n->S.follow.1.Jv n/\(S.follow.1.rc n).lits≠[]:=
 sB _ S h (by omega)
end Sv
theorem xR (m:Int):∀{R:List St},R.Pairwise (fun a b:St=>a.l<=b.l)->∃B,R=R.filter (fun e:St=>decide (e.l<=m))++B/\∀e∈B,m<e.l
 |[],_=>⟨[],rfl,fun e h=>by cases h⟩
 |e::R,h=>by
  rw[List.pairwise_cons]at h;by_cases he:e.l<=m
  ·obtain⟨B,h1,h2⟩:=xR m h.2;refine⟨B,?_,h2⟩;rw[List.filter_cons,aae (by simpa using he),List.cons_append,<-h1]
  ·have ip:∀e'∈R,m<e'.l:=fun e' eK=>by have :=h.1 e' eK;omega
   have :R.filter (fun e:St=>decide (e.l<=m))=[]:=by rw[List.filter_eq_nil_iff];intro e' eK;have :=ip e' eK;simp;omega
   refine⟨e::R,?_,fun e' eK=> ?_⟩
   ·rw[List.filter_cons,aac (by simpa using he),this];rfl
   ·rcases av.1 eK with rfl |eK
    ·omega
    ·exact ip e' eK
namespace Sv
theorem jJ {S S':Sv}(h:S'.list=S.list)(n:Nat):S'.rc n=S.rc n:=by unfold rc;rw[h]
theorem oT {S S':Sv}(h:S'.watch=S.watch)(c:Nat):S'.fY c=S.fY c:=by unfold fY;rw[h]
theorem Inv.congr {S S':Sv}(h:S.Inv)(ok:S'.Ok 0)(hT:S'.T=S.T)(hh:S'.head=S.head)(hl:∀n,(S'.rc n).lits=(S.rc n).lits)(hw:S'.watch=S.watch):S'.Inv:=by
 have hR:=dJ hT;refine⟨ok,fun n=>by rw[hl];exact h.kI n,fun A e B h1 h2=> ?_,fun A e B h1 h2=>h.dec A e B (hR▸h1) h2,fun e he=> ?_,⟨fun c=>by rw[oT hw];exact h.wi.nd c,fun c n hn m6=> ?_,fun n m6=> ?_⟩,fun n m6 e he=> ?_⟩
 ·obtain⟨n,h3,ls,h4,h5⟩:=h.ud A e B (hR▸h1) h2;exact⟨n,h3,ls,(hl n).trans h4,h5⟩
 ·rw[hR,hh]at he;rw[hT];exact h.hd e he
 ·rw[hl]at m6⊢;rw[oT hw]at hn;exact h.wi.wd c n hn m6
 ·rw[hl]at m6⊢;rw[oT hw,oT hw];exact h.wi.wc n m6
 ·rw[hl]at m6⊢;rw[hR,hh]at he;rw[hR];exact h.wt n m6 e he
theorem uE (level:Int):∀(r:List Int) (S:Sv),(dY level r S).watch=S.watch
 |[],S=>rfl
 |l::r,S=>by
  rw[dY];split
  ·rfl
  ·exact uE level r _
theorem fS {S:Sv}{m:Nat}(ok:S.Ok m){level:Nat}(hl:level<S.T.levels.length):
  (S.back level).list=S.list/\(S.back level).watch=S.watch/\(S.back level).T.levels.length=level/\(S.back level).head=min S.head (S.back level).R.length/\∃B,S.R=(S.back level).R++B/\(∀e∈B,(level:Int)<e.l)/\∀e∈(S.back level).R,e.l<=(level:Int):=by
 obtain⟨B,h1,h2⟩:=xR (level:Int) ok.rep.sorted;have hR:=aaM ok level hl;have hd:=(ok.rep.back level hl).dep;obtain⟨g1,g2,g3,g4,g5⟩:=jG (level:Int) S.T.lits.reverse S m ok;have hw:=uE (level:Int) S.T.lits.reverse S;have hbT:(S.back level).T=S.T.df level:=by unfold back;rw[aac (by omega)];simp only;rw[g2]
 refine⟨?_,?_,by rw[hbT];exact hd,?_,B,by rw[hR];exact h1,h2,fun e he=> ?_⟩
 ·unfold back;rw[aac (by omega)];exact g5
 ·unfold back;rw[aac (by omega)];exact hw
 ·rw[jn,hbT];unfold back;rw[aac (by omega)];simp only;rw[g2,g3]
 ·rw[hR]at he;have :=(dx.1 he).2;simpa using this
theorem Inv.back {S:Sv}(h:S.Inv)(level:Nat):(S.back level).Inv:=by
 by_cases hl:level<S.T.levels.length
 ·obtain⟨h1,h2,h3,h4,B,h5,h6,h7⟩:=fS h.ok hl;have eE:=jJ h1;have CN:=oT h2;have kF:∀e∈(S.back level).R,e∈S.R:=fun e he=>by rw[h5];exact an _ he
  have yI:∀e∈S.R,e.l<=(level:Int)->e∈(S.back level).R:=fun e he hle=>by
   rw[h5]at he;rcases ah.1 he with h8 |h8
   ·exact h8
   ·have :=h6 e h8;omega
  refine⟨(h.ok.back level).1,fun n=>by rw[eE];exact h.kI n,fun A e B1 k1 k2=> ?_,fun A e B1 k1 k2=>h.dec A e (B1++B) (by rw[h5,k1];simp) k2,fun e he=> ?_,⟨fun c=>by rw[CN];exact h.wi.nd c,fun c n hn m6=> ?_,fun n m6=> ?_⟩,fun n m6 e he=> ?_⟩
  ·obtain⟨n,k3,ls,k4,k5⟩:=h.ud A e (B1++B) (by rw[h5,k1];simp) k2;exact⟨n,k3,ls,by rw[eE];exact k4,k5⟩
  ·exfalso;rw[h4]at he;have hle:=h7 e (List.mem_of_mem_drop he);by_cases hq:S.head<=(S.back level).R.length
   ·rw[j4 hq]at he;have :=h.hd e (by rw[h5,List.drop_append_of_le_length hq];exact an _ he);omega
   ·rw[Nat.min_eq_right (by omega),List.drop_length]at he;cases he
  ·rw[eE]at m6⊢;rw[CN]at hn;exact h.wi.wd c n hn m6
  ·rw[eE]at m6⊢;rw[CN,CN];exact h.wi.wc n m6
  ·rw[eE]at m6⊢;have hm:e∈(S.back level).R:=List.mem_of_mem_take he;have hle:=h7 e hm;have ht:e∈S.R.take S.head:=by rw[h4]at he;rw[h5];have h8:((S.back level).R.take (min S.head (S.back level).R.length))=((S.back level).R++B).take (min S.head (S.back level).R.length):=(mY (Nat.min_le_right _ _)).symm;rw[h8]at he;exact List.take_subset_take_left _ (Nat.min_le_left _ _) he
   obtain⟨k1,k2⟩:=h.wt n m6 e ht;refine⟨fun hx=> ?_,fun hx=> ?_⟩
   ·obtain⟨e',k3,k4,k5⟩:=k1 hx;exact⟨e',yI e' k3 (by omega),k4,k5⟩
   ·obtain⟨e',k3,k4,k5⟩:=k2 hx;exact⟨e',yI e' k3 (by omega),k4,k5⟩
 ·have :S.back level=S:=by unfold Sv.back;rw[aae (by omega)]
  rw[this];exact h
structure NN (S:Sv)(x:Nat):Prop where
 ok:S.Ok 0
 kI:∀n,((S.rc n).lits.map tv).Nodup
 ud:S.Rsn
 dec:S.Dec
 hd:S.Hd
 wi:S.WI S.fY
 wt:∀n,n≠x->S.WT1 (S.R.take S.head) n
theorem Inv.but {S:Sv}(h:S.Inv)(x:Nat):S.NN x:=⟨h.ok,h.kI,h.ud,h.dec,h.hd,h.wi,fun n _=>h.wt n⟩
theorem DB {S:Sv}{x:Nat}(h:S.NN x){y r:Int}(hb:S.T.ij y=true)(hr:0<=r/\r<=S.list.length)
  (h1:r≠0->∃n:Nat,r=(n:Int)+1/\∃ls,(S.rc n).lits=y::ls/\∀z∈ls,∃e'∈S.R,e'.x= -z)
  (h2:r=0->S.T.levels.length=0\/∀e∈S.R,e.l<S.T.levels.length):(S.put y r).NN x/\(S.put y r).R=S.R++[⟨y,S.T.levels.length,r⟩]/\(S.put y r).R.take (S.put y r).head=S.R.take S.head:=by
 have hR:=ol (r:=r) h.ok hb;have okP:=Ok.put h.ok (x:=y) (r:=r) hr;have hle:(S.put y r).T.levels=S.T.levels:=dO S y r;have Ow:S.head<=S.R.length:=by rw[jn];exact h.ok.hd
 have kF:∀e∈S.R,e∈(S.put y r).R:=fun e he=>by rw[hR];exact an _ he
 have An:(S.put y r).R.take (S.put y r).head=S.R.take S.head:=by show(S.put y r).R.take S.head=_;rw[hR,mY Ow]
 refine⟨⟨okP,h.kI,?_,?_,?_,⟨h.wi.nd,h.wi.wd,h.wi.wc⟩,fun j hj hl e he=> ?_⟩,hR,An⟩
 ·intro A e B CR hr;rw[hR]at CR;rcases ns CR.symm with⟨h3,h4,h5⟩ |⟨B',h3,h4⟩
  ·subst h4;rw[h5]at hr⊢;exact h1 hr
  ·exact h.ud A e B' h4 hr
 ·intro A e B CR hr;rw[hR]at CR;rcases ns CR.symm with⟨h3,h4,h5⟩ |⟨B',h3,h4⟩
  ·subst h4;rw[h5]at hr⊢;rcases h2 hr with h6 |h6
   ·left
    show((S.T.levels.length:Nat):Int)=0;rw[h6];rfl
   ·exact .inr h6
  ·exact h.dec A e B' h4 hr
 ·intro e he;have he:e∈(S.put y r).R.drop S.head:=he;rw[hle];rw[hR,List.drop_append_of_le_length Ow]at he;rcases ah.1 he with h3 |h3
  ·exact h.hd e h3
  ·rw[ai.1 h3]
 ·rw[An]at he;obtain⟨h3,h4⟩:=h.wt j hj hl e he;refine⟨fun h5=> ?_,fun h5=> ?_⟩
  ·obtain⟨e',eK,h6⟩:=h3 h5;exact⟨e',kF e' eK,h6⟩
  ·obtain⟨e',eK,h6⟩:=h4 h5;exact⟨e',kF e' eK,h6⟩
theorem NN.whole {S:Sv}{x:Nat}(h:S.NN x)(h1:S.WT1 (S.R.take S.head) x):S.Inv:=
 ⟨h.ok,h.kI,h.ud,h.dec,h.hd,h.wi,fun n=>by
  by_cases e:n=x
  ·rw[e];exact h1
  ·exact h.wt n e⟩
theorem iZ {S:Sv}{m:Nat}(ok:S.Ok m){x:Int}(h:S.val x=0):∀e∈S.R,e.x≠x/\e.x≠ -x:=fun e he=>by
 constructor
 ·intro hx;have :=(fK ok x).2 ⟨e,he,hx⟩;omega
 ·intro hx;have :=(val_neg ok).2 ⟨e,he,hx⟩;omega
theorem Inv.put {S:Sv}(h:S.Inv){y r:Int}(hb:S.T.ij y=true)(hr:0<=r/\r<=S.list.length)
  (h1:r≠0->∃n:Nat,r=(n:Int)+1/\∃ls,(S.rc n).lits=y::ls/\∀z∈ls,∃e'∈S.R,e'.x= -z)
  (h2:r=0->S.T.levels.length=0\/∀e∈S.R,e.l<S.T.levels.length):(S.put y r).Inv/\(S.put y r).R=S.R++[⟨y,S.T.levels.length,r⟩]:=by
 obtain⟨k1,k2,k3⟩:=DB (h.but S.list.length) hb hr h1 h2;refine⟨k1.whole ?_,k2⟩;intro hl;exact absurd (show(S.rc S.list.length).lits=[] by rw[nD (ap _)]) hl
theorem wO (S:Sv)(l:List Int)(b:Bool)(c:Nat):(S.iJ l b).fY c=S.fY c:=rfl
theorem C2 (S:Sv){c n:Nat}(hc:c<S.watch.length)(j:Nat):(S.ii c n).fY j=if j=c then S.fY c++[n]else S.fY j:=oS S _ hc j
theorem Inv.attach {S:Sv}(h:S.Inv){l:List Int}(hf:S.Fits l)(hd:(l.map tv).Nodup)(b:Bool)(hr:S.list.length<2199023255552):
  (S.attach l b).NN S.list.length/\(S.attach l b).rc S.list.length=⟨l,b,S.used⟩/\∀n,n≠S.list.length->(S.attach l b).rc n=S.rc n:=by
 have h2:=hf.two;have ok:=h.ok.attach hf b hr;have l0:=hf.lit _ (get_mem (l:=l) (i:=0) (by omega));have l1:=hf.lit _ (get_mem (l:=l) (i:=1) (by omega));have eE:∀n,(S.attach l b).rc n=if n=S.list.length then⟨l,b,S.used⟩else S.rc n:=fun n=>vu S l b n;have hc0:aS l[0]! <S.watch.length:=by rw[h.ok.wl];exact gX l0.2.1 l0.2.2
 have xu:aS l[1]! <S.watch.length:=by rw[h.ok.wl];exact gX l1.2.1 l1.2.2
 have h01:aS l[0]! ≠aS l[1]! :=fun e=>by have :=su hd (by omega:0<_) (by omega:1<_) (by omega);rw[jA e]at this;exact this rfl
 have xf:∀c,(S.attach l b).fY c=if c=aS l[0]! \/c=aS l[1]! then S.fY c++[S.list.length]else S.fY c:=fun c=>by
  show(((S.iJ l b).ii (aS l[0]!) S.list.length).ii (aS l[1]!) S.list.length).fY c=_;have hq:=fun j=>C2 (S.iJ l b) (c:=aS l[0]!) (n:=S.list.length) hc0 j;rw[C2 _ (by show _<(S.watch.set _ _).length;rw[ao];exact xu),hq,hq,wO,wO,wO];by_cases e1:c=aS l[1]!
  ·rw[aae e1,aac (fun e=>h01 e.symm),aae (.inr e1),e1]
  ·rw[aac e1];by_cases e0:c=aS l[0]!
   ·rw[aae e0,aae (.inl e0),e0]
   ·rw[aac e0,aac (fun e=>e.elim e0 e1)]
 have lF:(S.attach l b).rc S.list.length=⟨l,b,S.used⟩:=by rw[eE,aae rfl]
 have hold:∀n,n≠S.list.length->(S.attach l b).rc n=S.rc n:=fun n hn=>by rw[eE,aac hn]
 have Vn:∀n,(S.rc n).lits≠[]->n≠S.list.length:=fun n hn e=>by have :=lW hn;omega
 refine⟨⟨ok,fun n=> ?_,fun A e B k1 k2=> ?_,h.dec,h.hd,⟨fun c=> ?_,fun c n hn hl=> ?_,fun n hl=> ?_⟩,fun n hn hl e he=> ?_⟩,lF,hold⟩
 ·by_cases e:n=S.list.length
  ·rw[e,lF];exact hd
  ·rw[hold n e];exact h.kI n
 ·obtain⟨n,k3,ls,k4,k5⟩:=h.ud A e B k1 k2;exact⟨n,k3,ls,by rw[hold n (Vn n (by rw[k4];simp))];exact k4,k5⟩
 ·rw[xf];have :=h.wi.nd c;split
  ·rw[List.nodup_append];refine⟨this,by simp,fun a ha b' hb'=> ?_⟩;rw[ai.1 hb'];have :=h.ok.wb c a ha;omega
  ·exact this
 ·rw[xf]at hn;by_cases e:n=S.list.length
  ·rw[e,lF];split at hn
   ·rename_i hc;exact hc.imp Eq.symm Eq.symm
   ·have :=h.ok.wb c n hn;omega
  ·rw[hold n e]at hl⊢;refine h.wi.wd c n ?_ hl;split at hn
   ·rcases ah.1 hn with h3 |h3
    ·exact h3
    ·exact absurd (ai.1 h3) e
   ·exact hn
 ·by_cases e:n=S.list.length
  ·rw[e,lF];rw[xf,xf,aae (.inl rfl),aae (.inr rfl)];exact⟨by simp,by simp⟩
  ·rw[hold n e]at hl⊢;have hq:=h.wi.wc n hl;have yD:∀c,n∈S.fY c->n∈(S.attach l b).fY c:=fun c hc=>by
    rw[xf];split
    ·exact an _ hc
    ·exact hc
   exact⟨yD _ hq.1,yD _ hq.2⟩
 ·rw[hold n hn]at hl⊢;exact h.wt n hl e he
end Sv
theorem qt {x:Int}{v:Nat}(h0:x≠0)(h1: -(v:Int)<=x)(h2:x<=v)(hv:v<=262143):1<=tv x/\tv x<=v:=by
 unfold tv;split
 ·omega
 ·split<;>omega
namespace Sv
structure Nu (S S2:Sv):Prop where
 vars:S2.vars=S.vars
 adc:S.list.length<=S2.list.length
 W6:S2.list.length<=S.list.length+1
 used:S2.used=S.used
 bump:S2.bump<=1073741824
 PT:S.many<=S2.many
 many1:S2.many<=S.many+1
 bQ:S2.bQ=S.bQ
 core:S2.core=S.core
 ct:S2.T.levels.length<=S.T.levels.length
 bad:S2.bad=S.bad
theorem GI {B:Sv}(h:B.Inv){l:List Int}(hr:B.list.length<2199023255552)(l0:0<l.length)(l1:l.length<=1048576)(hl:∀x∈l,x≠0/\ -(B.vars:Int)<=x/\x<=B.vars)(yC:(l.map tv).Nodup)
  (hv:B.val l[0]! =0)(kF:∀k,1<=k->k<l.length->∃e∈B.R,e.x= -l[k]!)(h1:l.length=1->B.T.levels.length=0)(h2:2<=l.length->∃e∈B.R,e.x= -l[1]! /\e.l=B.T.levels.length):(B.bu l).Inv:=by
 have tc:=hl _ (get_mem (l:=l) (i:=0) l0);have ht:=qt tc.1 tc.2.1 tc.2.2 h.ok.vl;unfold bu;by_cases e1:l.length=1
 ·rw[aae e1];exact(h.put (r:=0) (i9 h.ok ht.1 ht.2 hv) (by omega) (fun h=>absurd rfl h) (fun _=> .inl (h1 e1))).1
 ·rw[aac e1];obtain⟨k1,k2,k3⟩:=h.attach (l:=l) ⟨by omega,l1,hl⟩ yC true hr;have hs:=cE B l true;have hb:(B.attach l true).T.ij l[0]! =true:=by rw[hs.1];exact i9 h.ok ht.1 ht.2 hv
  have hRa:(B.attach l true).R=B.R:=dJ hs.1;obtain⟨y,ls,kf⟩:∃y ls,l=y::ls:=by
   cases l with
   |nil=>simp at l0
   |cons y ls=>exact⟨y,ls,rfl⟩
  have hy:l[0]! =y:=by rw[kf];rfl
  obtain⟨p1,p2,p3⟩:=DB k1 (r:=(B.list.length:Int)+1) hb (by rw[hs.2.2.1];omega) (fun _=>⟨B.list.length,rfl,ls,by rw[k2,hy];exact kf,fun z hz=>by obtain⟨i,hi,hg⟩:=List.getElem_of_mem hz;obtain⟨e,he,hx⟩:=kF (i+1) (by omega) (by rw[kf];simp;omega);refine⟨e,by rw[hRa];exact he,?_⟩;rw[hx,kf,mR (by simp;omega)];simp[hg]⟩) (fun e=>by omega);have hI:((B.attach l true).put l[0]! ((B.list.length:Int)+1)).Inv:=by refine p1.whole ?_;intro dS e he;have eE:((B.attach l true).put l[0]! ((B.list.length:Int)+1)).rc B.list.length=⟨l,true,B.used⟩:=k2;rw[eE];rw[p3,hRa]at he;have heR:e∈B.R:=List.mem_of_mem_take he;have UA:=iZ h.ok hv e heR;refine⟨fun hx=>absurd hx UA.2,fun hx=> ?_⟩;obtain⟨e2,jM,gd,m6⟩:=h2 (by omega);have hee:e=e2:=mt h.ok heR jM (by have hx:e.x= -l[1]! :=hx;rw[hx,gd]);refine⟨⟨l[0]!,(B.attach l true).T.levels.length,(B.list.length:Int)+1⟩,by rw[p2];simp,rfl,?_⟩;show((B.attach l true).T.levels.length:Int)<=e.l;rw[hs.1,hee,m6];exact my _
  exact hI.congr (hI.ok.JM _) rfl rfl (fun _=>rfl) rfl
theorem Mb (B:Sv)(l:List Int):Nu B (B.bu l).ch:=by
 have hm:(B.bu l).ch.bump<=1073741824:=Nat.min_le_right _ _;by_cases e1:l.length=1
 ·have e:(B.bu l)=B.put l[0]! 0:=by unfold bu;rw[aae e1]
  rw[e]at hm⊢;exact⟨rfl,ap _,by show B.list.length<=_;omega,rfl,hm,my _,by show B.many<=_;omega,rfl,rfl,by show(B.put l[0]! 0).T.levels.length<=_;rw[dO];exact ap _,rfl⟩
 ·have e:(B.bu l)={ ((B.attach l true).put l[0]! (B.list.length+1))with many:=B.many+1 }:=by unfold bu;rw[aac e1]
  have hs:=cE B l true;rw[e]at hm⊢;exact⟨rfl,by show B.list.length<=(B.attach l true).list.length;omega,by show(B.attach l true).list.length<=_;omega,rfl,hm,by show B.many<=B.many+1;omega,my _,rfl,rfl,by show((B.attach l true).put l[0]! _).T.levels.length<=_;rw[dO,hs.1];exact ap _,rfl⟩
theorem zn {S:Sv}(h:S.Inv){n:Nat}(hc:S.Jv n)(hn:(S.rc n).lits≠[])(hr:S.list.length<2199023255552)(hd:0<S.T.levels.length):
  ∃S2 l ct,S.Lrd l ct/\S.conflict n=some (S2,true)/\S2.Inv/\Nu S S2/\∃S1:Sv,S1.j9=S.j9/\S2=((S1.back ct.toNat).bu l).ch:=by
 obtain⟨S1,l,ct,h1,h2,h3⟩:=jf h.ok h.ud h.dec hc hd hn;obtain⟨tA,eT,eV,eL,eU,f0,f1,f2,f3,f4⟩:=gx h.ok h1;have vH:S1.Inv:=h.congr tA eT (aao (fun x=>x.2.2.2.2.2.2.1) h2) (fun j=>(jI h2 j).1) (aao (fun x=>x.2.2.1) h2);have hR1:S1.R=S.R:=dJ eT;have bw:=h3.lt;have mj:ct.toNat<S1.T.levels.length:=by rw[eT];omega
 obtain⟨b1,b2,b3,b4,BB,b5,b6,b7⟩:=fS vH.ok mj;have aoQ:((ct.toNat:Nat):Int)=ct:=by omega
 have hbv:=(vH.ok.back ct.toNat).2.1;have Ko:=vH.back ct.toNat;have yI:∀e∈S.R,e.l<=ct->e∈(S1.back ct.toNat).R:=fun e he hle=>by
  rw[<-hR1,b5]at he;rcases ah.1 he with h8 |h8
  ·exact h8
  ·have :=b6 e h8;omega
 have kF:∀e∈(S1.back ct.toNat).R,e∈S.R:=fun e he=>by rw[<-hR1,b5];exact an _ he
 obtain⟨et,het,tR,M5⟩:=h3.top;have hIL:((S1.back ct.toNat).bu l).Inv:=by
  refine GI Ko (by rw[b1,eL];exact hr) f0 f1 (by rw[hbv,eV];exact f2) h3.nd ?_ (fun k k1 k2=> ?_) (fun k1=>by rw[b3,h3.one k1];rfl) (fun k2=> ?_)
  ·rcases gP Ko.ok l[0]! with h5 |h5 |h5
   ·exact h5
   ·exfalso;obtain⟨e,he,hx⟩:=(fK Ko.ok l[0]!).1 (by omega);exact jS h.ok (kF e he) het (by rw[hx,tR])
   ·exfalso;obtain⟨e,he,hx⟩:=(val_neg Ko.ok).1 (by omega:(S1.back ct.toNat).val l[0]! <0);have qg:e.x=et.x:=by rw[hx,tR];omega
    have :=mt h.ok (kF e he) het (by rw[qg]);have :=b7 e he
    subst_vars
    omega
  ·obtain⟨e,he,hx,_,hle⟩:=h3.tail k k1 k2;exact⟨e,yI e he hle,hx⟩
  ·obtain⟨e,he,hx,hle⟩:=h3.two k2;exact⟨e,yI e he (by omega),hx,by rw[b3];omega⟩
 refine⟨((S1.back ct.toNat).bu l).ch,l,ct,h3,?_,hIL.congr hIL.ok.ch rfl rfl (fun _=>rfl) rfl,?_,S1,h2,rfl⟩
 ·unfold conflict;rw[aac (by omega),h1]
 ·have Qv:=Mb (S1.back ct.toNat) l;have VN:=jF S1 ct.toNat;have ju:S1.many=S.many:=aao (fun x=>x.2.2.2.2.2.2.2.2.2.1) h2;have pr:S1.bQ=S.bQ:=aao (fun x=>x.2.2.2.2.2.2.2.2.2.2.1) h2;have gZ:S1.core=S.core:=aao (fun x=>x.2.2.2.2.2.1) h2;have Q0:S1.bad=S.bad:=aao (fun x=>x.2.2.2.2.2.2.2.2.2.2.2.1) h2;have Xy:=Qv.adc;have ke:=Qv.W6;have uY:=Qv.PT;have mz:=Qv.many1;have Vl:=Qv.ct;rw[b1,eL]at Xy ke;rw[VN.2.2.1,ju]at uY mz;have ad9:=VN.2.2.2.2.2.1;rw[eT]at ad9;exact⟨Qv.vars.trans (hbv.trans eV),Xy,ke,Qv.used.trans (VN.2.1.trans eU),Qv.bump,uY,mz,Qv.bQ.trans (VN.2.2.2.1.trans pr),Qv.core.trans (VN.1.trans gZ),aE Vl ad9,Qv.bad.trans (VN.2.2.2.2.1.trans Q0)⟩
theorem JA {S:Sv}{m:Nat}(ok:S.Ok m){x:Int}(h:S.val x=0):S.val (-x)=0:=by
 rcases gP ok (-x)with h1 |h1 |h1
 ·exact h1
 ·exfalso;obtain⟨e,he,hx⟩:=(fK ok (-x)).1 (by omega);exact(iZ ok h e he).2 hx
 ·exfalso;obtain⟨e,he,hx⟩:=(val_neg ok).1 (by omega:S.val (-x)<0);exact(iZ ok h e he).1 (by omega)
theorem tw {S0:Sv}{m:Nat}(ok:S0.Ok m):∀(f:Nat) (S:Sv),S.T=S0.T->(cQ f S).2≠0->S0.val (cQ f S).2=0
 |0,S,hT,h=>absurd rfl h
 |f+1,S,hT,h=>by
  rw[cQ]at h⊢;split at h
  ·exact absurd rfl h
  ·rename_i hi;rw[aac hi];simp only at h⊢;split at h
   ·rename_i hv;rw[aae hv];exact tw ok f _ hT h
   ·rename_i hv;rw[aac hv];have h0:S0.val (S.H.it 0)=0:=by
     have :({ S with H:=S.H.kc }:Sv).val (S.H.it 0)=S0.val (S.H.it 0):=by unfold val;rw[show({ S with H:=S.H.kc }:Sv).T=S0.T from hT]
     rw[<-this];exact Classical.byContradiction fun e=>hv e
    simp only;split
    ·exact h0
    ·exact JA ok h0
theorem Inv.deep {S:Sv}(h:S.Inv)(hf:S.head=S.T.lits.length):S.deep.Inv:=by have hR:=rB h.ok;refine⟨h.ok.deep,h.kI,fun A e B h1 h2=>h.ud A e B (hR▸h1) h2,fun A e B h1 h2=>h.dec A e B (hR▸h1) h2,fun e he=> ?_,⟨h.wi.nd,h.wi.wd,h.wi.wc⟩,h.wt⟩;exfalso;rw[hR]at he;have he:e∈S.R.drop S.head:=he;rw[hf,<-jn,List.drop_length]at he;cases he
theorem Inv.choice {S:Sv}(h:S.Inv)(hf:S.head=S.T.lits.length){x:Int}(h0:x≠0)(h1: -(S.vars:Int)<=x)(h2:x<=S.vars)(hv:S.val x=0):(S.deep.put x 0).Inv/\(S.deep.put x 0).R=S.R++[⟨x,(S.T.levels.length+1:Nat),0⟩]:=by have ht:=qt h0 h1 h2 h.ok.vl;have hb:S.deep.T.ij x=true:=i9 (S:=S.deep) h.ok.deep ht.1 ht.2 hv;have hR:=rB h.ok;obtain⟨k1,k2⟩:=(h.deep hf).put (r:=0) hb ⟨my _,by omega⟩ (fun h=>absurd rfl h) (fun _=> .inr fun e he=>by rw[hR]at he;have :=(gM h.ok he).2.2.2;rw[dQ];omega);rw[dQ,hR]at k2;exact⟨k1,k2⟩
theorem choose_spec {S:Sv}(h:S.Inv)(hf:S.head=S.T.lits.length):S.choose.1.Inv/\(S.choose.2=0->S.choose.1.T.lits.length=S.T.lits.length+1):=by
 obtain⟨p1,p2,p3,p4,p5,p6,p7⟩:=h.ok.pick;have hw:S.pick.1.watch=S.watch:=by
  have :∀(f:Nat) (S:Sv),(cQ f S).1.watch=S.watch:=by
   intro f;induction f with
   |zero=>intro S;rfl
   |succ f ih=>
    intro S;rw[cQ];split
    ·rfl
    ·simp only;split
     ·exact ih _
     ·rfl
  exact this _ S
 have hI:S.pick.1.Inv:=h.congr p1 p2 p5 (fun n=>by rw[jJ p4]) hw;unfold choose;by_cases h0:S.pick.2=0
 ·rw[aae h0];exact⟨hI.congr hI.ok.keep rfl rfl (fun _=>rfl) rfl,fun h=>by cases h⟩
 ·rw[aac h0];have hv:=tw h.ok _ S rfl h0;obtain⟨k1,k2⟩:=hI.choice (by rw[p2,p5];exact hf) h0 (by rw[p3];exact p6) (by rw[p3];exact p7) (by unfold val;rw[p2];exact hv);refine⟨k1,fun _=> ?_⟩;rw[<-jn,k2,aj,jn,p2];rfl
theorem sG {us:List Int}:∀(f:Nat) (S:Sv),S.Inv->S.head=S.T.lits.length->(∀x∈us,x≠0/\ -(S.vars:Int)<=x/\x<=S.vars)->(bz us f S).1.Inv/\((bz us f S).2=0->(bz us f S).1.T.lits.length=S.T.lits.length+1)
 |0,S,h,hf,hu=>choose_spec h hf
 |f+1,S,h,hf,hu=>by
  rw[bz];split
  ·rename_i hd;have ha:=hu _ (get_mem (l:=us) hd);simp only;split
   ·exact⟨h.congr (h.ok.pJ _) rfl rfl (fun _=>rfl) rfl,fun h=>by cases h⟩
   ·split
    ·rename_i h1 h2;obtain⟨k1,k2⟩:=h.choice hf ha.1 ha.2.1 ha.2.2 h2;refine⟨k1,fun _=> ?_⟩;rw[<-jn,k2,aj,jn];rfl
    ·have :=sG f S.deep (h.deep hf) hf hu;exact this
  ·exact choose_spec h hf
theorem E0 {S:Sv}{us:List Int}(h:S.Inv)(hf:S.head=S.T.lits.length)(hu:∀x∈us,x≠0/\ -(S.vars:Int)<=x/\x<=S.vars):(S.aR us).1.Inv/\((S.aR us).2=0->(S.aR us).1.T.lits.length=S.T.lits.length+1):=sG _ S h hf hu
end Sv
theorem LU (w:World)(a:Int):Calls Tryz.prog 188 #[.int .i64 a] w fun e w'=>e= .returned (.bool false)/\w=w':=by
 have h:(a !=a)=false:=by simp
 go_enter Tryz.func188,Tryz.ntmps188;go_wp2_with fail;go_ret;exact⟨by simp,rfl⟩
def jE (a b:Int):Int:=if a<b then -1 else if b<a then 1 else 0
theorem zp (w:World)(a b:Int):Calls Tryz.prog 152 #[.int .i64 a, .int .i64 b] w fun e w'=>e= .returned (.int .i64 (jE a b))/\w=w':=by
 have KN:=aa (fun x=>LU w x);have hK:Hid (∀s,jE a b=s->Ending.returned (.int .i64 s)= .returned (.int .i64 (jE a b))):=fun s h=>by rw[h]
 go_enter Tryz.func152,Tryz.ntmps152;go_wp2_with fail;refine(KN.out _).mono ?_;rintro e w1 ⟨rfl,rfl⟩;go_wp2_with fail;refine(KN.out _).mono ?_;rintro e w1 ⟨rfl,rfl⟩;by_cases h1:a<b
 ·have d1:decide (a<b)=true:=aai h1;have HV:Hid (jE a b= -1):=(by rw[jE,aae h1]:jE a b= -1)
  go_wp2_with fail;go_ret;exact⟨hK.out _ HV.out,rfl⟩
 ·have d1:decide (a<b)=false:=aah h1;by_cases h2:b<a
  ·have d2:decide (b<a)=true:=aai h2;have HV:Hid (jE a b=1):=(by rw[jE,aac h1,aae h2]:jE a b=1)
   go_wp2_with fail;go_ret;exact⟨hK.out _ HV.out,rfl⟩
  ·have d2:decide (b<a)=false:=aah h2;have HV:Hid (jE a b=0):=(by rw[jE,aac h1,aac h2]:jE a b=0)
   go_wp2_with fail;go_ret;exact⟨hK.out _ HV.out,rfl⟩
def ig (a:Int):Int:=if a<wrap64 (-a)then wrap64 (-a)else a
theorem I5 (w:World)(a:Int):Calls Tryz.prog 56 #[.int .i64 a] w fun e w'=>e= .returned (.int .i64 (ig a))/\w=w':=by go_enter Tryz.func56,Tryz.ntmps56;go_wp2_with fail;all_goals (go_ret;first |exact⟨congrArg (fun x=>Ending.returned (.int .i64 x)) (show max a (wrap64 (-a))=ig a by unfold ig;split<;>omega),rfl⟩ |exact⟨by rw[ig,aae (by assumption)];rfl,rfl⟩ |exact⟨by rw[ig,aac (by omega)];rfl,rfl⟩)
def Oa (a b:Int):Int:=if a=0 then b else a
theorem PA (w:World)(g:Nat)(a b:Int)(h0:w.cell? ⟨g,0,none⟩=some (.int .i64 a))(h1:w.cell? ⟨g,1,none⟩=some (.int .i64 b)):
  Calls Tryz.prog 151 #[.slice (some ⟨g,0,none⟩) 2 2] w fun e w'=>e= .returned (.int .i64 (Oa a b))/\w=w':=by
 have hK:Hid (∀s,Oa a b=s->Ending.returned (.int .i64 s)= .returned (.int .i64 (Oa a b))):=fun s h=>by rw[h]
 have H0:=aa h0;have H1:=aa h1;clear h0 h1;go_enter Tryz.func151,Tryz.ntmps151;go_wp2_with fail;go_loopg [8] 2 (fun gk i wr=>wr=w/\((gk=2/\i= .int .i64 0)\/(gk=1/\i= .int .i64 1/\a=0)\/(gk=0/\i= .int .i64 2/\a=0/\b=0)));case atStart=>exact⟨rfl, .inl ⟨rfl,rfl⟩⟩
 case round=>
  obtain⟨rfl,hc⟩:=hrel;rcases hc with⟨rfl,rfl⟩ |⟨rfl,rfl,rfl⟩ |⟨rfl,rfl,rfl,rfl⟩
  ·have h0:=H0.out;by_cases ha:a=0
   ·have hb:(a !=0)=false:=by simp[ha]
    go_wp2_with fail;go_roundg 1;case measure=>decide
    case rel=>exact⟨rfl, .inr (.inl ⟨rfl,rfl,ha⟩)⟩
   ·have hb:(a !=0)=true:=by simp[ha]
    have HV:Hid (Oa a b=a):=(by rw[Oa,aac ha]:Oa a b=a)
    go_wp2_with fail;go_ret;exact⟨hK.out _ HV.out,rfl⟩
  ·have h1:=H1.out;by_cases ha:b=0
   ·have hb:(b !=0)=false:=by simp[ha]
    go_wp2_with fail;go_roundg 0;case measure=>decide
    case rel=>exact⟨rfl, .inr (.inr ⟨by first |rfl |trivial,by first |rfl |trivial,by first |rfl |trivial,ha⟩)⟩
   ·have hb:(b !=0)=true:=by simp[ha]
    have HV:Hid (Oa 0 b=b):=(by rw[Oa,aae rfl]:Oa 0 b=b)
    go_wp2_with fail;go_ret;exact⟨hK.out _ HV.out,rfl⟩
  ·go_wp2_with fail;go_ret;exact⟨rfl,rfl⟩
def tx (a b:Int):Int:=Oa (jE (ig a) (ig b)) (jE a b)
theorem DI (w:World)(a b:Int):Calls Tryz.prog 122 #[.int .i64 a, .int .i64 b] w fun e w'=>e= .returned (.int .i64 (tx a b))/\w'=w.alloc (.cells #[.int .i64 (jE (ig a) (ig b)), .int .i64 (jE a b)] 3):=by have KA:=aa (fun x=>I5 w x);have KC:=aa (fun x y=>zp w x y);have hn:=At.new w 3 #[.int .i64 (jE (ig a) (ig b)), .int .i64 (jE a b)];have KO:=aa (PA (w.alloc (.cells #[.int .i64 (jE (ig a) (ig b)), .int .i64 (jE a b)] 3)) w.heap.size (jE (ig a) (ig b)) (jE a b) (by rw[hn.cell];rfl) (by rw[hn.cell];rfl));have hK:Hid (Ending.returned (.int .i64 (Oa (jE (ig a) (ig b)) (jE a b)))= .returned (.int .i64 (tx a b))):=rfl;clear hn;go_enter Tryz.func122,Tryz.ntmps122;go_wp2_with fail;refine(KA.out _).mono ?_;rintro e w1 ⟨rfl,rfl⟩;go_wp2_with fail;refine(KA.out _).mono ?_;rintro e w1 ⟨rfl,rfl⟩;go_wp2_with fail;refine(KC.out _ _).mono ?_;rintro e w1 ⟨rfl,rfl⟩;go_wp2_with fail;refine(KC.out _ _).mono ?_;rintro e w1 ⟨rfl,rfl⟩;go_wp2_with fail;refine KO.out.mono ?_;rintro e w1 ⟨rfl,rfl⟩;go_wp2_with fail;go_ret;exact⟨hK.out,rfl⟩
end
section
open Go.Shelf
def LA:Go.Shelf.Ren:=⟨fun |6=>121 |15=>150 |14=>149 |28=>186 |29=>187 |20=>178 |21=>179 |22=>180 |23=>181 |24=>182 |25=>183 |26=>184 |27=>185 |46=>205 |47=>206 |48=>207 |49=>208 |50=>209 |57=>220 |n=>n,fun |22=>22 |24=>3 |25=>77 |3=>3 |39=>159 |0=>0 |53=>191 |55=>194 |4=>4 |46=>206 |45=>205 |50=>210 |5=>5 |9=>9 |66=>227 |70=>231 |76=>236 |77=>237 |n=>n,fun |n=>n⟩
theorem WU:Go.Proofs.SlLaysF.n6 Tryz.prog LA:={
 mixed:=by kernel_rfl
 f6:=⟨Tryz.f121.name,by decide,Tryz.func121.trans (aao some (by kernel_rfl))⟩
 f14:=⟨Tryz.f149.name,by decide,Tryz.func149.trans (aao some (by kernel_rfl))⟩
 f15:=Tryz.func150.trans (aao some (by kernel_rfl))
 f20:=⟨Tryz.f178.name,by decide,Tryz.func178.trans (aao some (by kernel_rfl))⟩
 f21:=⟨Tryz.f179.name,by decide,Tryz.func179.trans (aao some (by kernel_rfl))⟩
 f22:=⟨Tryz.f180.name,by decide,Tryz.func180.trans (aao some (by kernel_rfl))⟩
 f23:=⟨Tryz.f181.name,by decide,Tryz.func181.trans (aao some (by kernel_rfl))⟩
 f24:=⟨Tryz.f182.name,by decide,Tryz.func182.trans (aao some (by kernel_rfl))⟩
 f25:=⟨Tryz.f183.name,by decide,Tryz.func183.trans (aao some (by kernel_rfl))⟩
 f26:=⟨Tryz.f184.name,by decide,Tryz.func184.trans (aao some (by kernel_rfl))⟩
 f27:=⟨Tryz.f185.name,by decide,Tryz.func185.trans (aao some (by kernel_rfl))⟩
 f28:=Tryz.func186.trans (aao some (by kernel_rfl))
 f29:=Tryz.func187.trans (aao some (by kernel_rfl))
 f46:=⟨Tryz.f205.name,by decide,Tryz.func205.trans (aao some (by kernel_rfl))⟩
 f47:=Tryz.func206.trans (aao some (by kernel_rfl))
 f48:=Tryz.func207.trans (aao some (by kernel_rfl))
 f49:=⟨Tryz.f208.name,by decide,Tryz.func208.trans (aao some (by kernel_rfl))⟩
 f50:=⟨Tryz.f209.name,by decide,Tryz.func209.trans (aao some (by kernel_rfl))⟩
 f57:=⟨Tryz.f220.name,by decide,Tryz.func220.trans (aao some (by kernel_rfl))⟩
 t0:=Tryz.underlying0
 a0:=Tryz.isAgg0
 z0:=Tryz.sizeOf0
 v0:=Tryz.zeroValue0
 t3:=Tryz.underlying3
 a3:=Tryz.isAgg3
 z3:=Tryz.sizeOf3
 v3:=Tryz.zeroValue3
 t4:=Tryz.underlying4
 a4:=Tryz.isAgg4
 z4:=Tryz.sizeOf4
 v4:=Tryz.zeroValue4
 t5:=Tryz.underlying5
 a5:=Tryz.isAgg5
 z5:=Tryz.sizeOf5
 v5:=Tryz.zeroValue5
 t9:=Tryz.underlying9
 a9:=Tryz.isAgg9
 z9:=Tryz.sizeOf9
 v9:=Tryz.zeroValue9
 t22:=Tryz.underlying22
 a22:=Tryz.isAgg22
 z22:=Tryz.sizeOf22
 v22:=Tryz.zeroValue22
 a24:=Tryz.isAgg3
 z24:=Tryz.sizeOf3
 t25:=Tryz.underlying77
 a25:=Tryz.isAgg77
 z25:=Tryz.sizeOf77
 v25:=Tryz.zeroValue77
 t39:=Tryz.underlying159
 a39:=Tryz.isAgg159
 z39:=Tryz.sizeOf159
 v39:=Tryz.zeroValue159
 t45:=Tryz.underlying205
 a45:=Tryz.isAgg205
 z45:=Tryz.sizeOf205
 v45:=Tryz.zeroValue205
 t46:=Tryz.underlying206
 a46:=Tryz.isAgg206
 z46:=Tryz.sizeOf206
 v46:=Tryz.zeroValue206
 t50:=Tryz.underlying210
 a50:=Tryz.isAgg210
 z50:=Tryz.sizeOf210
 v50:=Tryz.zeroValue210
 t53:=Tryz.underlying191
 a53:=Tryz.isAgg191
 z53:=Tryz.sizeOf191
 v53:=Tryz.zeroValue191
 t55:=Tryz.underlying194
 a55:=Tryz.isAgg194
 z55:=Tryz.sizeOf194
 v55:=Tryz.zeroValue194
 t66:=Tryz.underlying227
 a66:=Tryz.isAgg227
 z66:=Tryz.sizeOf227
 v66:=Tryz.zeroValue227
 t70:=Tryz.underlying231
 a70:=Tryz.isAgg231
 z70:=Tryz.sizeOf231
 v70:=Tryz.zeroValue231
 t76:=Tryz.underlying236
 a76:=Tryz.isAgg236
 z76:=Tryz.sizeOf236
 v76:=Tryz.zeroValue236
 t77:=Tryz.underlying237
 a77:=Tryz.isAgg237
 z77:=Tryz.sizeOf237
 v77:=Tryz.zeroValue237 }
open Go.RowKit Go.Sort
theorem pn (x y:Int):ltOf tx x y=(decide (ig x<ig y) || (decide (ig x=ig y)&&decide (x<y))):=by
 unfold ltOf tx Oa jE;by_cases h1:ig x<ig y
 ·simp[h1]
 ·by_cases h2:ig y<ig x
  ·simp[h1,h2];omega
  ·have h3:ig x=ig y:=by omega
   by_cases h4:x<y
   ·simp[h3,h4]
   ·by_cases h5:y<x<;>simp[h3,h4,h5]
theorem aiN:SWO (ltOf tx) where
 irrefl x:=by rw[pn];simp
 trans x y z h1 h2:=by rw[pn]at *;simp only[jt,ax,aal]at *;omega
 ntrans x y z h1 h2:=by rw[pn]at *;simp only[dX,Bool.and_eq_false_iff,decide_eq_false_iff_not]at *;omega
theorem V4 (g off size:Nat)(w:World):CmpLays1 Tryz.prog 122 #[] (Value.int .i64) tx g off size w:=
 fun m os dk _ x y=>(DI _ x y).mono fun e w' ⟨he,hw⟩=>⟨he,0,#[.cells #[.int .i64 (jE (ig x) (ig y)), .int .i64 (jE x y)] 3],by rw[hw,alloc_eq_grow];rfl⟩
end
section
open Go.RowKit Go.Shelf Go.Sort
set_option maxRecDepth 100000 in
theorem Rx (w:World)(A:Option Addr)(c:Nat)(xs:List Int)(h:Rd w A xs)(hn:A=none->c=0)(hlen:xs.length<17592186044416):
  Calls Tryz.prog 98 #[.slice A xs.length c] w fun e w'=>∃A' c',e= .returned (.slice A' xs.length c')/\Ints w' A' c' xs/\(∀k,k∈ak A'->w.heap.size<=k)/\Fr [] w w':=by
 cases A with
 |none=>
  have h0:xs.length=0:=by
   rcases Nat.eq_zero_or_pos xs.length with h5 |h5
   ·exact h5
   ·obtain⟨b,o,hA,_⟩:=h h5;cases hA
  obtain rfl :xs=[]:=aP h0;obtain rfl :=hn rfl;have he:∀w:World,(binOp .eql 22 (.slice none 0 0) (.slice none 0 0)).run Tryz.prog w= .ok (.bool true) w:=fun w=>Lib.run_eql_slice_nil w _ _ _ _ _ _ _ Tryz.underlying22;have e0:([]:List Int).length=0:=rfl;rw[e0];clear h hn h0;go_enter Tryz.func98,Tryz.ntmps98;go_wp2_with fail;go_ret;exact⟨none,0,rfl,Ints.nil _,by simp[ak],Fr.refl _ _⟩
 |some ad=>
  have he:∀w:World,(binOp .eql 22 (.slice (some ad) xs.length c) (.slice none 0 0)).run Tryz.prog w= .ok (.bool false) w:=fun w=>Lib.run_eql_slice_nil w _ _ _ _ _ _ _ Tryz.underlying22;have HC:Hid (∀j:Nat,∀y,xs[j]? =some y->(w.alloc (.cells #[] 3)).cell? (ad.add j)=some (.int .i64 y)):=fun j y hy=>by have hj:=(lH.1 hy).1;obtain⟨b,o,hA,hx⟩:=h (by omega);cases hA;have :=(aH w (.cells #[] 3)).aN (hx j hj);rw[ae,hy]at this;rw[dH];simpa using this
  clear h hn;go_enter Tryz.func98,Tryz.ntmps98;go_wp2_with (at_builtin;(refine lI _ rfl _ _ 22 rfl 3 (.int .i64 0) 1 8 Tryz.underlying22 pT rfl (by decide) (some ⟨w.heap.size,0,none⟩) 0 0 rfl [] ?dw ad xs.length c rfl (xs.map (Value.int .i64)) (by simp) ?mO (by simp[Value.oneCell']) (by unfold maxLen;omega) (by omega) ?_;(case dw=>exact World.ownsRow_lit w #[] 0 (bR _) (by simp[maxLen]) (by simp));(case mO=>intro jj u hu;simp only[aJ,Option.map_eq_some_iff]at hu;obtain⟨y,hy,rfl⟩:=hu;exact HC.out jj y hy);intro A2 cap w2 pt bW fE lX yB hff;have HI:=aa pt;have cw:=aa bW;have n8:=aa fE;have mv:=aa yB;clear pt bW fE lX yB hff))
  go_ret;refine⟨A2,cap,by simp,?_,fun k hk=> ?_,?_⟩
  ·have :=HI.out;unfold Ints;simpa using this
  ·rcases n8.out k hk with h |h
   ·simp[ak]at h;omega
   ·rw[h];simp
  ·exact((Fr.refl [] w).alloc _).trans cw.out (fun k hk=> .inr (by simp[ak]at hk;omega))
def ko (xs:List Int):List Int:=xs.mergeSort fun x y=> !(ltOf tx) y x
theorem Ad (x y:Int)(h1:ltOf tx x y=false)(h2:ltOf tx y x=false):x=y:=by rw[pn]at *;simp only[dX,Bool.and_eq_false_iff,decide_eq_false_iff_not]at *;omega
theorem yS (w:World)(g n:Nat)(d:Array Int)(os:Array Obj)(cur:Array Value)(hg:w.heap[g]? =some (.cells cur 3 (0,0))):(sortWorld (Value.int .i64) w g 0 n d os).heap[g]? =some (.cells (putCells (Value.int .i64) 0 d cur) 3 (0,0)):=by have bw:=(Array.getElem?_eq_some_iff.1 hg).1;unfold sortWorld grow putRow mapBlock Sort.ahead;simp only;rw[Array.getElem?_append_left (by simpa using bw),Array.getElem?_modify,aae rfl,hg];rfl
theorem Bj (w:World)(g n:Nat)(d:Array Int)(os:Array Obj):Fr [g] w (sortWorld (Value.int .i64) w g 0 n d os):=by unfold sortWorld grow putRow mapBlock Sort.ahead;refine⟨rfl,rfl,rfl,by simp,fun k hk hn=> ?_⟩;simp only;rw[Array.getElem?_append_left (by simpa using hk),Array.getElem?_modify,aac (fun e=>hn (by simp[e]))]
theorem IG:∀args w,(callFunc 122 args).run Tryz.prog w= .ok (.enter 122 args) w:=enters_of Tryz.func122 (by kernel_rfl) rfl
theorem Gd (w:World)(g c:Nat)(xs:List Int)(h:Ints w (some ⟨g,0,none⟩) c xs)(hl:xs.length<=17592186044416):
  Calls Tryz.prog 121 #[.slice (some ⟨g,0,none⟩) xs.length c, .func (.func 122) #[] #[]] w fun e w'=>e= .returned (.tuple #[])/\Ints w' (some ⟨g,0,none⟩) c (ko xs)/\Fr [g] w w':=by
 have bw:g<w.heap.size:=(World.ownsRow.lt h g rfl).2;have hH:Holds (Value.int .i64) w g 0 xs.toArray:=fun j hj=>by
  have ZY:j<xs.length:=by simpa using hj
  rw[da];refine⟨?_,h.frozen j⟩;rw[h.cell ZY];simp[ZY]
 have u3:=Any.slices_SortFunc_total WU (Value.int .i64) (fun _=>rfl) tx aiN 122 #[] g 0 c xs.toArray w IG (V4 g 0 xs.toArray.size w) hH bw (by simp;omega) Ad
 change Calls Tryz.prog 121 _ _ _ at u3
 have ou:xs.toArray.size=xs.length:=by simp
 rw[ou]at u3;refine u3.mono ?_;rintro e w' ⟨rfl,n,os,rfl⟩;have hm:(xs.toArray.toList.mergeSort fun x y=> !(ltOf tx) y x)=ko xs:=rfl;rw[hm];have FJ:(ko xs).length=xs.length:=List.length_mergeSort _;refine⟨rfl,?_,Bj w g n _ os⟩;rcases h.2 with⟨h1,_⟩ |⟨g',cap,cur,hv,hb,hg,hn,hm,Xl,ht⟩
 ·cases h1
 ·simp only[Value.slice.injEq,Option.some.injEq,Addr.mk.injEq,and_true,true_and]at hv;obtain⟨rfl,rfl⟩:=hv;refine⟨by simp, .inr ⟨g,c,_,rfl,hb,yS w g n _ os cur hg,by rw[FJ];exact hn,hm,by simp[putCells,Xl],?_⟩⟩;apply List.ext_getElem?;intro k;rw[ku,FJ];have yG:cur.size=c:=by omega
  by_cases hk:k<xs.length
  ·rw[List.getElem?_take,aae hk];have hkc:k<cur.size:=by omega
   have hkd:k<(ko xs).length:=by omega
   simp[putCells,hkc,hkd]
  ·rw[List.getElem?_take,aac hk,List.getElem?_eq_none (by rw[aq,FJ];omega)]
theorem Ph (w:World)(A:Option Addr)(c:Nat)(xs:List Int)(h:Ints w A c xs)(hl:xs.length<=17592186044416):
  Calls Tryz.prog 121 #[.slice A xs.length c, .func (.func 122) #[] #[]] w fun e w'=>e= .returned (.tuple #[])/\Ints w' A c (ko xs)/\Fr (ak A) w w':=by
 rcases h.form with⟨rfl,rfl,rfl⟩ |⟨g,rfl,_⟩
 ·have u3:=AnyF.slices_SortFunc_none { WU with } none 0 (.func (.func 122) #[] #[]) w
  change Calls Tryz.prog 121 _ _ _ at u3
  refine u3.mono ?_;rintro e w' ⟨rfl,rfl⟩;refine⟨rfl,?_,Fr.refl _ _⟩;have :ko []=[]:=aP (List.length_mergeSort _);rw[this];exact h
 ·exact(Gd w g c xs h hl).mono fun e w' ⟨he,h1,h2⟩=>⟨he,h1,by simpa[ak]using h2⟩
theorem E1 (xs:List Int):∀k,(gG xs k).length<=k
 |0=>by simp[gG]
 |k+1=>by
  have :=E1 xs k;rw[gG];split
  ·simp;omega
  ·omega
def nrm (xs:List Int):List Int:=XS (ko (xs.filter fun x=> !(x==0)))
theorem BA (xs:List Int):(nrm xs).length<=xs.length:=by have h1:(nrm xs).length<=(ko (xs.filter fun x=> !(x==0))).length:=E1 _ _;have h2:(ko (xs.filter fun x=> !(x==0))).length=(xs.filter fun x=> !(x==0)).length:=List.length_mergeSort _;have h3:=List.length_filter_le (fun x=> !(x==0)) xs;omega
theorem xQ (xs:List Int):∀k,k<=xs.length->∀x∈gG xs k,x∈xs
 |0,_,x,h=>by simp[gG]at h
 |k+1,hk,x,h=>by
  rw[gG]at h;split at h
  ·rcases ah.1 h with h |h
   ·exact xQ xs k (by omega) x h
   ·rw[ai.1 h];exact a8 (l:=xs) (k:=k) (by omega)
  ·exact xQ xs k (by omega) x h
theorem lS {xs:List Int}{x:Int}(h:x∈nrm xs):x∈xs/\x≠0:=by have h1:=xQ _ _ (ap _) x h;have h2:x∈xs.filter fun x=> !(x==0):=List.mem_mergeSort.1 h1;rw[dx]at h2;exact⟨h2.1,by simpa using h2.2⟩
def mb (ys:List Int)(j:Nat):Bool:=ys[j]! ==wrap64 (-(ys[j+1]!))
def qu (ys:List Int):Bool:=(List.range (ys.length-1)).any (mb ys)
def RU (xs:List Int)(w:World)(e:Ending)(w':World):Prop:=∃(A:Option Addr) (c:Nat),e= .returned (.tuple #[.slice A (nrm xs).length c, .bool (qu (nrm xs))])/\Ints w' A c (nrm xs)/\(∀k,k∈ak A->w.heap.size<=k)/\Fr [] w w'
theorem DK (W:World)(x:Int):Calls Tryz.prog 120 #[.int .i64 x] W fun e w'=>e= .returned (.bool (x==0))/\Fr [] W w':=by go_enter Tryz.func120,Tryz.ntmps120;go_wp2_with fail;go_ret;exact⟨rfl,Fr.refl _ _⟩
theorem Ca:∀args w,(callFunc 120 args).run Tryz.prog w= .ok (.enter 120 args) w:=enters_of Tryz.func120 (by kernel_rfl) rfl
theorem Gw (w:World)(A:Option Addr)(c:Nat)(xs:List Int)(h:Rd w A xs)(hr:Ra xs)(hl:xs.length<=1048576)(hn:A=none->c=0):
  Calls Tryz.prog 82 #[.slice A xs.length c] w (RU xs w):=by
 have AJ:=aa (Rx w A c xs h hn (by omega));have HR:=aa hr;clear h hr hn;go_enter Tryz.func82,Tryz.ntmps82;go_wp2_with fail;refine AJ.out.mono ?_;rintro e w1 ⟨A1,c1,rfl,ho,hb,cX⟩;have zJ:=aa (xO w1 A1 c1 xs 120 #[] (fun x=>x==0) Ca ho HR.out (by omega) (fun W hW x _ _=>DK W x));have HB:=aa hb;have dI:=aa cX;clear ho hb cX AJ;go_wp2_with fail;refine zJ.out.mono ?_;rintro e w2 ⟨rfl,ho,hf⟩;have Vy:=List.length_filter_le (fun x:Int=> !(x==0)) xs;have HS:=aa (Ph w2 A1 c1 (xs.filter fun x=> !(x==0)) ho (by omega));have cw:Hid (Fr [] w w2):=dI.out.trans hf (fun x hx=> .inr (HB.out x hx));have CP:(ko (xs.filter fun x=> !(x==0))).length=(xs.filter fun x=> !(x==0)).length:=List.length_mergeSort _;have OP:=aa CP;clear zJ dI hf ho CP;go_wp2_with fail;refine HS.out.mono ?_;rintro e w3 ⟨rfl,ho,hf⟩;have adS:Ra (ko (xs.filter fun x=> !(x==0))):=Ra.sub HR.out (fun y hy=>(dx.1 (List.mem_mergeSort.1 hy)).1);have HC:=aa (E2 w3 A1 c1 (ko (xs.filter fun x=> !(x==0))) ho adS (by rw[OP.out];omega));rw[OP.out]at HC;have db:Hid (Fr [] w w3):=cw.out.trans hf (fun x hx=> .inr (HB.out x hx));clear HS cw hf ho adS Vy;go_wp2_with fail;refine HC.out.mono ?_;rintro e w4 ⟨rfl,ho,hf⟩;have gY:Hid (Fr [] w w4):=db.out.trans hf (fun x hx=> .inr (HB.out x hx));obtain⟨ys,Oe⟩:∃ys,XS (ko (xs.filter fun x=> !(x==0)))=ys:=⟨_,rfl⟩
 have hyn:nrm xs=ys:=Oe;have hyl:ys.length<=xs.length:=by rw[<-hyn];exact BA xs
 have HRY:Hid (Ra ys):=Ra.sub HR.out (fun y hy=>(lS (by rw[hyn];exact hy)).1);rw[Oe]at ho⊢;have HO:=aa ho;have oh:Hid (∀q W,Fr [] w4 W->qu ys=q->RU xs w (.returned (.tuple #[.slice A1 ys.length c1, .bool q])) W):=fun q W hW hq=>by unfold RU;rw[hyn];exact⟨A1,c1,by rw[hq],HO.out.fD hW,HB.out,gY.out.ag hW⟩
 clear HC db hf ho Oe hyn;go_wp2_with fail;go_loopg [16] ys.length (fun g i wr=>∃k:Nat,k+g=ys.length/\i= .int .i64 k/\Hid (∀j:Nat,j+1<k->mb ys j=false)/\Fr [] w4 wr);case atStart=>exact⟨0,by omega,rfl,fun j hj=>absurd hj (aI _),Fr.refl _ _⟩
 case round=>
  obtain⟨k,hk,rfl,Yc,hf⟩:=hrel;have HK:=aa hk;have HF:=aa hf;have jg:k<=ys.length:=by omega
  clear hk hf;by_cases bw:k<ys.length
  ·obtain⟨b,o,x,hA,he,cx,fN,gd⟩:=(HO.out.fD HF.out).rd.one HRY.out bw;subst hA;cases k with
   |zero=>
    rw[Nat.add_zero]at cx;go_wp2_with fail;go_roundg (gk-1);case measure=>have :=HK.out;omega
    case rel=>exact⟨1,by have :=HK.out;omega,by go_num,fun j hj=>absurd hj (by omega),HF.out⟩
   |succ j=>
    obtain⟨b',o',x',CT,eK,Ru,YU,adx⟩:=(HO.out.fD HF.out).rd.one HRY.out (j:=j) (by omega);simp only[Option.some.injEq,Addr.mk.injEq,and_true]at CT;obtain⟨rfl,rfl⟩:=CT;obtain⟨q,hq⟩:∃q:Bool,(x'==wrap64 (-x))=q:=⟨(x'==wrap64 (-x)),rfl⟩
    have Tg:mb ys j=q:=by unfold mb;rw[he.out,eK.out];exact hq
    have Wn:=aa Tg;clear Tg;cases q with
    |true=>
     have YY:=aa (oh.out true wr HF.out (by unfold qu;rw[cq];exact⟨j,cH.2 (by omega),Wn.out⟩));go_wp2_with fail;go_ret2;exact YY.out
    |false=>
     have amX:Hid (∀i:Nat,i+1<j+1+1->mb ys i=false):=fun i hi=>by
      by_cases e:i=j
      ·rw[e];exact Wn.out
      ·exact Yc.out i (by omega)
     go_wp2_with fail;go_roundg (gk-1);case measure=>have :=HK.out;omega
     case rel=>exact⟨j+1+1,by have :=HK.out;omega,by go_num,amX.out,HF.out⟩
  ·have YY:=aa (oh.out false wr HF.out (by unfold qu;rw[List.any_eq_false];intro j hj;rw[cH]at hj;rw[Yc.out j (by omega)];simp));clear HK;go_wp2_with fail;go_ret2;exact YY.out
end
section
open Go.RowKit
namespace Sv
def ia (S:Sv)(out:List Int):Sv:=if out.length=0 then{ S with bad:=true }else if out.length=1 then S.put out[0]! 0 else S.attach out false
def leftOf (S:Sv)(out:List Int):List Int:=out.filter fun x=> !decide (S.val x<0)
def n9 (S:Sv)(out:List Int):Bool:=qu out ||out.any fun x=>decide (0<S.val x)
def fT (S:Sv)(l:List Int):Sv×Int:=
 if ft S.vars l=0 then(if S.n9 (nrm l)=true then S.bI else S.bI.ia (S.leftOf (nrm l)),0)else(S,ft S.vars l)
theorem pX {vars:Nat}{l:List Int}(hr:Ra l)(h:ft vars l=0):l.length<=1024/\∀x∈l,x≠0/\ -(vars:Int)<=x/\x<=vars:=by
 unfold ft at h;split at h
 ·omega
 ·split at h
  ·omega
  ·rename_i h1 h2;refine⟨by omega,fun x hx=> ?_⟩;have h3:gv vars x=false:=by
    rw[cq]at h2;cases h4:gv vars x with
    |false=>rfl
    |true=>exact absurd ⟨x,hx,h4⟩ h2
   unfold gv at h3;simp only[dX,decide_eq_false_iff_not]at h3;have h5:=F7 ((eD (p:=eh)).1 hr x hx);refine⟨AW (by omega),by omega,by omega⟩
theorem Ok.ia {S:Sv}(ok:S.Ok 0){out:List Int}(h1:out.length<=1048576)(hl:∀x∈out,x≠0/\ -(S.vars:Int)<=x/\x<=S.vars)(hr:S.list.length<2199023255552):(S.ia out).Ok 0/\(S.ia out).vars=S.vars:=by
 unfold Sv.ia;split
 ·exact⟨ok.Bm true,rfl⟩
 ·split
  ·exact⟨ok.put ⟨by omega,by omega⟩,rfl⟩
  ·exact⟨ok.attach ⟨by omega,h1,hl⟩ false hr,(cE _ out false).2.1⟩
theorem pk {S:Sv}{l:List Int}(hr:Ra l)(h:ft S.vars l=0):(S.leftOf (nrm l)).length<=1024/\∀x∈S.leftOf (nrm l),x≠0/\ -(S.vars:Int)<=x/\x<=S.vars:=by obtain⟨h1,h2⟩:=pX hr h;have h3:=BA l;have h4:=List.length_filter_le (fun x=> !decide (S.val x<0)) (nrm l);refine⟨by unfold leftOf;omega,fun x hx=> ?_⟩;unfold leftOf at hx;exact h2 x (lS (dx.1 hx).1).1
theorem Ok.fT {S:Sv}(ok:S.Ok 0){l:List Int}(mi:Ra l)(hr:S.list.length<2199023255552):(S.fT l).1.Ok 0/\(S.fT l).1.vars=S.vars:=by
 unfold Sv.fT;split
 ·rename_i h;split
  ·exact⟨ok.bI,rfl⟩
  ·obtain⟨h1,h2⟩:=pk (S:=S) mi h;exact Ok.ia (S:=S.bI) ok.bI (by omega) h2 hr
 ·exact⟨ok,rfl⟩
end Sv
theorem I4 (W:World)(b:Nat)(L:aO)(S:Sv)(h:aX W L S)(ok:S.Ok 0)(hb:W.cell? ⟨b,0,none⟩=some (.pointer (some ⟨L.a,0,none⟩)))(x:Int)(hx:eh x):
  Calls Tryz.prog 83 #[.int .i64 x, .pointer (some ⟨b,0,none⟩)] W fun e w'=>e= .returned (.bool (decide (0<S.val x)))/\Fr [] W w':=by
 have c0:=h.cells.1;have KV:=aa (ee W L.tL S.T h.tr x hx.1 hx.2 ok.small);obtain⟨v,hv⟩:∃v,S.T.lB x=v:=⟨_,rfl⟩
 rw[hv]at KV;have e:decide (0<S.val x)=decide (0<v):=by unfold Sv.val;rw[hv]
 rw[e];clear h ok hv e;go_enter Tryz.func83,Tryz.ntmps83;go_wp2_with fail;refine KV.out.mono ?_;rintro e w1 ⟨rfl,rfl⟩;go_wp2_with fail;go_ret;exact⟨rfl,Fr.refl _ _⟩
theorem I3 (W:World)(b:Nat)(L:aO)(S:Sv)(h:aX W L S)(ok:S.Ok 0)(hb:W.cell? ⟨b,0,none⟩=some (.pointer (some ⟨L.a,0,none⟩)))(x:Int)(hx:eh x):
  Calls Tryz.prog 86 #[.int .i64 x, .pointer (some ⟨b,0,none⟩)] W fun e w'=>e= .returned (.bool (decide (S.val x<0)))/\Fr [] W w':=by
 have c0:=h.cells.1;have KV:=aa (ee W L.tL S.T h.tr x hx.1 hx.2 ok.small);obtain⟨v,hv⟩:∃v,S.T.lB x=v:=⟨_,rfl⟩
 rw[hv]at KV;have e:decide (S.val x<0)=decide (v<0):=by unfold Sv.val;rw[hv]
 rw[e];clear h ok hv e;go_enter Tryz.func86,Tryz.ntmps86;go_wp2_with fail;refine KV.out.mono ?_;rintro e w1 ⟨rfl,rfl⟩;go_wp2_with fail;go_ret;exact⟨rfl,Fr.refl _ _⟩
theorem EX:∀args w,(callFunc 83 args).run Tryz.prog w= .ok (.enter 83 args) w:=enters_of Tryz.func83 (by kernel_rfl) rfl
theorem EW:∀args w,(callFunc 86 args).run Tryz.prog w= .ok (.enter 86 args) w:=enters_of Tryz.func86 (by kernel_rfl) rfl
set_option maxRecDepth 100000 in
theorem NG (w:World)(L:aO)(S:Sv)(h:aX w L S)(ok:S.Ok 0)(A:Option Addr)(c:Nat)(l:List Int)(ta:CU w L A l)(mi:Ra l)(hn:A=none->c=0)(hr:S.list.length<2199023255552)(hu:S.used<=2199023255552):
  Calls Tryz.prog 41 #[.pointer (some ⟨L.a,0,none⟩), .slice A l.length c] w (pz (.int .i64 (S.fT l).2) (S.fT l).1 L w):=by
 obtain⟨cT,de⟩:∃cT,S.fT l=cT:=⟨_,rfl⟩
 rw[de];have dM:=aa de;obtain⟨w1,dP⟩:∃w1,w.alloc (.cells #[.pointer (some ⟨L.a,0,none⟩)] 79)=w1:=⟨_,rfl⟩
 have gm:Hid (Fr [] w w1):=by rw[<-dP];exact aH _ _
 have oM:w1.cell? ⟨w.heap.size,0,none⟩=some (.pointer (some ⟨L.a,0,none⟩)):=by rw[<-dP];exact(At.new w _ _).cell 0
 have yv:=aa oM;obtain⟨L1,yJ⟩:∃L1,L.shut w=L1:=⟨_,rfl⟩
 have H1:Hid (aX w1 L1 S):=by rw[<-yJ];exact h.shut.keep gm.out
 have fa:Hid (L.ext L1 w):=by rw[<-yJ];exact L.mI w
 have Wx:Hid (∀k,w.heap.size<=k->(L1.cY k).1≠L1.id):=fun k hk=>by rw[<-yJ];exact aO.jR hk
 have dI:Hid (Fr (L.own w) w w1):=gm.out.mono (fun k hk=>by cases hk);have tf:Hid (CU w1 L1 A l):=⟨ta.1.keep gm.out,fun h0=>B8 fa.out (ta.2 h0) (fun k hk=>ta.1.blk h0 k hk)⟩
 have lz:=aa ok;have rD:=aa mi;have HN:=aa hn;have sV:=aa hr;have HU:=aa hu;have KM:=aa (wS w1 L1 S H1.out);have KC:=aa (iq w1 (S.vars:Int) A c l tf.out.1 mi);have mB:L1.a=L.a:=fa.out.1;rw[mB]at KM;obtain⟨-,-,c2,-⟩:=H1.out.cells;rw[mB]at c2;obtain⟨ck,B4⟩:∃ck,ft (S.vars:Int) l=ck:=⟨_,rfl⟩
 rw[B4]at KC;have Yh:=aa B4;clear h ok ta mi hn hr hu yJ de B4;go_enter Tryz.func41,Tryz.ntmps41;go_upto_region 1 with fail;clear dP;go_wp2_with fail;refine KM.out.mono ?_;clear KM;rintro e w2 ⟨rfl,rfl⟩;go_wp2_with fail;refine KC.out.mono ?_;clear KC c2;rintro e w2 ⟨rfl,bW⟩;have cw:=aa bW;have H2:=aa (H1.out.keep bW);have qc:=aa (tf.out.keep bW);have oM:=bW.aN yv.out;have abz:=aa oM;have WH:Hid (Fr (L.own w) w w2):=dI.out.ag (bW.mono (fun k hk=>by cases hk));clear bW;by_cases M0:ck=0
 ·have hd:(ck==(0:Int))=true:=by simp[M0]
  have VM:ft (S.vars:Int) l=0:=by rw[Yh.out];exact M0
  have afW:=aa (Sv.pX rD.out VM);have Su:=aa (Sv.pk (S:=S) rD.out VM);have oN:Hid (cT=(if S.n9 (nrm l)=true then S.bI else S.bI.ia (S.leftOf (nrm l)),0)):=by rw[<-dM.out];unfold Sv.fT;rw[aae VM];rfl
  have f14:=H2.out.obj.frozen 14;have f7:=H2.out.obj.frozen 7;obtain⟨-,-,-,-,-,-,-,c7,-,-,-,-,-,-,c14⟩:=H2.out.cells;rw[mB]at f14 f7 c7 c14;obtain⟨L3,h3,yF,dh⟩:=H2.out.bI;rw[mB]at h3 dh;have Tz:=aa h3;have WL:=aa yF;have SB:=aa dh;clear h3 yF dh VM;go_wp2_with fail;go_region;obtain⟨w3,vz⟩:∃w3,((w2.setCell ⟨L.a,14,none⟩ (.bool false)).setCell ⟨L.a,7,none⟩ (.slice none 0 0)).drew=w3:=⟨_,rfl⟩
  rw[vz]at Tz SB⊢;have H3:=Tz;have iU:Hid (L.ext L3 w):=aO.aV fa.out WL.out WH.out.size;have db:Hid (Fr (L.own w) w w3):=aO.aQ fa.out WH.out SB.out;have AH:Hid (CU w3 L3 A l):=qc.out.step WL.out SB.out;have Fq:Hid (w.heap.size∉L1.own w2):=aO.nI (Wx.out _ (ap _));have u4:=SB.out.bK Fq.out abz.out;have Js:=aa u4;have af9:Hid (∀k,w.heap.size<=k->k<w2.heap.size->(L3.cY k).1≠L3.id):=fun k hk Tn e=>Wx.out k hk (WL.out.2.2 k Tn (e.trans WL.out.2.1));have ua:=aa lz.out.bI;have Ea:w.heap.size<w2.heap.size:=bM abz.out;have amE:=aa Ea
  --from here on aiI is new is ac7
  obtain⟨L4,XN⟩:∃L4,L3.shut w3=L4:=⟨_,rfl⟩
  have H4:Hid (aX w3 L4 S.bI):=by rw[<-XN];exact H3.out.shut
  have vR:Hid (L.ext L4 w):=by rw[<-XN];exact aO.aV iU.out (L3.mI w3) db.out.size
  have af8:Hid (∀k,w3.heap.size<=k->(L4.cY k).1≠L4.id):=fun k hk=>by rw[<-XN];exact aO.jR hk
  have aub:Hid ((L4.cY w.heap.size).1≠L4.id):=by show _≠_;rw[<-XN,aO.ww (bM Js.out)];exact af9.out _ (ap _) amE.out
  have KN:=aa (Gw w3 A c l AH.out.1 rD.out (by have :=afW.out.1;omega) HN.out);have MY:L4.a=L.a:=vR.out.1;clear vz oM c7 c14 f7 f14 Tz SB XN Ea H2 qc abz WH Fq u4;go_wp2_with fail;refine KN.out.mono ?_;clear KN;rintro e w4 ⟨A4,c4,rfl,BU,hA4,eS⟩;obtain⟨out,UI⟩:∃out,nrm l=out:=⟨_,rfl⟩
  rw[UI]at BU;rw[UI];have Wt:=aa UI;have HRO:Hid (Ra out):=Ra.sub rD.out (fun y hy=>(lS (by rw[Wt.out];exact hy)).1);have HOL:Hid (out.length<=1024):=by have h5:=BA l;rw[Wt.out]at h5;have :=afW.out.1;show _<=_;omega
  have HI4:=aa BU;have HA4:=aa hA4;have gY:=aa eS;have H5:=aa (H4.out.keep eS);have agL:=aa (eS.aN Js.out);have agw:Hid (Fr (L.own w) w w4):=db.out.ag (eS.mono (fun k hk=>by cases hk));obtain⟨tb,htb⟩:∃tb,qu out=tb:=⟨_,rfl⟩
  rw[htb];have HTB:=aa htb;have iy:=oN.out;unfold Sv.n9 at iy;rw[Wt.out,htb]at iy;have CC:=aa (fV w4 A4 c4 out 83 #[.pointer (some ⟨w.heap.size,0,none⟩)] (fun x=>decide (0<S.val x)) EX BU.rd HRO.out (by have :=HOL.out;omega) (fun W hW x _ hx=>I4 W w.heap.size L4 S.bI (H5.out.keep hW) ua.out (by rw[MY];exact hW.aN agL.out) x hx));clear BU hA4 eS UI htb;cases tb with
  |true=>
   rw[Bool.true_or,aae rfl]at iy;have FF:Hid (pz (.int .i64 cT.2) cT.1 L w (.returned (.int .i64 0)) w4):=by rw[iy];exact⟨rfl,L4,H5.out,vR.out,agw.out⟩
   clear iy CC;go_wp2_with fail;go_ret;exact FF.out
  |false=>
   rw[Bool.false_or]at iy;obtain⟨p,hp⟩:∃p,(out.any fun x=>decide (0<S.val x))=p:=⟨_,rfl⟩
   rw[hp]at CC iy;have HRP:=aa iy;clear hp iy;go_wp2_with fail;refine CC.out.mono ?_;clear CC;rintro e w5 ⟨rfl,ev⟩;have H6:=aa (H5.out.keep ev);have HI6:=aa (HI4.out.fD ev);have agK:=aa (ev.aN agL.out);have agv:Hid (Fr (L.own w) w w5):=agw.out.ag (ev.mono (fun k hk=>by cases hk));have atW:Hid (w3.heap.size<=w5.heap.size):=aE gY.out.size ev.size;clear ev;cases p with
   |true=>
    have iy:=HRP.out;rw[aae rfl]at iy;have FF:Hid (pz (.int .i64 cT.2) cT.1 L w (.returned (.int .i64 0)) w5):=by rw[iy];exact⟨rfl,L4,H6.out,vR.out,agv.out⟩
    clear iy;go_wp2_with fail;go_ret;exact FF.out
   |false=>
    have iy:=HRP.out;rw[aac (by simp)]at iy;have amJ:=aa iy;clear iy HRP;have TE:Hid (w.heap.size∉ak A4):=fun hm=>by have h5:=HA4.out _ hm;have h6:w.heap.size<w3.heap.size:=bM Js.out;omega
    have SE:Hid (∀k,k∈ak A4->(L4.cY k).1≠L4.id):=fun k hk=>af8.out k (HA4.out k hk);have R0:=aa (xO w5 A4 c4 out 86 #[.pointer (some ⟨w.heap.size,0,none⟩)] (fun x=>decide (S.val x<0)) EW HI6.out HRO.out (by have :=HOL.out;omega) (fun W hW x _ hx=>I3 W w.heap.size L4 S.bI (H6.out.fr hW (fun k hk _=>SE.out k hk)) ua.out (by rw[MY];exact hW.bK TE.out agK.out) x hx));go_wp2_with fail;refine R0.out.mono ?_;clear R0;rintro e w6 ⟨rfl,ZZ,gW⟩;have QC:S.leftOf out=out.filter fun x=> !decide (S.val x<0):=rfl;rw[<-QC]at ZZ;rw[<-QC];obtain⟨ys,Oe⟩:∃ys,S.leftOf out=ys:=⟨_,rfl⟩
    have HLY:Hid (ys.length<=1024/\∀x∈ys,x≠0/\ -(S.vars:Int)<=x/\x<=S.vars):=by have h5:=Su.out;rw[Wt.out,Oe]at h5;exact h5
    have iy:=amJ.out;rw[Oe]at ZZ iy⊢;have H7:=aa (H6.out.fr gW (fun k hk _=>SE.out k hk));have N0:=aa ZZ;have agJ:=aa (gW.bK TE.out agK.out);have NW:Hid (∀k,k∈ak A4->w.heap.size<=k):=fun k hk=>aE db.out.size (HA4.out k hk);have SA:Hid (Fr (L.own w) w w6):=agv.out.trans gW (fun k hk=> .inr (NW.out k hk));have oN:=aa iy;have oM:=agJ.out;clear gW ZZ Oe QC iy;by_cases jX:ys.length=0
    ·have hd0:((ys.length:Int)==(0:Int))=true:=(by simp[jX])
     have iy:=oN.out;unfold Sv.ia at iy;rw[aae jX]at iy;have f13:=H7.out.obj.frozen 13;have OF:=H7.out.cells.2.2.2.2.2.2.2.2.2.2.2.2.2.1;rw[MY]at f13 OF;obtain⟨g8,f8⟩:=H7.out.qe 13 (.bool true) { S.bI with bad:=true } (by simp[pM]) ⟨rfl,rfl,rfl,rfl,rfl,rfl,rfl⟩;rw[MY]at g8 f8;have FF:Hid (pz (.int .i64 cT.2) cT.1 L w (.returned (.int .i64 0)) (w6.setCell ⟨L.a,13,none⟩ (.bool true))):=by rw[iy];exact⟨rfl,L4,g8,vR.out,aO.aQ vR.out SA.out f8⟩
     clear iy g8 f8;go_wp2_with fail;go_ret;exact FF.out
    ·have hd0:((ys.length:Int)==(0:Int))=false:=by rw[aar];omega
     by_cases iP:ys.length=1
     ·have Av:((ys.length:Int)==(1:Int))=true:=(by simp[iP])
      have iy:=oN.out;unfold Sv.ia at iy;rw[aac jX,aae iP]at iy;obtain⟨ga,pu,uy⟩:=N0.out.pos (i:=0) (by omega);subst pu;have s1:=N0.out.cell (i:=0) (by omega);have s0:=H7.out.cells.1;rw[MY]at s0;obtain⟨y,hy⟩:∃y,ys[0]! =y:=⟨_,rfl⟩
      rw[hy]at s1 iy;have Tc:=HLY.out.2 y (by rw[<-hy];exact get_mem (l:=ys) (i:=0) (by omega));obtain⟨-,Ux,aj3⟩:=Tc;have vS:=aa s0;have qr:=aa s1;have KP:=aa (fun W (hW:Fr [] w6 W)=>mM W L4 S.bI (H7.out.keep hW) 0 ua.out y 0 Ux aj3);have hly:0<ys.length:=(by omega)
      have amI:=aa iy;clear iy hy s0 s1;go_wp2_with fail;go_upto_region 16 with fail;refine aam ?_;refine bi (fun w':World=>Fr [] w6 w') 7 (by kernel_rfl) ((Fr.refl [] w6).drew) (fun cZ=> ?_);apply TB 7 [(0,[0,1,2,3,7]),(1,[]),(2,[]),(3,[3,7]),(4,[]),(5,[]),(6,[6,7])];kernel_rfl;rfl;· (repeat (apply eH;rfl;rfl;(· intro w bl;(try(have bl:=bl.resolve_left (aF _ _);(have sb:=bl.aN agJ.out;have s0:=bl.aN vS.out;have s1:=bl.aN qr.out)));go_simp<;>with_reducible rfl);try simp only[Act.put,q5,q6,q7]));exact eG
      exact cZ;intro cZ;refine R2 7 (by kernel_rfl) (by rfl) cZ fun K hK aw=> ?_
      (go_simp;refine(KP.out _ aw).mono ?_;rintro e w8 ⟨⟨x8,rfl⟩,L8,h8,VB,mp⟩;dsimp only)
      refine hK.out _ _ (.inl rfl) (fun Km=> ?_);clear hK K;try simp only[Act.put,q5,q6,q7]
      refine aD (by kernel_rfl) ?_ _;refine NoPanic.normal ?_;clear KP;have FF:Hid (pz (.int .i64 cT.2) cT.1 L w (.returned (.int .i64 0)) w8):=by rw[amI.out];exact⟨rfl,L8,h8,aO.aV vR.out VB (aE SA.out.size aw.size),aO.aQ vR.out (SA.out.ag (aw.mono (fun k hk=>by cases hk))) mp⟩
      clear h8 VB mp;go_wp2_with fail;go_ret;exact FF.out
     ·have Av:((ys.length:Int)==(1:Int))=false:=by rw[aar];omega
      have iy:=oN.out;unfold Sv.ia at iy;rw[aac jX,aac iP]at iy;have amH:=aa iy;clear iy;have vm:Hid (S.bI.Fits ys):=⟨by omega,by have :=HLY.out.1;omega,HLY.out.2⟩
      have CV:=aa (sQ w6 L4 S.bI H7.out 0 ua.out A4 c4 ys false N0.out vm.out SE.out sV.out HU.out);rw[MY]at CV;clear jX iP;go_wp2_with fail;refine CV.out.mono ?_;clear CV;rintro e w8 ⟨rfl,L8,h8,FM,Kh,hk8,mp,-,-⟩;have FF:Hid (pz (.int .i64 cT.2) cT.1 L w (.returned (.int .i64 0)) w8):=by rw[amH.out];exact⟨rfl,L8,h8,aO.Rk vR.out FM Kh hk8 SA.out.size NW.out,aO.Bz vR.out SA.out mp NW.out⟩
      clear h8 FM Kh hk8 mp;go_wp2_with fail;go_ret;exact FF.out
 ·have hd:(ck==(0:Int))=false:=by simp[M0]
  have oN:Hid (cT=(S,ck)):=by rw[<-dM.out];unfold Sv.fT;rw[Yh.out,aac M0];rfl
  have FF:Hid (pz (.int .i64 cT.2) cT.1 L w (.returned (.int .i64 ck)) w2):=by rw[oN.out];exact⟨rfl,L1,H2.out,fa.out,WH.out⟩
  go_wp2_with fail;go_ret;exact FF.out
end
end Go.Proofs.YtjmmpfjcpdepjaaGreatDoor
