/- Parts of a proof. -/
import Derived.Test.YtjmmpfjcpdepjaaGreatDoorGAB
set_option linter.unusedVariables false
set_option linter.unusedSimpArgs false
namespace Go.Proofs.YtjmmpfjcpdepjaaGreatDoor
open Go.RowKit
theorem JN (l:List Int) (i j:Nat) (x:Int):(l.set i x)[j]! =if i=j/\i<l.length then x else l[j]! :=by
 simp only[ae,List.getElem?_set];by_cases h:i=j
 ·subst h;by_cases hl:i<l.length
  ·simp[hl]
  ·simp[hl]
 ·simp[h]
theorem fd {l:List Int} {i:Nat} (x:Int) (h:i<l.length):(l.set i x)[i]! =x:=by rw[JN];simp[h]
theorem gq {l:List Int} {i j:Nat} (x:Int) (h:i≠j):(l.set i x)[j]! =l[j]! :=by rw[JN];simp[h]
structure PC (V:Hp):Prop where
 oF:V.I9
 pos:∀j:Nat,j<V.items.length->V.at_[(V.items[j]!).toNat]! =j
 inv:∀x:Nat,x<V.at_.length->0<=V.at_[x]! ->(V.at_[x]!).toNat<V.items.length/\V.items[(V.at_[x]!).toNat]! =x
theorem PC.inj {V:Hp} (h:PC V) {i j:Nat} (hi:i<V.items.length) (hj:j<V.items.length) (e:V.items[i]! =V.items[j]!):i=j:=by have h1:=h.pos i hi;have h2:=h.pos j hj;rw[e]at h1;omega
def Hp.swp (V:Hp) (i p:Nat):Hp:=(V.put (i:Int) V.items[p]!).put (p:Int) V.items[i]!
theorem pG (V:Hp) (i p:Nat):(V.swp i p).items.length=V.items.length/\(V.swp i p).at_.length=V.at_.length/\(V.swp i p).score=V.score:=by simp[Hp.swp,Hp.put]
theorem cV (V:Hp) {i p:Nat} (hi:i<V.items.length) (hp:p<V.items.length) (j:Nat):
  (V.swp i p).items[j]! =if j=p then V.items[i]! else if j=i then V.items[p]! else V.items[j]! :=by
 simp only[Hp.swp,Hp.put,Int.toNat_natCast];by_cases h1:j=p
 ·subst h1;rw[aae rfl,fd _ (by simpa using hp)]
 ·rw[aac h1,gq _ (fun e=>h1 e.symm)];by_cases h2:j=i
  ·subst h2;rw[aae rfl,fd _ hi]
  ·rw[aac h2,gq _ (fun e=>h2 e.symm)]
theorem PC.swp {V:Hp} (h:PC V) {i p:Nat} (hi:i<V.items.length) (hp:p<V.items.length) (dS:i≠p):PC (V.swp i p):=by
 obtain⟨l1,l2,_⟩:=pG V i p;have ri:=h.oF i hi;have rp:=h.oF p hp;have hab:V.items[i]! ≠V.items[p]! :=fun e=>dS (h.inj hi hp e);have tT:∀x:Nat,(V.swp i p).at_[x]! =if x=(V.items[i]!).toNat then(p:Int)else if x=(V.items[p]!).toNat then(i:Int)else V.at_[x]! :=by
  intro x;simp only[Hp.swp,Hp.put];by_cases h1:x=(V.items[i]!).toNat
  ·subst h1;rw[aae rfl,fd _ (by simp only[ao];omega)]
  ·rw[aac h1,gq _ (fun e=>h1 e.symm)];by_cases h2:x=(V.items[p]!).toNat
   ·subst h2;rw[aae rfl,fd _ (by omega)]
   ·rw[aac h2,gq _ (fun e=>h2 e.symm)]
 refine⟨fun j hj=> ?_,fun j hj=> ?_,fun x hx h0=> ?_⟩
 ·rw[l1]at hj;rw[cV V hi hp,l2];split
  ·exact ri
  ·split
   ·exact rp
   ·exact h.oF j hj
 ·rw[l1]at hj;rw[cV V hi hp,tT];by_cases h1:j=p
  ·subst h1;simp
  ·by_cases h2:j=i
   ·subst h2;rw[aac h1,aae rfl,aac (by omega),aae rfl]
   ·have rj:=h.oF j hj;have e1:V.items[j]! ≠V.items[i]! :=fun e=>h2 (h.inj hj hi e);have e2:V.items[j]! ≠V.items[p]! :=fun e=>h1 (h.inj hj hp e);rw[aac h1,aac h2,aac (by omega),aac (by omega)];exact h.pos j hj
 ·rw[l2]at hx;rw[tT]at h0⊢;by_cases h1:x=(V.items[i]!).toNat
  ·rw[aae h1,cV V hi hp,l1];simp only[Int.toNat_natCast,if_true];exact⟨hp,by omega⟩
  ·by_cases h2:x=(V.items[p]!).toNat
   ·rw[aac h1,aae h2,cV V hi hp,l1];simp only[Int.toNat_natCast,if_true];rw[aac dS];exact⟨hi,by omega⟩
   ·rw[aac h1,aac h2]at h0⊢;obtain⟨k1,k2⟩:=h.inv x hx h0;rw[cV V hi hp,l1];refine⟨k1,?_⟩;rw[aac,aac,k2]
    ·intro e;rw[e]at k2;omega
    ·intro e;rw[e]at k2;omega
theorem wI {V:Hp} (h:PC V) {i:Nat} (hi:i<V.items.length):V.put (i:Int) V.items[i]! =V:=by
 have e1:V.items.set i V.items[i]! =V.items:=by
  apply List.ext_getElem?;intro j;rw[List.getElem?_set];by_cases hj:i=j
  ·subst hj;simp[hi]
  ·simp[hj]
 have e2:V.at_.set (V.items[i]!).toNat (i:Int)=V.at_:=by
  have hp:=h.pos i hi;have r:=h.oF i hi;apply List.ext_getElem?;intro j;rw[List.getElem?_set];by_cases hj:(V.items[i]!).toNat=j
  ·rw[aae hj,aae (by omega),<-hj,<-hp];rw[ae,af (by omega:(V.items[i]!).toNat<V.at_.length)];rfl
  ·rw[aac hj]
 show Hp.mk (V.items.set (i:Int).toNat V.items[i]!) (V.at_.set (V.items[i]!).toNat (i:Int)) V.score=V;rw[Int.toNat_natCast,e1,e2]
theorem JV {K:Hp} {i p:Nat} {x y:Int} (Of:x.toNat≠y.toNat):((K.put (i:Int) x).put (i:Int) y).put (p:Int) x=(K.put (i:Int) y).put (p:Int) x:=by simp only[Hp.put,Int.toNat_natCast,List.set_set,Hp.mk.injEq,and_true,true_and];rw[List.set_comm _ _ Of,List.set_set]
theorem eY {V:Hp} {x y:Int}:V.bF x y=true↔(V.sc y<V.sc x\/(V.sc x=V.sc y/\x<y)):=by simp[Hp.bF]
theorem tY {V:Hp} {x y:Int} (h:V.bF x y=true):V.bF y x=false:=by
 cases hh:V.bF y x with
 |false=>rfl
 |true=>rw[eY]at h hh;omega
theorem Ff {V:Hp} {x y z:Int} (h:V.bF x y=true) (k:V.bF y z=true):V.bF x z=true:=by rw[eY]at *;omega
theorem ix {V:Hp} {x y z:Int} (h:V.bF x y=false) (k:V.bF y z=false):V.bF x z=false:=by
 cases hh:V.bF x z with
 |false=>rfl
 |true=>
  rw[eY]at hh;have h1:¬(V.sc y<V.sc x\/(V.sc x=V.sc y/\x<y)):=fun e=>by rw[<-eY,h]at e;cases e
  have h2:¬(V.sc z<V.sc y\/(V.sc y=V.sc z/\y<z)):=fun e=>by rw[<-eY,k]at e;cases e
  omega
theorem nX {V:Hp} {x:Int}:V.bF x x=false:=by
 cases hh:V.bF x x with
 |false=>rfl
 |true=>rw[eY]at hh;omega
theorem fJ {V W:Hp} (h:V.score=W.score) (x y:Int):V.bF x y=W.bF x y:=by simp[Hp.bF,Hp.sc,h]
structure NL (V:Hp) (i:Nat):Prop where
 all:∀j:Nat,0<j->j<V.items.length->j≠i->V.bF V.items[j]! V.items[(j-1)/2]! =false
 over:∀j:Nat,0<j->j<V.items.length->(j-1)/2=i->0<i->V.bF V.items[j]! V.items[(i-1)/2]! =false
def Ord (V:Hp):Prop:=∀j:Nat,0<j->j<V.items.length->V.bF V.items[j]! V.items[(j-1)/2]! =false
theorem NL.step {V:Hp} {i:Nat} (h:NL V i) (Vr:0<i) (hi:i<V.items.length) (ha:V.bF V.items[i]! V.items[(i-1)/2]! =true):NL (V.swp i ((i-1)/2)) ((i-1)/2):=by
 have hp:(i-1)/2<V.items.length:=by omega
 have dS:i≠(i-1)/2:=by omega
 obtain⟨l1,_,l3⟩:=pG V i ((i-1)/2);refine⟨fun j h0 hj ZW=> ?_,fun j h0 hj ZW Qj=> ?_⟩
 ·rw[l1]at hj;rw[fJ l3,cV V hi hp,cV V hi hp,aac ZW];by_cases e1:j=i
  ·subst e1;rw[aae rfl,aae rfl];exact tY ha
  ·rw[aac e1];by_cases e2:(j-1)/2=(i-1)/2
   ·rw[aae e2];have h1:=h.all j h0 hj e1;rw[e2]at h1;cases hh:V.bF V.items[j]! V.items[i]! with
    |false=>rfl
    |true=>rw[Ff hh ha]at h1;cases h1
   ·rw[aac e2];by_cases e3:(j-1)/2=i
    ·rw[aae e3];exact h.over j h0 hj e3 Vr
    ·rw[aac e3];exact h.all j h0 hj e1
 ·rw[l1]at hj;rw[fJ l3,cV V hi hp,cV V hi hp];have hq:=h.all ((i-1)/2) Qj hp (fun e=>dS e.symm);rw[aac (by omega:¬j=(i-1)/2),aac (by omega:¬((i-1)/2-1)/2=(i-1)/2),aac (by omega:¬((i-1)/2-1)/2=i)];by_cases e1:j=i
  ·rw[aae e1];exact hq
  ·rw[aac e1];have h1:=h.all j h0 hj e1;rw[ZW]at h1;exact ix h1 hq
def Hp.N9:Nat->Hp->Nat->Hp
 |0,V,_=>V
 |f+1,V,i=>if 0<i/\V.bF V.items[i]! V.items[(i-1)/2]! =true then Hp.N9 f (V.swp i ((i-1)/2)) ((i-1)/2)else V
theorem jB (V:Hp) (j:Nat):V.it (j:Int)=V.items[j]! :=by simp[Hp.it]
theorem JC (x:Int):∀(f:Nat) (K:Hp) (i:Nat),i<K.items.length->i<f->PC (K.put (i:Int) x)->Hp.qs x f K i=Hp.N9 f (K.put (i:Int) x) i:=by
 intro f;induction f with
 |zero=>intro K i _ h _;omega
 |succ f ih=>
  intro K i hi hf hP;simp only[Hp.qs,Hp.N9];have e0:(K.put (i:Int) x).items[i]! =x:=by simp only[Hp.put,Int.toNat_natCast];exact fd x hi
  have es:∀a b,(K.put (i:Int) x).bF a b=K.bF a b:=fun a b=>fJ rfl a b;by_cases h0:0<i
  ·have dS:i≠(i-1)/2:=by omega
   have e1:(K.put (i:Int) x).items[(i-1)/2]! =K.items[(i-1)/2]! :=by simp only[Hp.put,Int.toNat_natCast];exact gq x dS
   rw[jB,e0,e1,es];by_cases ha:K.bF x K.items[(i-1)/2]! =true
   ·rw[aae ⟨h0,ha⟩,aae ⟨h0,ha⟩];have hl:(i-1)/2<(K.put (i:Int) x).items.length:=by rw[Hp.eo];omega
    have MZ:i<(K.put (i:Int) x).items.length:=by rw[Hp.eo];omega
    have rx:=hP.oF i MZ;have ry:=hP.oF ((i-1)/2) hl;have Of:(K.put (i:Int) x).items[i]! ≠(K.put (i:Int) x).items[(i-1)/2]! :=fun e=>dS (hP.inj MZ hl e);rw[e0]at rx Of;rw[e1]at ry Of;have e2:(K.put (i:Int) x).swp i ((i-1)/2)=(K.put (i:Int) K.items[(i-1)/2]!).put (((i-1)/2:Nat):Int) x:=by unfold Hp.swp;rw[e0,e1];exact JV (by omega)
    rw[e2];refine ih _ _ (by rw[Hp.eo];omega) (by omega) ?_;rw[<-e2];exact hP.swp MZ hl dS
   ·rw[aac (fun h=>ha h.2),aac (fun h=>ha h.2)]
  ·rw[aac (fun h=>h0 h.1),aac (fun h=>h0 h.1)]
theorem jx:∀(f:Nat) (V:Hp) (i:Nat),i<V.items.length->i<f->PC V->NL V i->
  PC (Hp.N9 f V i)/\Ord (Hp.N9 f V i)/\(Hp.N9 f V i).score=V.score/\(Hp.N9 f V i).items.length=V.items.length/\(Hp.N9 f V i).at_.length=V.at_.length/\(∀y:Int,y∈(Hp.N9 f V i).items↔y∈V.items):=by
 intro f;induction f with
 |zero=>intro V i _ h;omega
 |succ f ih=>
  intro V i hi hf hP hO;simp only[Hp.N9];by_cases hc:0<i/\V.bF V.items[i]! V.items[(i-1)/2]! =true
  ·rw[aae hc];obtain⟨l1,l2,l3⟩:=pG V i ((i-1)/2);have hl:(i-1)/2<V.items.length:=by omega
   have :=ih (V.swp i ((i-1)/2)) ((i-1)/2) (by rw[l1];omega) (by omega) (hP.swp hi hl (by omega)) (hO.step hc.1 hi hc.2);obtain⟨r1,r2,r3,r4,r5,r6⟩:=this;refine⟨r1,r2,by rw[r3,l3],by rw[r4,l1],by rw[r5,l2],fun y=>(r6 y).trans ?_⟩;constructor
   ·intro hy;obtain⟨j,hj,rfl⟩:=List.mem_iff_getElem.1 hy;rw[l1]at hj;have e:=cV V hi hl j;rw[ae,af (by rw[l1];exact hj)]at e;simp only[ay]at e;rw[e];split
    ·exact a8 hi
    ·split
     ·exact a8 hl
     ·exact a8 hj
   ·intro hy;obtain⟨j,hj,rfl⟩:=List.mem_iff_getElem.1 hy;have e0:V.items[j]=V.items[j]! :=(by simp[hj])
    rw[e0];by_cases e1:j=i
    ·subst e1;have :=cV V hi hl ((j-1)/2);rw[aae rfl]at this;rw[<-this];exact a8 (by rw[l1];exact hl)
    ·by_cases e2:j=(i-1)/2
     ·have :=cV V hi hl i;rw[aac (by omega),aae rfl]at this;rw[e2,<-this];exact a8 (by rw[l1];exact hi)
     ·have :=cV V hi hl j;rw[aac e2,aac e1]at this;rw[<-this];exact a8 (by rw[l1];exact hj)
  ·rw[aac hc];refine⟨hP,fun j h0 hj=> ?_,rfl,rfl,rfl,fun _=>Iff.rfl⟩;by_cases e:j=i
   ·subst e;cases hh:V.bF V.items[j]! V.items[(j-1)/2]! with
    |false=>rfl
    |true=>exact absurd ⟨h0,hh⟩ hc
   ·exact hO.all j h0 hj e
where
 a8 {l:List Int} {j:Nat} (h:j<l.length):l[j]! ∈l:=by rw[ae,af h];exact j5 h
theorem TK {V:Hp} {i p:Nat} (hi:i<V.items.length) (hp:p<V.items.length) (y:Int):y∈(V.swp i p).items↔y∈V.items:=by
 obtain⟨l1,_,_⟩:=pG V i p;constructor
 ·intro hy;obtain⟨j,hj,rfl⟩:=List.mem_iff_getElem.1 hy;rw[l1]at hj;have e:=cV V hi hp j;rw[ae,af (by rw[l1];exact hj)]at e;simp only[ay]at e;rw[e];split
  ·exact jx.a8 hi
  ·split
   ·exact jx.a8 hp
   ·exact jx.a8 hj
 ·intro hy;obtain⟨j,hj,rfl⟩:=List.mem_iff_getElem.1 hy;have e0:V.items[j]=V.items[j]! :=by simp[hj]
  rw[e0];by_cases e1:j=i
  ·subst e1;have :=cV V hi hp p;rw[aae rfl]at this;rw[<-this];exact jx.a8 (by rw[l1];exact hp)
  ·by_cases e2:j=p
   ·subst e2;have :=cV V hi hp i;rw[aac (fun e=>e1 e.symm),aae rfl]at this;rw[<-this];exact jx.a8 (by rw[l1];exact hi)
   ·have :=cV V hi hp j;rw[aac e2,aac e1]at this;rw[<-this];exact jx.a8 (by rw[l1];exact hj)
structure RT (V:Hp) (i:Nat):Prop where
 all:∀j:Nat,0<j->j<V.items.length->(j-1)/2≠i->V.bF V.items[j]! V.items[(j-1)/2]! =false
 over:∀j:Nat,0<j->j<V.items.length->(j-1)/2=i->0<i->V.bF V.items[j]! V.items[(i-1)/2]! =false
theorem vJ (V:Hp) {i:Nat} (hi:2*i+1<V.items.length):
  V.bS i<V.items.length/\(V.bS i-1)/2=i/\0<V.bS i/\∀j:Nat,0<j->j<V.items.length->(j-1)/2=i->V.bF V.items[j]! V.items[V.bS i]! =false:=by
 unfold Hp.bS;rw[jB,jB];by_cases h:2*i+2<V.items.length/\V.bF V.items[2*i+2]! V.items[2*i+1]! =true
 ·rw[aae h];refine⟨h.1,by omega,by omega,fun j h0 hj hp=> ?_⟩;rcases(by omega:j=2*i+1\/j=2*i+2)with rfl |rfl
  ·exact tY h.2
  ·exact nX
 ·rw[aac h];refine⟨hi,by omega,by omega,fun j h0 hj hp=> ?_⟩;rcases(by omega:j=2*i+1\/j=2*i+2)with rfl |rfl
  ·exact nX
  ·cases hh:V.bF V.items[2*i+2]! V.items[2*i+1]! with
   |false=>rfl
   |true=>exact absurd ⟨hj,hh⟩ h
theorem RT.step {V:Hp} {i:Nat} (h:RT V i) (hi:2*i+1<V.items.length) (ha:V.bF V.items[V.bS i]! V.items[i]! =true):RT (V.swp i (V.bS i)) (V.bS i):=by
 obtain⟨hb,QX,FL,Kk⟩:=vJ V hi;generalize V.bS i=b at hb QX FL Kk ha;have hii:i<V.items.length:=by omega
 obtain⟨l1,_,l3⟩:=pG V i b;refine⟨fun j h0 hj ZW=> ?_,fun j h0 hj ZW Qj=> ?_⟩
 ·rw[l1]at hj;rw[fJ l3,cV V hii hb,cV V hii hb,aac ZW];by_cases e1:j=b
  ·subst e1;rw[aae rfl,aae QX];exact tY ha
  ·rw[aac e1];by_cases e2:(j-1)/2=i
   ·rw[aae e2,aac (by omega)];exact Kk j h0 hj e2
   ·rw[aac e2];by_cases e3:j=i
    ·subst e3;rw[aae rfl];exact h.over b FL hb QX h0
    ·rw[aac e3];exact h.all j h0 hj e2
 ·rw[l1]at hj;rw[fJ l3,cV V hii hb,cV V hii hb,QX];rw[aac (by omega:¬j=b),aac (by omega:¬j=i),aac (by omega:¬i=b),aae rfl];have :=h.all j h0 hj (by omega);rw[ZW]at this;exact this
def Hp.px:Nat->Hp->Nat->Hp
 |0,V,_=>V
 |f+1,V,i=>if 2*i+1<V.items.length/\V.bF V.items[V.bS i]! V.items[i]! =true then Hp.px f (V.swp i (V.bS i)) (V.bS i)else V
theorem RD (K:Hp) (i:Nat) (x:Int):(K.put (i:Int) x).bS i=K.bS i:=by
 unfold Hp.bS;rw[jB,jB,jB,jB,Hp.eo];have e1:(K.put (i:Int) x).items[2*i+2]! =K.items[2*i+2]! :=by simp only[Hp.put,Int.toNat_natCast];exact gq x (by omega)
 have e2:(K.put (i:Int) x).items[2*i+1]! =K.items[2*i+1]! :=by simp only[Hp.put,Int.toNat_natCast];exact gq x (by omega)
 have es:=fJ (V:=K.put (i:Int) x) (W:=K) rfl K.items[2*i+2]! K.items[2*i+1]!;rw[e1,e2,es]
theorem EZ (x:Int):∀(f:Nat) (K:Hp) (i:Nat),i<K.items.length->PC (K.put (i:Int) x)->Hp.gF x f K i=Hp.px f (K.put (i:Int) x) i:=by
 intro f;induction f with
 |zero=>intro K i _ _;rfl
 |succ f ih=>
  intro K i hi hP;simp only[Hp.gF,Hp.px];rw[RD,Hp.eo];have e0:(K.put (i:Int) x).items[i]! =x:=by simp only[Hp.put,Int.toNat_natCast];exact fd x hi
  have es:∀a b,(K.put (i:Int) x).bF a b=K.bF a b:=fun a b=>fJ rfl a b;by_cases h0:2*i+1<K.items.length
  ·obtain⟨hb,QX,FL,_⟩:=vJ K h0;generalize K.bS i=b at hb QX FL;have dS:i≠b:=by omega
   have e1:(K.put (i:Int) x).items[b]! =K.items[b]! :=by simp only[Hp.put,Int.toNat_natCast];exact gq x dS
   rw[jB,e0,e1,es];by_cases ha:K.bF K.items[b]! x=true
   ·rw[aae ⟨h0,ha⟩,aae ⟨h0,ha⟩];have hl:b<(K.put (i:Int) x).items.length:=by rw[Hp.eo];omega
    have MZ:i<(K.put (i:Int) x).items.length:=by rw[Hp.eo];omega
    have rx:=hP.oF i MZ;have ry:=hP.oF b hl;have Of:(K.put (i:Int) x).items[i]! ≠(K.put (i:Int) x).items[b]! :=fun e=>dS (hP.inj MZ hl e);rw[e0]at rx Of;rw[e1]at ry Of;have e2:(K.put (i:Int) x).swp i b=(K.put (i:Int) K.items[b]!).put (b:Int) x:=by unfold Hp.swp;rw[e0,e1];exact JV (by omega)
    rw[e2];refine ih _ _ (by rw[Hp.eo];omega) ?_;rw[<-e2];exact hP.swp MZ hl dS
   ·rw[aac (fun h=>ha h.2),aac (fun h=>ha h.2)]
  ·rw[aac (fun h=>h0 h.1),aac (fun h=>h0 h.1)]
theorem Rq:∀(f:Nat) (V:Hp) (i:Nat),i<V.items.length->V.items.length<=i+f->PC V->RT V i->
  PC (Hp.px f V i)/\Ord (Hp.px f V i)/\(Hp.px f V i).score=V.score/\(Hp.px f V i).items.length=V.items.length/\(Hp.px f V i).at_.length=V.at_.length/\(∀y:Int,y∈(Hp.px f V i).items↔y∈V.items):=by
 intro f;induction f with
 |zero=>intro V i _ h;omega
 |succ f ih=>
  intro V i hi hf hP hO;simp only[Hp.px];by_cases hc:2*i+1<V.items.length/\V.bF V.items[V.bS i]! V.items[i]! =true
  ·rw[aae hc];obtain⟨hb,QX,FL,_⟩:=vJ V hc.1;obtain⟨l1,l2,l3⟩:=pG V i (V.bS i);have :=ih (V.swp i (V.bS i)) (V.bS i) (by rw[l1];omega) (by rw[l1];omega) (hP.swp hi hb (by omega)) (hO.step hc.1 hc.2);obtain⟨r1,r2,r3,r4,r5,r6⟩:=this;exact⟨r1,r2,by rw[r3,l3],by rw[r4,l1],by rw[r5,l2],fun y=>(r6 y).trans (TK hi hb y)⟩
  ·rw[aac hc];refine⟨hP,fun j h0 hj=> ?_,rfl,rfl,rfl,fun _=>Iff.rfl⟩;by_cases e:(j-1)/2=i
   ·have pt:2*i+1<V.items.length:=by omega
    obtain⟨_,_,_,Kk⟩:=vJ V pt;have h2:V.bF V.items[V.bS i]! V.items[i]! =false:=by
     cases hh:V.bF V.items[V.bS i]! V.items[i]! with
     |false=>rfl
     |true=>exact absurd ⟨pt,hh⟩ hc
    rw[e];exact ix (Kk j h0 hj e) h2
   ·exact hO.all j h0 hj e
theorem Ord.root {V:Hp} (h:Ord V):∀(n j:Nat),j<=n->j<V.items.length->V.bF V.items[j]! V.items[0]! =false:=by
 intro n;induction n with
 |zero=>
  intro j hj _;obtain rfl :j=0:=by omega
  exact nX
 |succ n ih=>
  intro j hj hl;by_cases h0:j=0
  ·subst h0;exact nX
  ·exact ix (h j (by omega) hl) (ih ((j-1)/2) (by omega) (by omega))
structure HI (H:Hp):Prop where
 pc:PC H
 ord:Ord H
 same:H.at_.length=H.score.length
 Yz:∀x:Nat,x<H.score.length->0<=H.score[x]!
theorem HI.push {H:Hp} (h:HI H) {x:Int} (hb:H.jq x=true) (hp:H.pl x<0):
  HI (H.rY x)/\(H.rY x).score=H.score/\(H.rY x).items.length=H.items.length+1/\(H.rY x).at_.length=H.at_.length/\∀y:Int,y∈(H.rY x).items↔y∈H.items\/y=x:=by
 obtain⟨h0,h1⟩:=Hp.dB hb;have hx:x.toNat<H.at_.length:=by omega
 have hni:∀j:Nat,j<H.items.length->H.items[j]! ≠x:=by intro j hj e;have :=h.pc.pos j hj;rw[e]at this;unfold Hp.pl at hp;omega
 have gl:∀j:Nat,j<H.items.length->(H.items++[x])[j]! =H.items[j]! :=fun j hj=>by simp[ae,cJ hj]
 have gn:(H.items++[x])[H.items.length]! =x:=by simp
 have hK:PC { H with items:=H.items++[x],at_:=H.at_.set x.toNat H.items.length }:=by
  refine⟨fun j hj=> ?_,fun j hj=> ?_,fun y hy jX=> ?_⟩
  ·simp only[aj,cW,List.length_nil]at hj;simp only[ao];by_cases e:j<H.items.length
   ·rw[gl j e];exact h.pc.oF j e
   ·obtain rfl :j=H.items.length:=by omega
    rw[gn];exact⟨h0,h1⟩
  ·simp only[aj,cW,List.length_nil]at hj;by_cases e:j<H.items.length
   ·show(H.at_.set x.toNat (H.items.length:Int))[((H.items++[x])[j]!).toNat]! =j;rw[gl j e];have r:=h.pc.oF j e;have :=hni j e;rw[gq _ (by omega)];exact h.pc.pos j e
   ·obtain rfl :j=H.items.length:=by omega
    show(H.at_.set x.toNat (H.items.length:Int))[((H.items++[x])[H.items.length]!).toNat]! =_;rw[gn,fd _ hx]
  ·simp only[ao]at hy;show((H.at_.set x.toNat (H.items.length:Int))[y]!).toNat<(H.items++[x]).length/\(H.items++[x])[((H.at_.set x.toNat (H.items.length:Int))[y]!).toNat]! =y;by_cases e:x.toNat=y
   ·subst e;rw[fd _ hx,Int.toNat_natCast,gn];exact⟨by simp,by omega⟩
   ·have aj9:0<=H.at_[y]! :=by have :0<=(H.at_.set x.toNat (H.items.length:Int))[y]! :=jX;rwa[gq _ e]at this
    rw[gq _ e];obtain⟨k1,k2⟩:=h.pc.inv y hy aj9;rw[gl _ k1];exact⟨by rw[aj];exact aK k1 (Nat.le_add_right _ _),k2⟩
 have adU:Hp.put { H with items:=H.items++[x],at_:=H.at_.set x.toNat H.items.length } (H.items.length:Int) x={ H with items:=H.items++[x],at_:=H.at_.set x.toNat H.items.length }:=by have :=wI hK (i:=H.items.length) (by simp);rwa[show({ H with items:=H.items++[x],at_:=H.at_.set x.toNat H.items.length }:Hp).items[H.items.length]! =x from gn]at this
 have hO:NL { H with items:=H.items++[x],at_:=H.at_.set x.toNat H.items.length } H.items.length:=by
  refine⟨fun j oK hj dS=> ?_,fun j oK hj hpj Vr=> ?_⟩
  ·simp only[aj,cW,List.length_nil]at hj;show H.bF (H.items++[x])[j]! (H.items++[x])[(j-1)/2]! =false;rw[gl j (by omega),gl _ (by omega)];exact h.ord j oK (by omega)
  ·simp only[aj,cW,List.length_nil]at hj;omega
 have e:H.rY x=Hp.N9 (H.items.length+1) { H with items:=H.items++[x],at_:=H.at_.set x.toNat H.items.length } H.items.length:=by unfold Hp.rY;rw[JC x _ _ _ (by simp) (by omega) (by rw[adU];exact hK),adU]
 obtain⟨r1,r2,r3,r4,r5,r6⟩:=jx (H.items.length+1) _ H.items.length (by simp) (by omega) hK hO;rw[<-e]at r1 r2 r3 r4 r5 r6;refine⟨⟨r1,r2,?_,?_⟩,r3,by rw[r4];simp,by rw[r5];simp,fun y=>(r6 y).trans (by simp)⟩
 ·rw[r5,r3];simp[h.same]
 ·rw[r3];exact h.Yz
theorem O5 (l:List Int) {n j:Nat} (h:j<n):(l.take n)[j]! =l[j]! :=by simp only[ae,List.getElem?_take];rw[aae h]
theorem HI.root {H:Hp} (h:HI H) (h0:0<H.items.length):H.it 0∈H.items/\∀y:Int,y∈H.items->H.bF y (H.it 0)=false:=by
 have e:H.it 0=H.items[0]! :=jB H 0;rw[e];refine⟨jx.a8 h0,fun y hy=> ?_⟩;obtain⟨j,hj,rfl⟩:=List.mem_iff_getElem.1 hy;have e0:H.items[j]=H.items[j]! :=by simp[hj]
 rw[e0];exact h.ord.root j j (ap _) hj
theorem HI.pop {H:Hp} (h:HI H) (h0:0<H.items.length):
  HI H.kc/\H.kc.score=H.score/\H.kc.items.length=H.items.length-1/\H.kc.at_.length=H.at_.length/\∀y:Int,y∈H.kc.items↔y∈H.items/\y≠H.it 0:=by
 obtain⟨n,hn⟩:∃n,H.items.length=n+1:=⟨H.items.length-1,by omega⟩
 have er:H.it 0=H.items[0]! :=jB H 0;have el:H.it (n:Int)=H.items[n]! :=jB H n;have r0:=h.pc.oF 0 h0;have rn:=h.pc.oF n (by omega);have tl:(H.items.take n).length=n:=by simp;omega
 by_cases hz:n=0
 ·subst hz;have e:H.kc={ H with items:=H.items.take 0,at_:=H.at_.set (H.items[0]!).toNat (-1) }:=by unfold Hp.kc;rw[hn,er];simp
  rw[e];refine⟨⟨⟨fun j hj=> ?_,fun j hj=> ?_,fun y hy jX=> ?_⟩,fun j _ hj=> ?_,by simpa using h.same,h.Yz⟩,rfl,by simp[hn],by simp,fun y=> ?_⟩
  ·simp at hj
  ·simp at hj
  ·exfalso;simp only[ao]at hy;have iP:0<=(H.at_.set (H.items[0]!).toNat (-1))[y]! :=jX;by_cases e1:(H.items[0]!).toNat=y
   ·subst e1;rw[fd _ (by omega)]at iP;omega
   ·rw[gq _ e1]at iP;obtain⟨k1,k2⟩:=h.pc.inv y hy iP;have e2:(H.at_[y]!).toNat=0:=(by omega)
    rw[e2]at k2;omega
  ·simp at hj
  ·constructor
   ·intro hy;simp at hy
   ·rintro⟨hy,dS⟩;exfalso;obtain⟨j,hj,rfl⟩:=List.mem_iff_getElem.1 hy;obtain rfl :j=0:=by omega
    apply dS;rw[er];simp[hj]
 ·have ajS:H.items[0]! ≠H.items[n]! :=fun e=>hz (h.pc.inj h0 (by omega) e).symm
  --Yu heap with its last one at Yu root
  obtain⟨V,hV⟩:∃V:Hp,V=Hp.put { H with items:=H.items.take n,at_:=H.at_.set (H.items[0]!).toNat (-1) } ((0:Nat):Int) H.items[n]! :=⟨_,rfl⟩
  have vi:V.items=(H.items.take n).set 0 H.items[n]! :=by rw[hV];rfl
  have va:V.at_=(H.at_.set (H.items[0]!).toNat (-1)).set (H.items[n]!).toNat 0:=by rw[hV];rfl
  have vs:V.score=H.score:=by rw[hV];rfl
  have vl:V.items.length=n:=by rw[vi,ao,tl]
  have val:V.at_.length=H.at_.length:=by rw[va];simp
  have v0:V.items[0]! =H.items[n]! :=by rw[vi];exact fd _ (by omega)
  have vj:∀j:Nat,0<j->j<n->V.items[j]! =H.items[j]! :=fun j oK hj=>by rw[vi,gq _ (by omega),O5 _ hj]
  have vat:∀y:Nat,V.at_[y]! =if y=(H.items[n]!).toNat then 0 else if y=(H.items[0]!).toNat then -1 else H.at_[y]! :=by
   intro y;rw[va];by_cases e1:y=(H.items[n]!).toNat
   ·subst e1;rw[aae rfl,fd _ (by simp only[ao];omega)]
   ·rw[aac e1,gq _ (fun e=>e1 e.symm)];by_cases e2:y=(H.items[0]!).toNat
    ·subst e2;rw[aae rfl,fd _ (by omega)]
    ·rw[aac e2,gq _ (fun e=>e2 e.symm)]
  have hP:PC V:=by
   refine⟨fun j hj=> ?_,fun j hj=> ?_,fun y hy jX=> ?_⟩
   ·rw[vl]at hj;rw[val];by_cases e:j=0
    ·subst e;rw[v0];exact rn
    ·rw[vj j (by omega) hj];exact h.pc.oF j (by omega)
   ·rw[vl]at hj;by_cases e:j=0
    ·subst e;rw[v0,vat,aae rfl];rfl
    ·rw[vj j (by omega) hj,vat];have rj:=h.pc.oF j (by omega);have n1:H.items[j]! ≠H.items[n]! :=fun e'=>by have :=h.pc.inj (by omega) (by omega) e';omega
     have n2:H.items[j]! ≠H.items[0]! :=fun e'=>e (h.pc.inj (by omega) h0 e');rw[aac (by omega),aac (by omega)];exact h.pc.pos j (by omega)
   ·rw[val]at hy;rw[vat]at jX⊢;rw[vl];by_cases e1:y=(H.items[n]!).toNat
    ·rw[aae e1];show(0:Nat)<n/\V.items[0]! =y;rw[v0];omega
    ·by_cases e2:y=(H.items[0]!).toNat
     ·rw[aac e1,aae e2]at jX;omega
     ·rw[aac e1,aac e2]at jX⊢;obtain⟨k1,k2⟩:=h.pc.inv y hy jX;have k3:(H.at_[y]!).toNat≠n:=fun e=>by rw[e]at k2;omega
      have k4:(H.at_[y]!).toNat≠0:=fun e=>by rw[e]at k2;omega
      rw[vj _ (by omega) (by omega)];exact⟨by omega,k2⟩
  have hO:RT V 0:=by refine⟨fun j oK hj hp=> ?_,fun j oK hj hp hi=>by omega⟩;rw[vl]at hj;rw[fJ vs,vj j oK hj,vj _ (by omega) (by omega)];exact h.ord j oK (by omega)
  have e:H.kc=Hp.px n V 0:=by
   have hi:(H.it (n:Int))=H.items[n]! :=el;unfold Hp.kc;rw[hn,er];simp only[fl];rw[aac hz,hi];have hp:=EZ H.items[n]! n (Hp.put { H with items:=H.items.take n,at_:=H.at_.set (H.items[0]!).toNat (-1) } 0 H.items[n]!) 0 (by rw[Hp.eo,tl];omega);have pp:((Hp.put { H with items:=H.items.take n,at_:=H.at_.set (H.items[0]!).toNat (-1) } 0 H.items[n]!).put ((0:Nat):Int) H.items[n]!)=V:=by rw[hV];simp only[Hp.put,Int.toNat_natCast,Int.toNat_zero,List.set_set]
   rw[pp]at hp;exact hp hP
  obtain⟨s1,s2,s3,s4,s5,s6⟩:=Rq n V 0 (by omega) (by omega) hP hO;rw[<-e]at s1 s2 s3 s4 s5 s6;refine⟨⟨s1,s2,by rw[s5,val,s3,vs];exact h.same,by rw[s3,vs];exact h.Yz⟩,by rw[s3,vs],by rw[s4,vl,hn];omega,by rw[s5,val],fun y=>(s6 y).trans ?_⟩;rw[er];constructor
  ·intro hy;obtain⟨j,hj,rfl⟩:=List.mem_iff_getElem.1 hy;have e0:V.items[j]=V.items[j]! :=by simp[hj]
   rw[e0];rw[vl]at hj;by_cases e:j=0
   ·subst e;rw[v0];exact⟨jx.a8 (by omega),fun e=>ajS e.symm⟩
   ·rw[vj j (by omega) hj];exact⟨jx.a8 (by omega),fun e'=>e (h.pc.inj (by omega) h0 e')⟩
  ·rintro⟨hy,dS⟩;obtain⟨j,hj,rfl⟩:=List.mem_iff_getElem.1 hy;have e0:H.items[j]=H.items[j]! :=by simp[hj]
   rw[e0]at dS⊢;by_cases e1:j=0
   ·subst e1;exact absurd rfl dS
   ·by_cases e2:j=n
    ·subst e2;rw[<-v0];exact jx.a8 (by omega)
    ·rw[<-vj j (by omega) (by omega)];exact jx.a8 (by omega)
theorem HI.raise {H:Hp} (h:HI H) {x b:Int} (hb:H.jq x=true) (FL:0<=b) (qk:b<=1099511627776) (iK:H.sc x<=1125899906842624-b):
  HI (H.kb x b)/\(H.kb x b).score=H.score.set x.toNat (H.sc x+b)/\(H.kb x b).items.length=H.items.length/\(H.kb x b).at_.length=H.at_.length/\∀y:Int,y∈(H.kb x b).items↔y∈H.items:=by
 obtain⟨h0,h1⟩:=Hp.dB hb;have hs:=h.same;have hx:x.toNat<H.score.length:=by omega
 obtain⟨K,hK⟩:∃K:Hp,K={ H with score:=H.score.set x.toNat (H.sc x+b) }:=⟨_,rfl⟩
 have ki:K.items=H.items:=by rw[hK]
 have ka:K.at_=H.at_:=by rw[hK]
 have ks:K.score=H.score.set x.toNat (H.sc x+b):=by rw[hK]
 have kx:K.sc x=H.sc x+b:=by unfold Hp.sc;rw[ks];exact fd _ hx
 have ky:∀y:Int,0<=y->y≠x->K.sc y=H.sc y:=fun y hy dS=>by unfold Hp.sc;rw[ks];exact gq _ (by omega)
 have kP:PC K:=⟨fun j hj=>by rw[ki,ka];rw[ki]at hj;exact h.pc.oF j hj,fun j hj=>by rw[ki,ka];rw[ki]at hj;exact h.pc.pos j hj,fun y hy jX=>by rw[ki,ka];rw[ka]at hy jX;exact h.pc.inv y hy jX⟩
 have k0:∀y:Nat,y<K.score.length->0<=K.score[y]! :=by
  intro y hy;rw[ks]at hy⊢;rw[ao]at hy;by_cases e:x.toNat=y
  ·subst e;rw[fd _ hx];have :0<=H.sc x:=h.Yz _ hx;omega
  ·rw[gq _ e];exact h.Yz y hy
 have kl:K.at_.length=K.score.length:=by rw[ka,ks,ao];exact hs
 --of two acH are not x nothing has changed;ajR is ahead of x who oE not
 have gN:∀y z:Int,0<=y->0<=z->y≠x->z≠x->H.bF y z=false->K.bF y z=false:=by
  intro y z hy hz hyx hzx hh;cases hc:K.bF y z with
  |false=>rfl
  |true=>
   rw[eY,ky y hy hyx,ky z hz hzx]at hc;have :H.bF y z=true:=eY.2 hc;rw[this]at hh;cases hh
 have below:∀y:Int,0<=y->y≠x->H.bF y x=false->K.bF y x=false:=by
  intro y hy hyx hh;cases hc:K.bF y x with
  |false=>rfl
  |true=>
   rw[eY,ky y hy hyx,kx]at hc;have :H.bF y x=true:=eY.2 (by omega);rw[this]at hh;cases hh
 have e0:H.kb x b=if 0<=H.pl x then Hp.qs (K.it (H.pl x)) ((H.pl x).toNat+1) K (H.pl x).toNat else K:=by unfold Hp.kb;rw[aae ⟨hb,FL,qk,iK⟩,hK]
 by_cases hp:0<=H.pl x
 ·rw[aae hp]at e0;obtain⟨q1,q2⟩:=h.pc.inv x.toNat (by omega) hp;have ex:((x.toNat:Nat):Int)=x:=by omega
  rw[ex]at q2;have q1':(H.pl x).toNat<K.items.length:=by rw[ki];exact q1
  have q2':H.items[(H.pl x).toNat]! =x:=q2;have e1:K.it (H.pl x)=K.items[(H.pl x).toNat]! :=rfl;have e2:H.kb x b=Hp.N9 ((H.pl x).toNat+1) K (H.pl x).toNat:=by rw[e0,e1,JC _ _ _ _ q1' (by omega) (by rw[wI kP q1'];exact kP),wI kP q1']
  have dS:∀j:Nat,j<H.items.length->j≠(H.pl x).toNat->H.items[j]! ≠x:=fun j hj rG e=>rG (h.pc.inj hj q1 (by rw[e,q2']));have hO:NL K (H.pl x).toNat:=by
   refine⟨fun j oK hj rG=> ?_,fun j oK hj hpj Vr=> ?_⟩
   ·rw[ki]at hj⊢;have r:=h.pc.oF j hj;have rp:=h.pc.oF ((j-1)/2) (by omega);have ho:=h.ord j oK hj;by_cases e:(j-1)/2=(H.pl x).toNat
    ·rw[e,q2']at ho⊢;exact below _ r.1 (dS j hj rG) ho
    ·exact gN _ _ r.1 rp.1 (dS j hj rG) (dS _ (by omega) e) ho
   ·rw[ki]at hj⊢;have r:=h.pc.oF j hj;have rp:=h.pc.oF (((H.pl x).toNat-1)/2) (by omega);have ho:=h.ord j oK hj;rw[hpj]at ho;have ho2:=h.ord (H.pl x).toNat Vr q1;exact gN _ _ r.1 rp.1 (dS j hj (by omega)) (dS _ (by omega) (by omega)) (ix ho ho2)
  obtain⟨s1,s2,s3,s4,s5,s6⟩:=jx ((H.pl x).toNat+1) K (H.pl x).toNat q1' (by omega) kP hO;rw[<-e2]at s1 s2 s3 s4 s5 s6;exact⟨⟨s1,s2,by rw[s5,s3];exact kl,by rw[s3];exact k0⟩,by rw[s3,ks],by rw[s4,ki],by rw[s5,ka],fun y=>by rw[s6 y,ki]⟩
 ·rw[aac hp]at e0;rw[e0];have dS:∀j:Nat,j<H.items.length->H.items[j]! ≠x:=by intro j hj e;have :=h.pc.pos j hj;rw[e]at this;apply hp;unfold Hp.pl;rw[this];omega
  refine⟨⟨kP,fun j oK hj=> ?_,kl,k0⟩,ks,by rw[ki],by rw[ka],fun y=>by rw[ki]⟩;rw[ki]at hj⊢;exact gN _ _ (h.pc.oF j hj).1 (h.pc.oF ((j-1)/2) (by omega)).1 (dS j hj) (dS _ (by omega)) (h.ord j oK hj)
theorem vM {l r:List Int} {j:Nat} (h:j<l.length):(l++r)[j]! =l[j]! :=by simp[ae,cJ h]
theorem La {l:List Int} {m j:Nat} {x:Int} (h:l.length<=j) (h2:j<l.length+m):(l++List.replicate m x)[j]! =x:=by rw[ae,eO h,List.getElem?_replicate,aae (by omega)];rfl
theorem HI.grow {H:Hp} (h:HI H) (m:Nat):HI (H.growBy m):=by
 have hs:=h.same;have Xl:∀y:Int,0<=y->y<H.at_.length->(H.growBy m).sc y=H.sc y:=fun y h0 h1=>vM (by omega);refine⟨⟨fun j hj=> ?_,fun j hj=> ?_,fun y hy jX=> ?_⟩,fun j oK hj=> ?_,?_,fun y hy=> ?_⟩
 ·have :=h.pc.oF j hj;show 0<=H.items[j]! /\H.items[j]! <((H.at_++List.replicate m (-1)).length:Int);rw[aj];omega
 ·have r:=h.pc.oF j hj;show(H.at_++List.replicate m (-1))[(H.items[j]!).toNat]! =j;rw[vM (by omega)];exact h.pc.pos j hj
 ·have iP:0<=(H.at_++List.replicate m (-1))[y]! :=jX;have lE:y<(H.at_++List.replicate m (-1)).length:=hy;rw[aj,aW]at lE;show((H.at_++List.replicate m (-1))[y]!).toNat<H.items.length/\H.items[((H.at_++List.replicate m (-1))[y]!).toNat]! =y;by_cases e:y<H.at_.length
  ·rw[vM e]at iP⊢;exact h.pc.inv y e iP
  ·rw[La (by omega) lE]at iP;omega
 ·have r:=h.pc.oF j hj;have ZY:j<H.items.length:=hj;have rp:=h.pc.oF ((j-1)/2) (by omega);have ho:=h.ord j oK hj;show(H.growBy m).bF H.items[j]! H.items[(j-1)/2]! =false;cases hc:(H.growBy m).bF H.items[j]! H.items[(j-1)/2]! with
  |false=>rfl
  |true=>
   rw[eY,Xl _ r.1 r.2,Xl _ rp.1 rp.2]at hc;have :=eY.2 hc;rw[this]at ho;cases ho
 ·show(H.at_++List.replicate m (-1)).length=(H.score++List.replicate m 0).length;simp[hs]
 ·have lE:y<(H.score++List.replicate m 0).length:=hy;rw[aj,aW]at lE;show 0<=(H.score++List.replicate m 0)[y]!;by_cases e:y<H.score.length
  ·rw[vM e];exact h.Yz y e
  ·rw[La (by omega) lE];omega
theorem HI.none_:HI { items:=[],at_:=[],score:=[] }:=
 ⟨⟨fun j hj=>by simp at hj,fun j hj=>by simp at hj,fun j hj=>by simp at hj⟩,fun j _ hj=>by simp at hj,rfl,fun j hj=>by simp at hj⟩
structure Rc where
 lits:List Int
 jr:Bool
 act:Int
instance:Inhabited Rc:=⟨⟨[],false,0⟩⟩
structure Sv where
 T:Tr
 H:Hp
 vars:Nat
 list:List Rc
 watch:List (List Nat)
 phase:List Bool
 model:List Bool
 core:List Int
 head:Nat
 used:Nat
 bump:Nat
 many:Int
 bQ:Nat
 bad:Bool
 has:Bool
def aS (l:Int):Nat:=if l<0 then(-2*l+1).toNat else(2*l).toNat
def cS (l:List Int) (i j:Nat):List Int:=(l.set i l[j]!).set j l[i]!
namespace Sv
def val (S:Sv) (l:Int):Int:=S.T.lB l
def rc (S:Sv) (n:Nat):Rc:=S.list[n]!
def fY (S:Sv) (c:Nat):List Nat:=S.watch[c]!
def cm (S:Sv) (c:Nat) (l:List Nat):Sv:={ S with watch:=S.watch.set c l }
def ii (S:Sv) (c n:Nat):Sv:=S.cm c (S.fY c++[n])
def eI (S:Sv) (n:Nat) (l:List Int):Sv:={ S with list:=S.list.set n { S.rc n with lits:=l } }
def put (S:Sv) (l r:Int):Sv:={ S with T:=if S.T.ij l=true then S.T.pb l r else S.T }
def deep (S:Sv):Sv:={ S with T:=S.T.xP }
def attach (S:Sv) (l:List Int) (b:Bool):Sv:=
 (({ S with list:=S.list++[⟨l,b,S.used⟩] }:Sv).ii (aS l[0]!) S.list.length).ii (aS l[1]!) S.list.length
def gE (S:Sv) (l:List Int):Nat->Nat->Option Nat
 |0,_=>none
 |f+1,k=>if k<l.length then(if 0<=S.val l[k]! then some k else gE S l f (k+1))else none
def pP (S:Sv) (n:Nat) (l:List Int):Option Nat->Sv×Bool
 |some k=>((S.eI n (cS l 1 k)).ii (aS l[k]!) n,true)
 |none=>(S,false)
def dz (S:Sv) (n:Nat):Sv×Bool:=S.pP n (S.rc n).lits (S.gE (S.rc n).lits (S.rc n).lits.length 2)
def cP (S:Sv) (n:Nat) (off:Int):Sv:=if(S.rc n).lits[0]! =off then S.eI n (cS (S.rc n).lits 0 1)else S
def fZ (S:Sv) (n:Nat):Sv×Bool×Bool:=
 let x:=(S.rc n).lits[0]!
 if 0<S.val x then(S,true,true)
 else if(S.dz n).2=true then((S.dz n).1,false,true)
 else if S.val x<0 then(S,true,false)
 else(S.put x (n+1),true,true)
def dg (S:Sv) (n:Nat) (off:Int):Sv×Bool×Bool:=
 if(S.rc n).lits.length=0 then(S,false,true)else(S.cP n off).fZ n
def bU (off:Int):List Nat->List Nat->Sv->Sv×Option Nat
 |[],keep,S=>(S.cm (aS off) (keep++S.fY (aS off)),none)
 |n::r,keep,S=>
  let q:=S.dg n off;let W9:=if q.2.1=true then keep++[n]else keep
  if q.2.2=true then bU off r W9 q.1 else(q.1.cm (aS off) (W9++r),some n)
def di:Nat->Sv->Sv×Option Nat
 |0,S=>(S,none)
 |f+1,S=>
  if S.head<S.T.lits.length then
   let off:= -(S.T.lits[S.head]!);let q:=bU off (S.fY (aS off)) [] (S.cm (aS off) [])
   match q.2 with
   |some n=>(q.1,some n)
   |none=>di f { q.1 with head:=q.1.head+1 }
  else(S,none)
def follow (S:Sv):Sv×Option Nat:=di (S.vars+1) S
def fC (H:Hp) (x:Int):Hp:=if H.jq x=true/\H.pl x<0 then H.rY x else H
def mg (H:Hp) (x b:Int):Hp:=if H.jq x=true/\0<=b/\b<=1099511627776/\H.sc x<=1125899906842624-b then H.kb x b else H
def dY (level:Int):List Int->Sv->Sv
 |[],S=>S
 |l::r,S=>if S.T.dp (tv l)<=level then S else dY level r { S with phase:=S.phase.set (tv l).toNat (decide (0<l)),H:=fC S.H (tv l) }
def back (S:Sv) (level:Nat):Sv:=
 if S.T.levels.length<=level then S
 else
  let q:=dY level S.T.lits.reverse S
  { q with T:=q.T.df level,head:=min q.head (q.T.df level).lits.length }
structure Gr where
 S:Sv
 seen:List Int
 fP:Int
 bt:List Int
def meet (G:Gr) (l:Int):Gr:=
 let v:=tv l
 if v∈G.seen\/G.S.T.dp v<=0 then G
 else
  let S1:Sv:={ G.S with H:=mg G.S.H v G.S.bump }
  if S1.T.dp v=S1.T.levels.length then{ G with S:=S1,seen:=v::G.seen,fP:=G.fP+1 }
  else{ G with S:=S1,seen:=v::G.seen,bt:=G.bt++[l] }
def meets (skip:Int):List Int->Gr->Gr
 |[],G=>G
 |l::r,G=>meets skip r (if l≠skip then meet G l else G)
def gK (S:Sv) (n:Nat):Sv:={ S with list:=S.list.set n { S.rc n with act:=S.used } }
def eR:Nat->Gr->Int->Int->List Int->Option (Gr×Int)
 |0,_,_,_,_=>none
 |f+1,G,n,skip,rest=>
  let G1:=if 0<=n then meets skip (G.S.rc n.toNat).lits { G with S:=G.S.gK n.toNat }else G
  match rest.dropWhile (fun x=>decide (tv x∉G1.seen))with
  |[]=>none
  |x::r=>
   let G2:={ G1 with fP:=G1.fP-1 }
   if G2.fP=0 then some (G2,x)else eR f G2 (G2.S.T.fy (tv x)-1) x r
def second (T:Tr):Nat->Nat->List Int->Int->List Int×Int
 |0,_,l,ct=>(l,ct)
 |f+1,k,l,ct=>if k<l.length then(if ct<T.dp (tv l[k]!)then second T f (k+1) (cS l 1 k) (T.dp (tv l[k]!))else second T f (k+1) l ct)else(l,ct)
def fL (S:Sv) (n:Nat):Option (Sv×List Int×Int):=
 match eR (S.T.lits.length+1) ⟨S,[],0,[0]⟩ n 0 S.T.lits.reverse with
 |none=>none
 |some (G,x)=>
  let l:=G.bt.set 0 (-x);let q:=second G.S.T l.length 1 l 0
  some (G.S,q.1,q.2)
def ch (S:Sv):Sv:={ S with bump:=min (S.bump+S.bump/16+1) 1073741824 }
def bu (S:Sv) (l:List Int):Sv:=
 if l.length=1 then S.put l[0]! 0
 else{ ((S.attach l true).put l[0]! (S.list.length+1))with many:=S.many+1 }
def conflict (S:Sv) (n:Nat):Option (Sv×Bool):=
 if S.T.levels.length=0 then some ({ S with bad:=true },false)
 else
  match S.fL n with
  |none=>none
  |some (S1,l,level)=>some (((S1.back level.toNat).bu l).ch,true)
def locked (S:Sv) (n:Nat):Bool:=decide (0<S.val (S.rc n).lits[0]!)&&decide (S.T.fy (tv (S.rc n).lits[0]!)=n+1)
def tj (S:Sv):List Nat:=(List.range S.list.length).filter fun n=>(S.rc n).jr&&decide (2<(S.rc n).lits.length)&& !S.locked n
def cg (S:Sv) (n:Nat):Sv:={ S with list:=S.list.set n ⟨[],false,(S.rc n).act⟩,many:=S.many-1 }
def dL (S:Sv):List Int->List Int->List Int->List Int
 |[],_,met=>met
 |l::r,g,met=>
  if tv l∉g\/S.T.dp (tv l)=0 then dL S r g met
  else if S.T.fy (tv l)-1<0 then dL S r g (l::met)
  else dL S r ((S.rc (S.T.fy (tv l)-1).toNat).lits.map tv++g) met
def hJ (met:List Int):List Int->List Int->List Int
 |[],core=>core
 |x::r,core=>hJ met r (if x∈met/\x∉core then core++[x]else core)
def yd (S:Sv) (a:Int) (assume:List Int):Sv:={ S with core:=hJ (dL S S.T.lits.reverse [tv a] [a]) assume S.core }
def cQ:Nat->Sv->Sv×Int
 |0,S=>(S,0)
 |f+1,S=>
  if S.H.items.length=0 then(S,0)
  else
   let v:=S.H.it 0;let S1:Sv:={ S with H:=S.H.kc }
   if S1.val v≠0 then cQ f S1 else(S1,if S1.phase[v.toNat]! =true then v else -v)
def pick (S:Sv):Sv×Int:=cQ (S.H.items.length+1) S
def keep (S:Sv):Sv:={ S with model:=(List.range (S.vars+1)).map fun v:Nat=>decide (0<S.val (v:Int)),has:=true }
def choose (S:Sv):Sv×Int:=if S.pick.2=0 then(S.pick.1.keep,1)else(S.pick.1.deep.put S.pick.2 0,0)
def bz (assume:List Int):Nat->Sv->Sv×Int
 |0,S=>S.choose
 |f+1,S=>
  if S.T.levels.length<assume.length then
   let a:=assume[S.T.levels.length]!
   if S.val a= -1 then(S.yd a assume,2)
   else if S.val a=0 then(S.deep.put a 0,0)
   else bz assume f S.deep
  else S.choose
def aR (S:Sv) (assume:List Int):Sv×Int:=bz assume (assume.length+1) S
def dt (S:Sv) (n next :Nat):Sv:=if next <=n then S.back 0 else S
def iH:Nat->Int->Hp->Hp
 |0,_,H=>H
 |n+1,v,H=>iH n (v+1) (fC H v)
def grow (S:Sv) (n:Nat):Sv:=
 { S with T:=S.T.ew n,H:=iH n (S.vars+1) (S.H.ew n),phase:=S.phase++List.replicate n false,watch:=S.watch++List.replicate (2*n) [],vars:=S.vars+n }
def bare:Sv:={ T:=Tr.fresh.ew 0,H:=Hp.none_.ew 1,vars:=0,list:=[],watch:=[[],[]],phase:=[false],model:=[],core:=[],head:=0,used:=0,bump:=1,many:=0,bQ:=400,bad:=false,has:=false }
def new (vars:Int):Sv:=bare.grow (min (max vars 0) 262143).toNat
end Sv
structure Cw where
 A:Option Addr
 c:Nat
 lits:List Int
 jr:Bool
 act:Int
instance:Inhabited Cw:=⟨⟨none,0,[],false,0⟩⟩
def Cw.rc (x:Cw):Rc:=⟨x.lits,x.jr,x.act⟩
structure Wl where
 A:Option Addr
 c:Nat
 l:List Nat
instance:Inhabited Wl:=⟨⟨none,0,[]⟩⟩
def Wl.val (h:Wl):Value:= .slice h.A h.l.length h.c
def bO (l:List Nat):List Int:=l.map (fun n:Nat=>(n:Int))
theorem bf (l:List Nat):(bO l).length=l.length:=by simp[bO]
theorem pZ (l:List Nat) (i:Nat):(bO l)[i]! =((l[i]! :Nat):Int):=by simp only[bO,ae,aJ];cases l[i]? <;>simp
def fq:List Cw->List Value
 |[]=>[]
 |x::r=> .slice x.A x.lits.length x.c:: .bool x.jr:: .int .i64 x.act::fq r
theorem Nn (cs:List Cw):(fq cs).length=cs.length*3:=by
 induction cs with
 |nil=>rfl
 |cons x r ih=>simp only[fq,cW,ih];omega
theorem No (a b:List Cw):fq (a++b)=fq a++fq b:=by
 induction a with
 |nil=>rfl
 |cons x r ih=>simp[fq,ih]
theorem mS:∀(cs:List Cw) (i:Nat),i<cs.length->(fq cs)[i*3]? =some (.slice (cs[i]!).A (cs[i]!).lits.length (cs[i]!).c)/\(fq cs)[i*3+1]? =some (.bool (cs[i]!).jr)/\(fq cs)[i*3+2]? =some (.int .i64 (cs[i]!).act)
 |[],i,h=>by simp at h
 |x::r,0,h=>by simp[fq]
 |x::r,i+1,h=>by
  simp only[cW]at h;have ih:=mS r i (by omega);have e0:(i+1)*3=i*3+3:=by omega
  simp only[fq,e0];have e1:(x::r)[i+1]! =r[i]! :=by simp
  rw[e1];refine⟨?_,?_,?_⟩
  ·simpa[cM]using ih.1
  ·have :i*3+3+1=(i*3+1)+3:=by omega
   rw[this];simpa[cM]using ih.2.1
  ·have :i*3+3+2=(i*3+2)+3:=by omega
   rw[this];simpa[cM]using ih.2.2
theorem pW:∀(cs:List Cw) (i:Nat) (x:Cw),i<cs.length->(((fq cs).set (i*3) (.slice x.A x.lits.length x.c)).set (i*3+1) (.bool x.jr)).set (i*3+2) (.int .i64 x.act)=fq (cs.set i x)
 |[],i,x,h=>by simp at h
 |y::r,0,x,h=>by simp[fq]
 |y::r,i+1,x,h=>by
  simp only[cW]at h;have ih:=pW r i x (by omega);have e0:(i+1)*3=i*3+1+1+1:=by omega
  have e1:i*3+1+1+1+1=(i*3+1)+1+1+1:=rfl;have e2:i*3+1+1+1+2=(i*3+2)+1+1+1:=rfl;simp only[fq,e0,e1,e2,List.set_cons_succ,ih]
structure aO where
 a:Nat
 tL:eM
 hL:fW
 cA:Option Addr
 cC:Nat
 wA:Option Addr
 wC:Nat
 pA:Option Addr
 pC:Nat
 mA:Option Addr
 mC:Nat
 oA:Option Addr
 oC:Nat
 cs:List Cw
 ws:List Wl
 id:Nat
 cY:Nat->Nat×Nat×Nat
def pM (L:aO) (S:Sv):Array Value:=
 #[.pointer (some ⟨L.tL.a,0,none⟩), .pointer (some ⟨L.hL.a,0,none⟩), .int .i64 S.vars, .slice L.cA L.cs.length L.cC, .slice L.wA L.ws.length L.wC, .slice L.pA S.phase.length L.pC, .slice L.mA S.model.length L.mC, .slice L.oA S.core.length L.oC,
  .int .i64 S.head, .int .i64 S.used, .int .i64 S.bump, .int .i64 S.many, .int .i64 S.bQ, .bool S.bad, .bool S.has]
def Bools (w:World) (A:Option Addr) (c:Nat) (l:List Bool):Prop:=w.ownsRow 0 4 1 (.slice A l.length c) l.length (l.map Value.bool)
def sS (w:World) (A:Option Addr) (c:Nat) (l:List Cw):Prop:=w.ownsRow 0 158 3 (.slice A l.length c) l.length (fq l)
def sR (w:World) (A:Option Addr) (c:Nat) (l:List Wl):Prop:=w.ownsRow 0 22 1 (.slice A l.length c) l.length (l.map Wl.val)
theorem dZ {w:World} {b:Nat} {e:TypeId} {size n m c:Nat} {A:Option Addr} {vs:List Value} (h:w.ownsRow b e size (.slice A m c) n vs):∀k,k∈ak A->k<w.heap.size:=by
 intro k hk;rcases h.2 with⟨h1,_⟩ |⟨g,cap,cur,hv,_,hg,_⟩
 ·simp only[Value.slice.injEq]at h1;rw[h1.1]at hk;simp[ak]at hk
 ·simp only[Value.slice.injEq]at hv;obtain⟨rfl,_⟩:=hv;simp[ak]at hk;subst hk;exact At.lt (t:=e) hg
structure aX (w:World) (L:aO) (S:Sv):Prop where
 obj:At w L.a 122 (pM L S)
 tr:TrAt w L.tL S.T
 hp:cI w L.hL S.H
 iQ:L.hL.A2.isSome=true
 Cb:L.cs.map Cw.rc=S.list
 B9:L.ws.map (·.l)=S.watch
 vt:sS w L.cA L.cC L.cs
 rws:sR w L.wA L.wC L.ws
 vp:Bools w L.pA L.pC S.phase
 yz:Bools w L.mA L.mC S.model
 uQ:Ints w L.oA L.oC S.core
 ql:∀n:Nat,n<L.cs.length->Ints w (L.cs[n]!).A (L.cs[n]!).c (L.cs[n]!).lits
 sD:∀c:Nat,c<L.ws.length->Ints w (L.ws[c]!).A (L.ws[c]!).c (bO (L.ws[c]!).l)
 t0:L.cY L.a=(L.id,0,0)
 t1:∀k,k∈L.tL.fp->L.cY k=(L.id,1,0)
 t2:∀k,k∈L.hL.fp->L.cY k=(L.id,2,0)
 t3:∀k,k∈ak L.cA->L.cY k=(L.id,3,0)
 t4:∀k,k∈ak L.wA->L.cY k=(L.id,4,0)
 t5:∀k,k∈ak L.pA->L.cY k=(L.id,5,0)
 t6:∀k,k∈ak L.mA->L.cY k=(L.id,6,0)
 t7:∀k,k∈ak L.oA->L.cY k=(L.id,7,0)
 t8:∀n:Nat,n<L.cs.length->∀k,k∈ak (L.cs[n]!).A->L.cY k=(L.id,8,n)
 t9:∀c:Nat,c<L.ws.length->∀k,k∈ak (L.ws[c]!).A->L.cY k=(L.id,9,c)
def aO.own (L:aO) (w:World):List Nat:=(List.range w.heap.size).filter fun k=>(L.cY k).1==L.id
theorem aO.bT {L:aO} {w:World} {k:Nat}:k∈L.own w↔k<w.heap.size/\(L.cY k).1=L.id:=by simp[aO.own]
def aO.ext (L L':aO) (w:World):Prop:=L'.a=L.a/\L'.id=L.id/\∀k,k<w.heap.size->(L'.cY k).1=L.id->(L.cY k).1=L.id
theorem aO.cv (L:aO) (w:World):L.ext L w:=⟨rfl,rfl,fun _ _ h=>h⟩
theorem aO.aV {L M N:aO} {w w':World} (h:L.ext M w) (k:M.ext N w') (hw:w.heap.size<=w'.heap.size):L.ext N w:=
 ⟨k.1.trans h.1,k.2.1.trans h.2.1,fun j hj e=>h.2.2 j hj ((k.2.2 j (aK hj hw) (e.trans h.2.1.symm)).trans h.2.1)⟩
theorem aO.aQ {L M:aO} {w w' yx:World} (h:L.ext M w) (h1:Fr (L.own w) w w') (h2:Fr (M.own w') w' yx):Fr (L.own w) w yx:=
 h1.trans h2 fun x hx=>by
  rw[aO.bT]at hx;rcases bv x w.heap.size with hl |hl
  ·left
   rw[aO.bT];exact⟨hl,h.2.2 x hl (hx.2.trans h.2.1)⟩
  ·exact .inr hl
def aO.re (L:aO) (w:World) (t:Nat×Nat):Nat->Nat×Nat×Nat:=fun k=>if k<w.heap.size then L.cY k else(L.id,t)
theorem aO.iG {L:aO} {w:World} {t:Nat×Nat} {k:Nat} (h:k<w.heap.size):L.re w t k=L.cY k:=aae h
theorem aO.Pt {L:aO} {w:World} {t:Nat×Nat} {k:Nat} (h:w.heap.size<=k):L.re w t k=(L.id,t):=aac (by omega)
theorem fc {w w':World} {F:List Nat} {e:TypeId} {size n m c b:Nat} {A:Option Addr} {vs:List Value} (h:w.ownsRow b e size (.slice A m c) n vs) (hf:Fr F w w') (hd:∀k,k∈ak A->k∉F):w'.ownsRow b e size (.slice A m c) n vs:=
 hf.own h fun k hk=>hd k ((jl k).1 hk)
structure afx (w':World) (L:aO) (S:Sv) (P:Nat×Nat->Prop):Prop where
 obj:¬P (0,0)->At w' L.a 122 (pM L S)
 tr:¬P (1,0)->TrAt w' L.tL S.T
 hp:¬P (2,0)->cI w' L.hL S.H
 vt:¬P (3,0)->sS w' L.cA L.cC L.cs
 rws:¬P (4,0)->sR w' L.wA L.wC L.ws
 vp:¬P (5,0)->Bools w' L.pA L.pC S.phase
 yz:¬P (6,0)->Bools w' L.mA L.mC S.model
 uQ:¬P (7,0)->Ints w' L.oA L.oC S.core
 ql:∀n:Nat,n<L.cs.length->¬P (8,n)->Ints w' (L.cs[n]!).A (L.cs[n]!).c (L.cs[n]!).lits
 sD:∀c:Nat,c<L.ws.length->¬P (9,c)->Ints w' (L.ws[c]!).A (L.ws[c]!).c (bO (L.ws[c]!).l)
theorem aX.off {w w':World} {L:aO} {S:Sv} (h:aX w L S) {P:Nat×Nat->Prop} {F:List Nat} (hf:Fr F w w') (hF:∀k,k∈F->k<w.heap.size->∃t,P t/\L.cY k=(L.id,t)):afx w' L S P:=by
 have key:∀{k:Nat} {u:Nat×Nat},k<w.heap.size->L.cY k=(L.id,u)->¬P u->k∉F:=fun hk hl dS hm=>dS (by
  obtain⟨t,ht,h2⟩:=hF _ hm hk;have :=h2.symm.trans hl;simp only[Prod.mk.injEq,true_and]at this;obtain rfl :t=_:=by simpa[Prod.ext_iff]using this
  exact ht)
 refine⟨fun hn=>hf.at_ h.obj (key h.obj.lt h.t0 hn),fun hn=>h.tr.fr hf (fun k hk=>key (h.tr.lt k hk) (h.t1 k hk) hn),fun hn=>h.hp.fr hf (fun k hk=>key (h.hp.lt k hk) (h.t2 k hk) hn),
  fun hn=>fc h.vt hf (fun k hk=>key (dZ h.vt k hk) (h.t3 k hk) hn),fun hn=>fc h.rws hf (fun k hk=>key (dZ h.rws k hk) (h.t4 k hk) hn),
  fun hn=>fc h.vp hf (fun k hk=>key (dZ h.vp k hk) (h.t5 k hk) hn),fun hn=>fc h.yz hf (fun k hk=>key (dZ h.yz k hk) (h.t6 k hk) hn),
  fun hn=>h.uQ.fr hf (fun k hk=>key (h.uQ.lt k hk) (h.t7 k hk) hn),fun n hl hn=>(h.ql n hl).fr hf (fun k hk=>key ((h.ql n hl).lt k hk) (h.t8 n hl k hk) hn),
  fun c hl hn=>(h.sD c hl).fr hf (fun k hk=>key ((h.sD c hl).lt k hk) (h.t9 c hl k hk) hn)⟩
theorem aX.fr {w w':World} {L:aO} {S:Sv} (h:aX w L S) {F:List Nat} (hf:Fr F w w') (hF:∀k,k∈F->k<w.heap.size->(L.cY k).1≠L.id):aX w' L S:=by
 have key:∀{k:Nat} {u:Nat×Nat},k<w.heap.size->L.cY k=(L.id,u)->k∉F:=fun hk hl hm=>hF _ hm hk (by rw[hl]);exact⟨hf.at_ h.obj (key h.obj.lt h.t0),h.tr.fr hf (fun k hk=>key (h.tr.lt k hk) (h.t1 k hk)),h.hp.fr hf (fun k hk=>key (h.hp.lt k hk) (h.t2 k hk)),h.iQ,h.Cb,h.B9,
  fc h.vt hf (fun k hk=>key (dZ h.vt k hk) (h.t3 k hk)),fc h.rws hf (fun k hk=>key (dZ h.rws k hk) (h.t4 k hk)),
  fc h.vp hf (fun k hk=>key (dZ h.vp k hk) (h.t5 k hk)),fc h.yz hf (fun k hk=>key (dZ h.yz k hk) (h.t6 k hk)),
  h.uQ.fr hf (fun k hk=>key (h.uQ.lt k hk) (h.t7 k hk)),fun n hl=>(h.ql n hl).fr hf (fun k hk=>key ((h.ql n hl).lt k hk) (h.t8 n hl k hk)),
  fun c hl=>(h.sD c hl).fr hf (fun k hk=>key ((h.sD c hl).lt k hk) (h.t9 c hl k hk)),h.t0,h.t1,h.t2,h.t3,h.t4,h.t5,h.t6,h.t7,h.t8,h.t9⟩
theorem aX.keep {w w':World} {L:aO} {S:Sv} (h:aX w L S) (hf:Fr [] w w'):aX w' L S:=h.fr hf (fun k hk=>by cases hk)
structure aaJ (L:aO) (cY:Nat->Nat×Nat×Nat):Prop where
 t0:cY L.a=(L.id,0,0)
 t1:∀k,k∈L.tL.fp->cY k=(L.id,1,0)
 t2:∀k,k∈L.hL.fp->cY k=(L.id,2,0)
 t3:∀k,k∈ak L.cA->cY k=(L.id,3,0)
 t4:∀k,k∈ak L.wA->cY k=(L.id,4,0)
 t5:∀k,k∈ak L.pA->cY k=(L.id,5,0)
 t6:∀k,k∈ak L.mA->cY k=(L.id,6,0)
 t7:∀k,k∈ak L.oA->cY k=(L.id,7,0)
 t8:∀n:Nat,n<L.cs.length->∀k,k∈ak (L.cs[n]!).A->cY k=(L.id,8,n)
 t9:∀c:Nat,c<L.ws.length->∀k,k∈ak (L.ws[c]!).A->cY k=(L.id,9,c)
theorem aX.tags {w:World} {L:aO} {S:Sv} (h:aX w L S) (t:Nat×Nat):aaJ L (L.re w t):=by
 refine⟨?_,fun k hk=> ?_,fun k hk=> ?_,fun k hk=> ?_,fun k hk=> ?_,fun k hk=> ?_,fun k hk=> ?_,fun k hk=> ?_,fun n hn k hk=> ?_,fun n hn k hk=> ?_⟩
 ·rw[aO.iG h.obj.lt];exact h.t0
 ·rw[aO.iG (h.tr.lt k hk)];exact h.t1 k hk
 ·rw[aO.iG (h.hp.lt k hk)];exact h.t2 k hk
 ·rw[aO.iG (dZ h.vt k hk)];exact h.t3 k hk
 ·rw[aO.iG (dZ h.rws k hk)];exact h.t4 k hk
 ·rw[aO.iG (dZ h.vp k hk)];exact h.t5 k hk
 ·rw[aO.iG (dZ h.yz k hk)];exact h.t6 k hk
 ·rw[aO.iG (h.uQ.lt k hk)];exact h.t7 k hk
 ·rw[aO.iG ((h.ql n hn).lt k hk)];exact h.t8 n hn k hk
 ·rw[aO.iG ((h.sD n hn).lt k hk)];exact h.t9 n hn k hk
theorem aO.nv {L:aO} {w:World} {t:Nat×Nat} {k:Nat} (h:(k<w.heap.size/\L.cY k=(L.id,t))\/w.heap.size<=k):L.re w t k=(L.id,t):=by
 rcases h with⟨h1,h2⟩ |h1
 ·rw[aO.iG h1,h2]
 ·exact aO.Pt h1
theorem aO.gS {L:aO} {w w':World} {F:List Nat} (hf:Fr F w w') (hF:∀k,k∈F->k<w.heap.size->(L.cY k).1=L.id):Fr (L.own w) w w':=
 hf.mono fun k hk=>by
  rcases bv k w.heap.size with hl |hl
  ·left
   rw[aO.bT];exact⟨hl,hF k hk hl⟩
  ·exact .inr hl
theorem aO.o7 {L:aO} {w:World} {t:Nat×Nat} {k:Nat} (h:k<w.heap.size) (e:(L.re w t k).1=L.id):(L.cY k).1=L.id:=by rwa[aO.iG h]at e
theorem aX.vZ {w w':World} {L:aO} {S:Sv} (h:aX w L S) {tL':eM} {T':Tr} (ht:TrAt w' tL' T') (he:L.tL.ext tL' w) (hf:Fr L.tL.fp w w'):
  ∃L',aX w' L' { S with T:=T' }/\L.ext L' w/\Fr (L.own w) w w':=by
 have hF:∀k,k∈L.tL.fp->k<w.heap.size->L.cY k=(L.id,1,0):=fun k hk _=>h.t1 k hk;have o:=h.off (P:=(· =(1,0))) hf (fun k hk hl=>⟨_,rfl,hF k hk hl⟩);have g:=h.tags (1,0);have ea:=he.1;refine⟨{ L with tL:=tL',cY:=L.re w (1,0) },⟨?_,ht,o.hp (by decide),h.iQ,h.Cb,h.B9,o.vt (by decide),o.rws (by decide),o.vp (by decide),o.yz (by decide),o.uQ (by decide),fun n hn=>o.ql n hn (by simp),fun n hn=>o.sD n hn (by simp),
  g.t0,fun k hk=>aO.nv ((he.2 k hk).imp (fun h1=>⟨h.tr.lt k h1,h.t1 k h1⟩) id),g.t2,g.t3,g.t4,g.t5,g.t6,g.t7,g.t8,g.t9⟩,⟨rfl,rfl,fun k hk e=>aO.o7 hk e⟩,aO.gS hf (fun k hk hl=>by rw[hF k hk hl])⟩
 have :=o.obj (by decide);simp only[pM]at this⊢;rw[ea];exact this
theorem aX.heap {w w':World} {L:aO} {S:Sv} (h:aX w L S) {hL':fW} {H':Hp} (ht:cI w' hL' H') (he:L.hL.ext hL' w) (hf:Fr L.hL.fp w w'):
  ∃L',aX w' L' { S with H:=H' }/\L.ext L' w/\Fr (L.own w) w w':=by
 have hF:∀k,k∈L.hL.fp->k<w.heap.size->L.cY k=(L.id,2,0):=fun k hk _=>h.t2 k hk;have o:=h.off (P:=(· =(2,0))) hf (fun k hk hl=>⟨_,rfl,hF k hk hl⟩);have g:=h.tags (2,0);have ea:=he.1;refine⟨{ L with hL:=hL',cY:=L.re w (2,0) },⟨?_,o.tr (by decide),ht,he.2.2 h.iQ,h.Cb,h.B9,o.vt (by decide),o.rws (by decide),o.vp (by decide),o.yz (by decide),o.uQ (by decide),fun n hn=>o.ql n hn (by simp),fun n hn=>o.sD n hn (by simp),
  g.t0,g.t1,fun k hk=>aO.nv ((he.2.1 k hk).imp (fun h1=>⟨h.hp.lt k h1,h.t2 k h1⟩) id),g.t3,g.t4,g.t5,g.t6,g.t7,g.t8,g.t9⟩,⟨rfl,rfl,fun k hk e=>aO.o7 hk e⟩,aO.gS hf (fun k hk hl=>by rw[hF k hk hl])⟩
 have :=o.obj (by decide);simp only[pM]at this⊢;rw[ea];exact this
theorem aX.top {w w':World} {L L':aO} {S S':Sv} (h:aX w L S) (hf:Fr [L.a] w w') (ho:At w' L.a 122 (pM L' S'))
  (hL:L'.a=L.a/\L'.tL=L.tL/\L'.hL=L.hL/\L'.cA=L.cA/\L'.cC=L.cC/\L'.wA=L.wA/\L'.wC=L.wC/\L'.pA=L.pA/\L'.pC=L.pC/\L'.mA=L.mA/\L'.mC=L.mC/\L'.oA=L.oA/\L'.oC=L.oC/\L'.cs=L.cs/\L'.ws=L.ws/\L'.id=L.id/\L'.cY=L.cY)
  (hS:S'.T=S.T/\S'.H=S.H/\S'.list=S.list/\S'.watch=S.watch/\S'.phase=S.phase/\S'.model=S.model/\S'.core=S.core):aX w' L' S'/\L.ext L' w/\Fr (L.own w) w w':=by
 have hF:∀k,k∈[L.a]->k<w.heap.size->L.cY k=(L.id,0,0):=fun k hk _=>by simp at hk;subst hk;exact h.t0
 have o:=h.off (P:=(· =(0,0))) hf (fun k hk hl=>⟨_,rfl,hF k hk hl⟩);obtain⟨L1,L2,L3,L4,L5,L6,L7,L8,L9,L10,L11,L12,L13,L14,L15,RY,RX⟩:=hL;obtain⟨S1,S2,S3,S4,S5,S6,S7⟩:=hS;refine⟨⟨by rw[L1];exact ho,?_,?_,?_,?_,?_,?_,?_,?_,?_,?_,?_,?_,?_,?_,?_,?_,?_,?_,?_,?_,?_,?_⟩,⟨L1,RY,fun k _ e=>by rwa[RX]at e⟩,aO.gS hf (fun k hk hl=>by rw[hF k hk hl])⟩
 ·rw[L2,S1];exact o.tr (by decide)
 ·rw[L3,S2];exact o.hp (by decide)
 ·rw[L3];exact h.iQ
 ·rw[L14,S3];exact h.Cb
 ·rw[L15,S4];exact h.B9
 ·rw[L4,L5,L14];exact o.vt (by decide)
 ·rw[L6,L7,L15];exact o.rws (by decide)
 ·rw[L8,L9,S5];exact o.vp (by decide)
 ·rw[L10,L11,S6];exact o.yz (by decide)
 ·rw[L12,L13,S7];exact o.uQ (by decide)
 ·rw[L14];exact fun n hn=>o.ql n hn (by simp)
 ·rw[L15];exact fun n hn=>o.sD n hn (by simp)
 ·rw[RX,L1,RY];exact h.t0
 ·rw[RX,L2,RY];exact h.t1
 ·rw[RX,L3,RY];exact h.t2
 ·rw[RX,L4,RY];exact h.t3
 ·rw[RX,L6,RY];exact h.t4
 ·rw[RX,L8,RY];exact h.t5
 ·rw[RX,L10,RY];exact h.t6
 ·rw[RX,L12,RY];exact h.t7
 ·rw[RX,L14,RY];exact h.t8
 ·rw[RX,L15,RY];exact h.t9
theorem kW {α:Type} {l:List α} {i:Nat} {x:α} (h:l[i]? =some x):l.set i x=l:=by
 apply List.ext_getElem?;intro j;rw[List.getElem?_set];split
 ·rename_i e;subst e;split
  ·exact h.symm
  ·rename_i hl;rw[List.getElem?_eq_none (by omega)]
 ·rfl
theorem ef {α:Type} [Inhabited α] (l:List α) (i j:Nat) (x:α):(l.set i x)[j]! =if i=j/\i<l.length then x else l[j]! :=by
 simp only[ae,List.getElem?_set];by_cases h:i=j
 ·subst h;by_cases h2:i<l.length
  ·simp[h2]
  ·simp[h2]
 ·simp[h]
theorem aX.W3 {w w':World} {L:aO} {S:Sv} (h:aX w L S) {n:Nat} (hn:n<L.cs.length) {ls:List Int} {F:List Nat} (hi:Ints w' (L.cs[n]!).A (L.cs[n]!).c ls) (hl:ls.length=(L.cs[n]!).lits.length)
  (hf:Fr F w w') (hF:∀k,k∈F->k<w.heap.size->L.cY k=(L.id,8,n)):∃L',aX w' L' (S.eI n ls)/\L.ext L' w/\Fr (L.own w) w w'/\L'.cs=L.cs.set n { L.cs[n]! with lits:=ls }/\L'.ws=L.ws/\L'.wA=L.wA/\L'.tL=L.tL:=by
 have o:=h.off (P:=(· =(8,n))) hf (fun k hk hl=>⟨_,rfl,hF k hk hl⟩);have qi:∀j:Nat,(L.cs.set n { L.cs[n]! with lits:=ls })[j]! =if n=j/\n<L.cs.length then{ L.cs[n]! with lits:=ls }else L.cs[j]! :=fun j=>ef _ _ _ _;refine⟨{ L with cs:=L.cs.set n { L.cs[n]! with lits:=ls } },⟨?_,o.tr (by simp),o.hp (by simp),h.iQ,?_,h.B9,?_,o.rws (by simp),o.vp (by simp),o.yz (by simp),o.uQ (by simp),?_,fun c hc=>o.sD c hc (by simp),h.t0,h.t1,h.t2,h.t3,h.t4,h.t5,h.t6,h.t7,?_,h.t9⟩,⟨rfl,rfl,fun k _ e=>e⟩,aO.gS hf (fun k hk hl=>by rw[hF k hk hl]),rfl,rfl,rfl,rfl⟩
 ·have :=o.obj (by simp);simp only[pM,Sv.eI,ao]at this⊢;exact this
 ·simp only[Sv.eI,Sv.rc];rw[<-h.Cb,List.map_set];congr 1;simp only[Cw.rc,ae,aJ,af hn,cD,ay]
 ·have :=o.vt (by simp);unfold sS at this⊢;have e:fq (L.cs.set n { L.cs[n]! with lits:=ls })=fq L.cs:=by obtain⟨g0,g1,g2⟩:=mS L.cs n hn;rw[<-pW L.cs n _ hn];simp only;have e0:(fq L.cs).set (n*3) (.slice (L.cs[n]!).A ls.length (L.cs[n]!).c)=fq L.cs:=kW (by rw[hl];exact g0);rw[e0,kW g1,kW g2]
  simp only[ao,e];exact this
 ·intro j hj;simp only[ao]at hj;simp only;rw[qi];by_cases e:n=j
  ·subst e;rw[aae ⟨rfl,hn⟩];exact hi
  ·rw[aac (fun x=>e x.1)];exact o.ql j hj (by simp;omega)
 ·intro j hj k hk;simp only[ao]at hj;simp only at hk;rw[qi]at hk;by_cases e:n=j
  ·subst e;rw[aae ⟨rfl,hn⟩]at hk;exact h.t8 n hn k hk
  ·rw[aac (fun x=>e x.1)]at hk;exact h.t8 j hj k hk
theorem aX.lits {w w':World} {L:aO} {S:Sv} (h:aX w L S) {n:Nat} (hn:n<L.cs.length) {ls:List Int} {F:List Nat} (hi:Ints w' (L.cs[n]!).A (L.cs[n]!).c ls) (hl:ls.length=(L.cs[n]!).lits.length)
  (hf:Fr F w w') (hF:∀k,k∈F->k<w.heap.size->L.cY k=(L.id,8,n)):∃L',aX w' L' (S.eI n ls)/\L.ext L' w/\Fr (L.own w) w w'/\L'.cs=L.cs.set n { L.cs[n]! with lits:=ls }/\L'.ws=L.ws/\L'.wA=L.wA:=by
 obtain⟨L',h1,h2,h3,h4,h5,h6,_⟩:=h.W3 hn hi hl hf hF;exact⟨L',h1,h2,h3,h4,h5,h6⟩
theorem aX.cm {w w1:World} {L:aO} {S:Sv} (h:aX w L S) {c:Nat} (hc:c<L.ws.length) {A':Option Addr} {c':Nat} {l':List Nat} {F:List Nat} (hi:Ints w1 A' c' (bO l'))
  (hf:Fr F w w1) (hF:∀k,k∈F->k<w.heap.size->L.cY k=(L.id,9,c)) (hA:∀k,k∈ak A'->(k<w.heap.size/\L.cY k=(L.id,9,c))\/w.heap.size<=k):
  ∃gw,L.wA=some ⟨gw,0,none⟩/\gw<w.heap.size/\w1.frozen? ⟨gw,c,none⟩=false/\∃L',aX (w1.setCell ⟨gw,c,none⟩ (.slice A' l'.length c')) L' (S.cm c l')/\L.ext L' w/\Fr (L.own w) w (w1.setCell ⟨gw,c,none⟩ (.slice A' l'.length c'))/\L'={ L with ws:=L.ws.set c ⟨A',c',l'⟩,cY:=L.re w (9,c) }:=by
 have o1:=h.off (P:=(· =(9,c))) hf (fun k hk hl=>⟨_,rfl,hF k hk hl⟩);have r1:=o1.rws (by simp);have uZ:∃gw,L.wA=some ⟨gw,0,none⟩/\gw<w.heap.size:=by
  rcases h.rws.2 with⟨_,h2⟩ |⟨g,cap,cur,hv,_,hg,_⟩
  ·omega
  ·simp only[Value.slice.injEq,true_and]at hv;exact⟨g,hv.1,At.lt (t:=22) hg⟩
 obtain⟨gw,hwA,uy⟩:=uZ;have lf:L.cY gw=(L.id,4,0):=h.t4 gw (by rw[hwA];simp[ak]);have r1':=r1;unfold sR at r1;rw[hwA]at r1;have gU:=(World.ownsRow.stored r1 c (.slice A' l'.length c')).1;have bW:Fr (gw::F) w (w1.setCell ⟨gw,c,none⟩ (.slice A' l'.length c')):=(hf.mono (fun k hk=> .inl (by simp[hk]))).setCell (.inl (by simp)) _;have CS:∀k,k∈gw::F->k<w.heap.size->∃t,(t=(9,c)\/t=(4,0))/\L.cY k=(L.id,t):=by
  intro k hk hl;rcases av.1 hk with rfl |hk
  ·exact⟨_, .inr rfl,lf⟩
  ·exact⟨_, .inl rfl,hF k hk hl⟩
 have o:=h.off (P:=fun t=>t=(9,c)\/t=(4,0)) bW CS;have g:=h.tags (9,c);have dS:∀k,k∈ak A'->k≠gw:=by
  rintro k hk rfl;rcases hA k hk with⟨_,h2⟩ |h2
  ·rw[lf]at h2;simp at h2
  ·omega
 have qi:∀j:Nat,(L.ws.set c ⟨A',c',l'⟩)[j]! =if c=j/\c<L.ws.length then⟨A',c',l'⟩else L.ws[j]! :=fun j=>ef _ _ _ _;refine⟨gw,hwA,uy,World.ownsRow.frozenAt r1 c,{ L with ws:=L.ws.set c ⟨A',c',l'⟩,cY:=L.re w (9,c) },⟨?_,o.tr (by simp),o.hp (by simp),h.iQ,h.Cb,?_,o.vt (by simp),?_,o.vp (by simp),o.yz (by simp),o.uQ (by simp),fun n hn=>o.ql n hn (by simp),?_,
  g.t0,g.t1,g.t2,g.t3,g.t4,g.t5,g.t6,g.t7,g.t8,?_⟩,⟨rfl,rfl,fun k hk e=>aO.o7 hk e⟩,aO.gS bW (fun k hk hl=>by obtain⟨t,_,e⟩:=CS k hk hl;rw[e]),rfl⟩
 ·have :=o.obj (by simp);simp only[pM,Sv.cm,ao]at this⊢;exact this
 ·simp only[Sv.cm];rw[<-h.B9,List.map_set]
 ·unfold sR;simp only[ao,List.map_set];rw[hwA];exact gU
 ·intro j hj;simp only[ao]at hj;simp only;rw[qi];by_cases e:c=j
  ·subst e;rw[aae ⟨rfl,hc⟩];exact hi.gN (p:=⟨gw,c,none⟩) (fun hk=>dS _ hk rfl) _
  ·rw[aac (fun x=>e x.1)];exact o.sD j hj (by simp;omega)
 ·intro j hj k hk;simp only[ao]at hj;simp only at hk;rw[qi]at hk;by_cases e:c=j
  ·subst e;rw[aae ⟨rfl,hc⟩]at hk;exact aO.nv (hA k hk)
  ·rw[aac (fun x=>e x.1)]at hk;exact g.t9 j hj k hk
theorem nT (w:World) (l:Int) (h0: -1000000000<=l) (h1:l<=1000000000):
  Calls Tryz.prog 125 #[.int .i64 l] w fun e w'=>e= .returned (.int .i64 (aS l:Nat))/\w=w':=by
 by_cases hn:l<0
 ·have hd:decide (l<0)=true:=aai hn;have hc:Hid ((aS l:Int)= -2*l+1):=by unfold aS Hid;rw[aae hn];omega
  have hk:Hid (∀x:Int,x= -2*l+1->Ending.returned (.int .i64 x)= .returned (.int .i64 (aS l:Nat))):=fun x hx=>by rw[hx,hc.out]
  go_enter Tryz.func125,Tryz.ntmps125;go_wp2_with fail;go_ret;exact⟨hk.out _ (by first |rfl |omega | (simp;omega)),rfl⟩
 ·have hd:decide (l<0)=false:=aah hn;have hc:Hid ((aS l:Int)=2*l):=by unfold aS Hid;rw[aac hn];omega
  have hk:Hid (∀x:Int,x=2*l->Ending.returned (.int .i64 x)= .returned (.int .i64 (aS l:Nat))):=fun x hx=>by rw[hx,hc.out]
  go_enter Tryz.func125,Tryz.ntmps125;go_wp2_with fail;go_ret;exact⟨hk.out _ (by first |rfl |omega | (simp;omega)),rfl⟩
theorem aX.cells {w:World} {L:aO} {S:Sv} (h:aX w L S):
  w.cell? ⟨L.a,0,none⟩=some (.pointer (some ⟨L.tL.a,0,none⟩))/\w.cell? ⟨L.a,1,none⟩=some (.pointer (some ⟨L.hL.a,0,none⟩))/\w.cell? ⟨L.a,2,none⟩=some (.int .i64 S.vars)/\w.cell? ⟨L.a,3,none⟩=some (.slice L.cA L.cs.length L.cC)/\
  w.cell? ⟨L.a,4,none⟩=some (.slice L.wA L.ws.length L.wC)/\w.cell? ⟨L.a,5,none⟩=some (.slice L.pA S.phase.length L.pC)/\w.cell? ⟨L.a,6,none⟩=some (.slice L.mA S.model.length L.mC)/\w.cell? ⟨L.a,7,none⟩=some (.slice L.oA S.core.length L.oC)/\
  w.cell? ⟨L.a,8,none⟩=some (.int .i64 S.head)/\w.cell? ⟨L.a,9,none⟩=some (.int .i64 S.used)/\w.cell? ⟨L.a,10,none⟩=some (.int .i64 S.bump)/\w.cell? ⟨L.a,11,none⟩=some (.int .i64 S.many)/\w.cell? ⟨L.a,12,none⟩=some (.int .i64 S.bQ)/\
  w.cell? ⟨L.a,13,none⟩=some (.bool S.bad)/\w.cell? ⟨L.a,14,none⟩=some (.bool S.has):=by
 have o:=h.obj;refine⟨?_,?_,?_,?_,?_,?_,?_,?_,?_,?_,?_,?_,?_,?_,?_⟩<;>(rw[o.cell];rfl)
theorem wS (w:World) (L:aO) (S:Sv) (h:aX w L S):
  Calls Tryz.prog 81 #[.pointer (some ⟨L.a,0,none⟩)] w fun e w'=>e= .returned (.bool true)/\w=w':=by
 obtain⟨c0,-⟩:=h.cells;clear h;go_enter Tryz.func81,Tryz.ntmps81;go_wp2_with fail;go_ret;exact⟨rfl,rfl⟩
structure Sv.Ok (S:Sv) (m:Nat):Prop where
 vl:S.vars<=262143
 tr:∃R,TRep S.T S.vars R S.T.levels.length
 hi:HI S.H
 hl:S.H.at_.length=S.vars+1
 ph:S.phase.length=S.vars+1
 wl:S.watch.length=2*S.vars+2
 ll:S.list.length<=2199023255552
 wb:∀c n:Nat,n∈S.watch[c]! ->n<S.list.length
 wt:(S.watch.map List.length).sum+m<=2*S.list.length
 lr:∀n:Nat,∀x∈(S.rc n).lits,x≠0/\ -(S.vars:Int)<=x/\x<=S.vars
 ln:∀n:Nat,(S.rc n).lits.length≠1
 lb:∀n:Nat,(S.rc n).lits.length<=1048576
 hd:S.head<=S.T.lits.length
 rs:∀v:Int,0<=S.T.fy v/\S.T.fy v<=S.list.length
theorem Sv.Ok.small {S:Sv} {m:Nat} (ok:S.Ok m):∀v:Int,1<=v->v<S.T.cells.length-> -1<=(S.T.kS v).v/\(S.T.kS v).v<=1:=by obtain⟨R,hR⟩:=ok.tr;exact hR.small
theorem Sv.Ok.lit {S:Sv} {m:Nat} (ok:S.Ok m) {n k:Nat} (hk:k<(S.rc n).lits.length):(S.rc n).lits[k]! ≠0/\ -(S.vars:Int)<=(S.rc n).lits[k]! /\(S.rc n).lits[k]! <=S.vars:=
 ok.lr n _ (by simp only[ae,af hk,ay];exact j5 hk)
theorem gX {x:Int} {v:Nat} (h0: -(v:Int)<=x) (h1:x<=v):aS x<2*v+2:=by unfold aS;split<;>omega
theorem JJ:∀(l:List Nat) (c:Nat),l[c]! <=l.sum
 |[],c=>by simp
 |x::r,0=>by simp
 |x::r,c+1=>by have :=JJ r c;simp only[List.sum_cons];simp at this⊢;omega
theorem Sv.Ok.room {S:Sv} {m:Nat} (ok:S.Ok m) (c:Nat):(S.watch[c]!).length<=4398046511104:=by
 have h1:=JJ (S.watch.map List.length) c;have h2:=ok.wt;have h3:=ok.ll;have e:(S.watch.map List.length)[c]! =(S.watch[c]!).length:=by simp only[ae,aJ];cases S.watch[c]? <;>rfl
 omega
theorem IF {S:Sv} {l:List Int} {f k:Nat} (h:l.length<=k):S.gE l f k=none:=by
 cases f with
 |zero=>rfl
 |succ f=>simp only[Sv.gE];rw[aac (by omega)]
theorem Ri {S:Sv} {l:List Int} {f k:Nat} (h:k<l.length) (hv:¬0<=S.val l[k]!):S.gE l (f+1) k=S.gE l f (k+1):=by simp only[Sv.gE];rw[aae h,aac hv]
theorem Np {S:Sv} {l:List Int} {f k:Nat} (h:k<l.length) (hv:0<=S.val l[k]!):S.gE l (f+1) k=some k:=by simp only[Sv.gE];rw[aae h,aae hv]
theorem aX.qC {w:World} {L:aO} {S:Sv} (h:aX w L S) {n:Nat} (hn:n<L.cs.length):S.rc n=(L.cs[n]!).rc:=by unfold Sv.rc;rw[<-h.Cb];simp only[ae,aJ,af hn,cD,ay]
theorem aX.tk {w:World} {L:aO} {S:Sv} (h:aX w L S) {c:Nat} (hc:c<L.ws.length):S.fY c=(L.ws[c]!).l:=by unfold Sv.fY;rw[<-h.B9];simp only[ae,aJ,af hc,cD,ay]
theorem aX.ot {w:World} {L:aO} {S:Sv} (h:aX w L S):L.cs.length=S.list.length:=by rw[<-h.Cb,aq]
theorem aX.sf {w:World} {L:aO} {S:Sv} (h:aX w L S):L.ws.length=S.watch.length:=by rw[<-h.B9,aq]
theorem aX.qz {w:World} {L:aO} {S:Sv} (h:aX w L S) {n:Nat} (hn:n<L.cs.length):∃g,L.cA=some ⟨g,0,none⟩/\
  w.cell? ⟨g,n*3,none⟩=some (.slice (L.cs[n]!).A (L.cs[n]!).lits.length (L.cs[n]!).c)/\w.cell? ⟨g,n*3+1,none⟩=some (.bool (L.cs[n]!).jr)/\w.cell? ⟨g,n*3+2,none⟩=some (.int .i64 (L.cs[n]!).act):=by
 have r:=h.vt;unfold sS at r;obtain⟨g,hg⟩:∃g,L.cA=some ⟨g,0,none⟩:=by
  rcases r.2 with⟨_,h2⟩ |⟨g,cap,cur,hv,_,hg,_⟩
  ·omega
  ·simp only[Value.slice.injEq,true_and]at hv;exact⟨g,hv.1⟩
 rw[hg]at r;obtain⟨g0,g1,g2⟩:=mS L.cs n hn;have hl:=Nn L.cs;refine⟨g,hg,?_,?_,?_⟩
 ·rw[World.ownsRow.cellAt r (n*3) (by omega)];exact g0
 ·rw[World.ownsRow.cellAt r (n*3+1) (by omega)];exact g1
 ·rw[World.ownsRow.cellAt r (n*3+2) (by omega)];exact g2
theorem aX.Yr {w:World} {L:aO} {S:Sv} (h:aX w L S) {c:Nat} (hc:c<L.ws.length):∃g,L.wA=some ⟨g,0,none⟩/\w.cell? ⟨g,c,none⟩=some (.slice (L.ws[c]!).A (L.ws[c]!).l.length (L.ws[c]!).c)/\w.frozen? ⟨g,c,none⟩=false:=by
 have r:=h.rws;unfold sR at r;obtain⟨g,hg⟩:∃g,L.wA=some ⟨g,0,none⟩:=by
  rcases r.2 with⟨_,h2⟩ |⟨g,cap,cur,hv,_,hg,_⟩
  ·omega
  ·simp only[Value.slice.injEq,true_and]at hv;exact⟨g,hv.1⟩
 rw[hg]at r;refine⟨g,hg,?_,World.ownsRow.frozenAt r c⟩;rw[World.ownsRow.cellAt r c (by omega)];simp only[aJ,af hc,cD,ae,ay,Wl.val]
theorem Fr.bK {w w':World} {F:List Nat} {p:Addr} {v:Value} (h:Fr F w w') (hn:p.block∉F) (hc:w.cell? p=some v):w'.cell? p=some v:=by rw[World.cell?_of_block (h.block p.block (bM hc) hn)];exact hc
theorem kT (l:List Nat) (n:Nat):bO l++[(n:Int)]=bO (l++[n]):=by simp[bO]
def MvP (MV:Sv×Bool) (L:aO) (w:World) (e:Ending) (w':World):Prop:=
 (e= .returned (.bool false)/\MV.2=false/\Fr [] w w')\/(e= .returned (.bool true)/\MV.2=true/\∃L',aX w' L' MV.1/\L.ext L' w/\Fr (L.own w) w w')
def pz (r:Value) (S':Sv) (L:aO) (w:World) (e:Ending) (w':World):Prop:=e= .returned r/\∃L',aX w' L' S'/\L.ext L' w/\Fr (L.own w) w w'
set_option maxRecDepth 100000 in
set_option maxHeartbeats 4000000 in
theorem ui (w:World) (L:aO) (S:Sv) (h:aX w L S) (m:Nat) (ok:S.Ok m) (n:Nat) (hn:n<S.list.length):
  Calls Tryz.prog 198 #[.pointer (some ⟨L.a,0,none⟩), .int .i64 n] w (MvP (S.dz n) L w):=by
 have sl:n<L.cs.length:=by rw[h.ot];exact hn
 have eE:=h.qC sl;obtain⟨-,-,-,-⟩:=h.cells;obtain⟨gc,jv,x0,-,-⟩:=h.qz sl;have gV:=h.ql n sl;have lf:=h.t8 n sl;have yE:=ok.lb n;have jU:=fun k hk=>ok.lit (n:=n) (k:=k) hk;rw[eE]at yE jU;simp only[Cw.rc]at yE jU;obtain⟨⟨A,c,l,b,ac⟩,hx⟩:∃x,L.cs[n]! =x:=⟨_,rfl⟩
 rw[hx]at eE x0 gV yE jU lf;simp only[Cw.rc]at eE x0 gV yE jU lf;have mV:=aa gV;have HH:=aa h;have HV:=aa (fun(u:Ext w) (y:Int) (h0: -9223372036854775808<=y) (h1:y<=9223372036854775807)=>ee u.v L.tL S.T (h.tr.fr u.fr (by simp)) y h0 h1 ok.small);have HVL:=ok.vl;have Jm:=aa jU;have qh:=ok.ll;obtain⟨fk,hfk⟩:∃fk,S.gE l l.length 2=fk:=⟨_,rfl⟩
 have HFK:=aa hfk;have hmv:S.dz n=S.pP n l fk:=by simp only[Sv.dz,eE,hfk]
 have yt:=aa hmv;obtain⟨MV,hMV⟩:∃MV,S.dz n=MV:=⟨_,rfl⟩
 rw[hMV]at yt⊢;have NO:Hid (fk=none->∀W,Fr [] w W->MvP MV L w (.returned (.bool false)) W):=fun h1 W hW=>by subst h1;rw[yt.out];exact .inl ⟨rfl,rfl,hW⟩
 have oh:Hid (∀k,fk=some k->∀W L',aX W L' ((S.eI n (cS l 1 k)).ii (aS l[k]!) n)->L.ext L' w->Fr (L.own w) w W->MvP MV L w (.returned (.bool true)) W):=fun k h1 W L' g1 g2 g3=>by subst h1;rw[yt.out];exact .inr ⟨rfl,rfl,L',g1,g2,g3⟩
 obtain⟨c0,-,-,c3,c4,-⟩:=h.cells;rw[jv]at c3;have vS:=aa c0;have Kg:=h.ot;have HX:=aa hx;have am9:=aa lf;have amo:Hid (L.ws.length=2*S.vars+2):=h.sf.trans ok.wl;have afV:=aa ok.room;have amp:=aa (fun c hc=>h.tk (c:=c) hc);clear hMV hmv hfk eE gV jU h hx lf;go_enter Tryz.func198,Tryz.ntmps198;go_wp2_with fail;clear c0 c3 c4 x0;go_loopg [6] l.length (fun g x6 wr=>∃k:Nat,k+g=l.length+2/\2<=k/\x6= .int .i64 k/\Hid (S.gE l g k=fk)/\Fr [] w wr);case atStart=>exact⟨2,by omega,by omega,rfl,HFK.out,Fr.refl _ _⟩
 case round=>
  obtain⟨k,hk,Tn,rfl,cw,hf⟩:=hrel;have HK:=aa hk;have HF:=aa hf;have oJ:k<=l.length+2:=by omega
  clear hk hf;by_cases bw:k<l.length
  ·obtain⟨f,cX⟩:∃f,gk=f+1:=⟨gk-1,by have :=HK.out;omega⟩
   obtain⟨jX,iP,lE⟩:=Jm.out k bw;obtain⟨gb,hA,uy⟩:=mV.out.pos bw;have cy:=HF.out.aN ((hA▸mV.out:Ints w (some ⟨gb,0,none⟩) c l).cell bw);have c0:=HF.out.aN vS.out;obtain⟨y,hy⟩:∃y,l[k]! =y:=⟨_,rfl⟩
   rw[hy]at jX iP lE cy;have HY:=aa hy;have e0:=Ext.cell c0;have ey:=Ext.cell cy;obtain⟨v,hv⟩:∃v,S.T.lB y=v:=⟨_,rfl⟩
   have HVY:=aa hv;have KV:=aa (fun u:Ext wr=>HV.out ⟨u.v,HF.out.ag u.fr⟩ y (by omega) (by omega));simp only[hv]at KV;clear hy hv;subst hA;by_cases Oj:0<=v
   ·have hd:decide (0<=v)=true:=aai Oj;have HKK:Hid (fk=some k):=by have :=cw.out;rw[cX,Np bw (by unfold Sv.val;rw[HY.out,HVY.out];exact Oj)]at this;exact this.symm
    go_wp2_with fail;refine au (by kernel_rfl) (by kernel_rfl) ?_;repeat (go_big_quiet_step (exact bh (KV.out _)))
    refine aak ?_;rintro w2 ⟨u2,b8⟩;have bj:Hid (Fr [] wr w2):=b8▸u2.fr;clear b8 u2;clear e0 ey c0 cy;have oo:=aa (HF.out.ag bj.out);clear HF bj KV;have cy:=oo.out.aN (mV.out.cell bw);have c1:=oo.out.aN (mV.out.cell (i:=1) (by omega));rw[HY.out]at cy;obtain⟨z,hz⟩:∃z,l[1]! =z:=⟨_,rfl⟩
    rw[hz]at c1;have HZ:=aa hz;clear hz;have f1:=(mV.out.fr oo.out (by simp)).frozen 1;have fk':=(mV.out.fr oo.out (by simp)).frozen k;go_upto_region 6 with fail;go_region;go_upto_region 7 with fail;obtain⟨W,hW⟩:∃W,((w2.setCell ⟨gb,1,none⟩ (.int .i64 y)).setCell ⟨gb,k,none⟩ (.int .i64 z)).drew=W:=⟨_,rfl⟩
    rw[hW];have hIW:Ints W (some ⟨gb,0,none⟩) c (cS l 1 k):=by have :=(((mV.out.fr oo.out (by simp)).eu 1 y).eu k z).drew;rw[hW]at this;unfold cS;rw[HY.out,HZ.out];exact this
    have hFW:Fr [gb] w2 W:=hW▸(((Fr.refl [gb] w2).setCell (.inl (by simp)) _).setCell (.inl (by simp)) _).drew;have hlen:(cS l 1 k).length=l.length:=(by simp[cS])
    have h2:=HH.out.keep oo.out;obtain⟨L1,h1,td,cX,B3,Ml,akb⟩:=h2.lits (n:=n) (by omega) (ls:=cS l 1 k) (F:=[gb]) (by rw[HX.out];exact hIW) (by rw[HX.out];exact hlen) hFW (fun j hj _=>by simp at hj;subst hj;exact am9.out _ (by simp[ak]));have Nc:aS y<L1.ws.length:=by have :=gX (v:=S.vars) iP lE;rw[Ml,amo.out];exact this
    obtain⟨rH,VJ⟩:∃rH,aS y=rH:=⟨_,rfl⟩
    have KC:=aa (fun W'=>nT W' y (by omega) (by omega));have TD:=aa VJ;simp only[VJ]at KC;rw[VJ]at Nc;obtain⟨gw,uZ,sw,fw⟩:=h1.Yr Nc;have CO:=h1.sD rH Nc;have Ou:=afV.out rH;have uU:S.fY rH=(L1.ws[rH]!).l:=by rw[Ml];exact amp.out rH (by rw[<-Ml];exact Nc)
    unfold Sv.fY at uU;rw[uU]at Ou;have ZD:∀j,j∈ak (L1.ws[rH]!).A->L1.cY j=(L1.id,9,rH):=h1.t9 rH Nc;obtain⟨⟨A9,c9,l9⟩,GS⟩:∃x,L1.ws[rH]! =x:=⟨_,rfl⟩
    have HX9:=aa GS;rw[GS]at sw CO Ou uU ZD;simp only at sw CO Ou uU ZD;have HW9:Hid (S.watch[rH]! =l9):=uU;obtain⟨s0,-,-,-,s4,-⟩:=h1.cells;rw[uZ,td.1,Ml]at s4;have HN0:Hid (L.a∉ak A9):=fun hm=>by have e1:=ZD _ hm;rw[<-td.1,h1.t0]at e1;simp at e1
    have th:Hid (gb∉ak A9):=fun hm=>by have e1:=ZD _ hm;have e2:=h1.t8 n (by rw[B3];simp;omega) gb (by rw[B3,ef,aae ⟨rfl,by omega⟩,HX.out];simp[ak]);rw[e2]at e1;simp at e1
    have jw:Hid (gw∉ak A9):=fun hm=>by have e1:=ZD _ hm;have e2:=h1.t4 gw (by rw[uZ];simp[ak]);rw[e2]at e1;simp at e1
    have s1:W.cell? ⟨gb,1,none⟩=some (.int .i64 y):=by rw[hIW.cell (i:=1) (by omega)];unfold cS;rw[HY.out,HZ.out];simp only[ae];rw[List.getElem?_set_ne (by omega),List.getElem?_set_self (by omega)];rfl
    have CF:=aa s4;have NX:=aa s1;have tZ:=aa sw;have abm:=aa fw;have CX:=aa CO;have HN9:=aa ZD;have H1:=aa h1;have fa:=aa (aO.aV (aO.cv L w) (⟨td.1,td.2.1,fun j hj e=>td.2.2 j (aK hj oo.out.size) e⟩:L.ext L1 w) (ap _));have dI:=aa (aO.aQ (aO.cv L w) (oo.out.mono (fun j hj=>by cases hj)) cX);have abv:Hid (rH<L1.ws.length):=Nc;have asR:rH<L.ws.length:=by rw[<-Ml];exact Nc
    have zd:(1:Int)<l.length:=(by omega)
    have aeb:l9.length<17592186044416:=(by omega)
    have abi:=aa aeb;have anr:Hid (Fr (ak A9) W W):=Fr.refl _ _;have HGW:=aa uZ;clear uZ Ml akb Nc;clear hW hIW hFW hlen h2 td cX B3 CO Ou uU ZD GS s0 s4 s1 sw fw h1 cy c1 f1 fk' VJ aeb;refine aam ?_;refine bi (fun w':World=>Fr (ak A9) W w') 22 (by kernel_rfl) (anr.out.drew) (fun cZ=> ?_);apply TB 15 [(0,[]),(1,[]),(2,[]),(3,[3,22]),(4,[]),(5,[]),(6,[6,22]),(8,[]),(9,[]),(10,[]),(11,[11,22]),(12,[]),(13,[]),(14,[14,22]),(18,[])];kernel_rfl;rfl;· (repeat (apply eH;rfl;rfl;(· intro w bl;(try(have bl:=bl.resolve_left (aF _ _);(have s4:=bl.bK HN0.out CF.out;have s1:=bl.bK th.out NX.out;have sw:=bl.bK jw.out tZ.out)));go_simp<;>with_reducible rfl);try simp only[Act.put,q5,q6,q7]));exact eG
    exact cZ;intro cZ;have aw:=cZ.resolve_left (by decide);refine bJ (rs:=[7,19]) (by kernel_rfl) (by simp) ?_;refine aZ.cons (o:= ?ai7) ?UO ?GZ ?_;case UO=>rfl
    case GZ=>
     intro K hK
     (go_simp;refine(KC.out _).mono ?_;rintro e w5 ⟨rfl,rfl⟩;dsimp only)
     refine hK.out _ _ (.inr ?_) (fun mQ=> ?_)
     ·first |exact aw.ag kG |exact aw.alloc _ |exact aw
     clear hK K;try simp only[Act.put,q5,q6,q7]
     have aw:=mQ.resolve_left (by decide);refine bJ (rs:=[15,19]) (by kernel_rfl) (by simp) ?_;refine aZ.cons (o:= ?ai6) ?UN ?GY ?_;case UN=>rfl
     case GY=>
      intro K hK
      (go_simp;refine(KC.out _).mono ?_;rintro e w5 ⟨rfl,rfl⟩;dsimp only)
      refine hK.out _ _ (.inr ?_) (fun ie=> ?_)
      ·first |exact aw.ag kG |exact aw.alloc _ |exact aw
      clear hK K;try simp only[Act.put,q5,q6,q7]
      apply TB 2 [(16,[]),(17,[17,22])];kernel_rfl;rfl;· (repeat (apply eH;rfl;rfl;(· intro w bl;(try(have bl:=bl.resolve_left (aF _ _);(have s4:=bl.bK HN0.out CF.out;have s1:=bl.bK th.out NX.out;have sw:=bl.bK jw.out tZ.out)));go_simp<;>with_reducible rfl);try simp only[Act.put,q5,q6,q7]));exact eG
      exact ie;intro ie;refine R2 19 (by kernel_rfl) (by rfl) ie fun K hK aw=> ?_;go_simp;refine hK.out _ _ (.inr ?_) (fun EM=> ?_)
      ·first |exact aw.ag kG |exact aw.alloc _ |exact aw
      clear hK K;try simp only[Act.put,q5,q6,q7]
      refine R2 20 (by kernel_rfl) (by rfl) EM fun K hK aw=> ?_
      (refine bV rfl _ _ rfl A9 c9 (bO l9) _ rfl (bf l9).symm ?Mz _ 1 n rfl ?Ik (by rw[bf];exact abi.out) ?_;(case Mz=>first |exact CX.out.drew.alloc _ |exact CX.out.alloc _ |exact CX.out);(case Ik=>simp);intro gA cA wA M3 kG M4 hsA)
      refine hK.out _ _ (.inr ?_) (fun gD=> ?_)
      ·first |exact aw.ag kG |exact aw.alloc _ |exact aw
      clear hK K;try simp only[Act.put,q5,q6,q7]
      apply TB 1 [(21,[])];kernel_rfl;rfl;· (repeat (apply eH;rfl;rfl;(· intro w bl;go_simp<;>with_reducible rfl);try simp only[Act.put,q5,q6,q7]));exact eG
      exact gD;intro gD;refine R2 22 (by kernel_rfl) (by rfl) gD fun K hK aw=> ?_
      (have sb:=aw.bK jw.out tZ.out;have fb:World.frozen? _ _=_:=(World.frozen?_of_block (aw.block gw (bM tZ.out) jw.out)).trans abm.out;go_simp)
      refine hK.out _ _ (.inl rfl) (fun EL=> ?_);clear hK K;try simp only[Act.put,q5,q6,q7]
      refine aD (by kernel_rfl) ?_ _;refine NoPanic.normal ?_;have ou:W.heap.size<=wA.heap.size:=aw.size;have QJ:Ints wA (some ⟨gA,0,none⟩) cA (bO (l9++[n])):=by rw[<-kT];exact M3
      obtain⟨IA,fE,_,_,L2,h2,jM,bW,_⟩:=H1.out.cm abv.out QJ aw (fun j hj _=>HN9.out j hj) (fun j hj=>by
       simp[ak]at hj;subst hj;rcases M4 with h5 |h5
       ·exact .inl ⟨(CX.out.lt _ h5),HN9.out _ h5⟩
       ·right
        rw[h5];first |exact ap _ | (simp))
      obtain rfl :gw=IA:=by rw[HGW.out]at fE;simpa using fE
      simp only[aj,bN]at h2 bW;have Jg:Hid ((S.eI n (cS l 1 k)).cm rH (l9++[n])=(S.eI n (cS l 1 k)).ii (aS l[k]!) n):=by rw[HY.out,TD.out];unfold Sv.ii Sv.fY Hid;show _=Sv.cm _ _ (S.watch[rH]! ++[n]);rw[HW9.out]
      rw[Jg.out]at h2;have Ea:w.heap.size<=W.heap.size:=dI.out.size;have na:=aa (oh.out k HKK.out _ L2 h2 (aO.aV fa.out jM Ea) (aO.aQ fa.out dI.out bW));go_wp2_with fail;go_ret;exact na.out
     refine aZ.cons (o:= ?ai5) ?UM ?Y7 aZ.nil;case UM=>rfl
     intro K hK;go_simp;refine hK.out _ _ (.inr ?_) (fun ie=> ?_)
     ·first |exact aw.ag kG |exact aw.alloc _ |exact aw
     clear hK K;try simp only[Act.put,q5,q6,q7]
     refine R2 15 (by kernel_rfl) (by rfl) ie fun K hK aw=> ?_
     (go_simp;refine(KC.out _).mono ?_;rintro e w5 ⟨rfl,rfl⟩;dsimp only)
     refine hK.out _ _ (.inr ?_) (fun kh=> ?_)
     ·first |exact aw.ag kG |exact aw.alloc _ |exact aw
     clear hK K;try simp only[Act.put,q5,q6,q7]
     apply TB 2 [(16,[]),(17,[17,22])];kernel_rfl;rfl;· (repeat (apply eH;rfl;rfl;(· intro w bl;(try(have bl:=bl.resolve_left (aF _ _);(have s4:=bl.bK HN0.out CF.out;have s1:=bl.bK th.out NX.out;have sw:=bl.bK jw.out tZ.out)));go_simp<;>with_reducible rfl);try simp only[Act.put,q5,q6,q7]));exact eG
     exact kh;intro kh;refine R2 20 (by kernel_rfl) (by rfl) kh fun K hK aw=> ?_
     (refine bV rfl _ _ rfl A9 c9 (bO l9) _ rfl (bf l9).symm ?My _ 1 n rfl ?Ij (by rw[bf];exact abi.out) ?_;(case My=>first |exact CX.out.drew.alloc _ |exact CX.out.alloc _ |exact CX.out);(case Ij=>simp);intro gA cA wA M3 kG M4 hsA)
     refine hK.out _ _ (.inr ?_) (fun gD=> ?_)
     ·first |exact aw.ag kG |exact aw.alloc _ |exact aw
     clear hK K;try simp only[Act.put,q5,q6,q7]
     apply TB 1 [(21,[])];kernel_rfl;rfl;· (repeat (apply eH;rfl;rfl;(· intro w bl;go_simp<;>with_reducible rfl);try simp only[Act.put,q5,q6,q7]));exact eG
     exact gD;intro gD;refine R2 22 (by kernel_rfl) (by rfl) gD fun K hK aw=> ?_
     (have sb:=aw.bK jw.out tZ.out;have fb:World.frozen? _ _=_:=(World.frozen?_of_block (aw.block gw (bM tZ.out) jw.out)).trans abm.out;go_simp)
     refine hK.out _ _ (.inl rfl) (fun EL=> ?_);clear hK K;try simp only[Act.put,q5,q6,q7]
     refine aD (by kernel_rfl) ?_ _;refine NoPanic.normal ?_;have ou:W.heap.size<=wA.heap.size:=aw.size;have QJ:Ints wA (some ⟨gA,0,none⟩) cA (bO (l9++[n])):=by rw[<-kT];exact M3
     obtain⟨IA,fE,_,_,L2,h2,jM,bW,_⟩:=H1.out.cm abv.out QJ aw (fun j hj _=>HN9.out j hj) (fun j hj=>by
      simp[ak]at hj;subst hj;rcases M4 with h5 |h5
      ·exact .inl ⟨(CX.out.lt _ h5),HN9.out _ h5⟩
      ·right
       rw[h5];first |exact ap _ | (simp))
     obtain rfl :gw=IA:=by rw[HGW.out]at fE;simpa using fE
     simp only[aj,bN]at h2 bW;have Jg:Hid ((S.eI n (cS l 1 k)).cm rH (l9++[n])=(S.eI n (cS l 1 k)).ii (aS l[k]!) n):=by rw[HY.out,TD.out];unfold Sv.ii Sv.fY Hid;show _=Sv.cm _ _ (S.watch[rH]! ++[n]);rw[HW9.out]
     rw[Jg.out]at h2;have Ea:w.heap.size<=W.heap.size:=dI.out.size;have na:=aa (oh.out k HKK.out _ L2 h2 (aO.aV fa.out jM Ea) (aO.aQ fa.out dI.out bW));go_wp2_with fail;go_ret;exact na.out
    refine aZ.cons (o:= ?ai4) ?UL ?Y6 aZ.nil;case UL=>rfl
    intro K hK;go_simp;refine hK.out _ _ (.inr ?_) (fun mQ=> ?_)
    ·first |exact aw.ag kG |exact aw.alloc _ |exact aw
    clear hK K;try simp only[Act.put,q5,q6,q7]
    refine R2 7 (by kernel_rfl) (by rfl) mQ fun K hK aw=> ?_
    (go_simp;refine(KC.out _).mono ?_;rintro e w5 ⟨rfl,rfl⟩;dsimp only)
    refine hK.out _ _ (.inr ?_) (fun ie=> ?_)
    ·first |exact aw.ag kG |exact aw.alloc _ |exact aw
    clear hK K;try simp only[Act.put,q5,q6,q7]
    refine R2 15 (by kernel_rfl) (by rfl) ie fun K hK aw=> ?_
    (go_simp;refine(KC.out _).mono ?_;rintro e w5 ⟨rfl,rfl⟩;dsimp only)
    refine hK.out _ _ (.inr ?_) (fun kh=> ?_)
    ·first |exact aw.ag kG |exact aw.alloc _ |exact aw
    clear hK K;try simp only[Act.put,q5,q6,q7]
    apply TB 2 [(16,[]),(17,[17,22])];kernel_rfl;rfl;· (repeat (apply eH;rfl;rfl;(· intro w bl;(try(have bl:=bl.resolve_left (aF _ _);(have s4:=bl.bK HN0.out CF.out;have s1:=bl.bK th.out NX.out;have sw:=bl.bK jw.out tZ.out)));go_simp<;>with_reducible rfl);try simp only[Act.put,q5,q6,q7]));exact eG
    exact kh;intro kh;refine R2 20 (by kernel_rfl) (by rfl) kh fun K hK aw=> ?_
    (refine bV rfl _ _ rfl A9 c9 (bO l9) _ rfl (bf l9).symm ?Mx _ 1 n rfl ?Ii (by rw[bf];exact abi.out) ?_;(case Mx=>first |exact CX.out.drew.alloc _ |exact CX.out.alloc _ |exact CX.out);(case Ii=>simp);intro gA cA wA M3 kG M4 hsA)
    refine hK.out _ _ (.inr ?_) (fun gD=> ?_)
    ·first |exact aw.ag kG |exact aw.alloc _ |exact aw
    clear hK K;try simp only[Act.put,q5,q6,q7]
    apply TB 1 [(21,[])];kernel_rfl;rfl;· (repeat (apply eH;rfl;rfl;(· intro w bl;go_simp<;>with_reducible rfl);try simp only[Act.put,q5,q6,q7]));exact eG
    exact gD;intro gD;refine R2 22 (by kernel_rfl) (by rfl) gD fun K hK aw=> ?_
    (have sb:=aw.bK jw.out tZ.out;have fb:World.frozen? _ _=_:=(World.frozen?_of_block (aw.block gw (bM tZ.out) jw.out)).trans abm.out;go_simp)
    refine hK.out _ _ (.inl rfl) (fun EL=> ?_);clear hK K;try simp only[Act.put,q5,q6,q7]
    refine aD (by kernel_rfl) ?_ _;refine NoPanic.normal ?_;have ou:W.heap.size<=wA.heap.size:=aw.size;have QJ:Ints wA (some ⟨gA,0,none⟩) cA (bO (l9++[n])):=by rw[<-kT];exact M3
    obtain⟨IA,fE,_,_,L2,h2,jM,bW,_⟩:=H1.out.cm abv.out QJ aw (fun j hj _=>HN9.out j hj) (fun j hj=>by
     simp[ak]at hj;subst hj;rcases M4 with h5 |h5
     ·exact .inl ⟨(CX.out.lt _ h5),HN9.out _ h5⟩
     ·right
      rw[h5];first |exact ap _ | (simp))
    obtain rfl :gw=IA:=by rw[HGW.out]at fE;simpa using fE
    simp only[aj,bN]at h2 bW;have Jg:Hid ((S.eI n (cS l 1 k)).cm rH (l9++[n])=(S.eI n (cS l 1 k)).ii (aS l[k]!) n):=by rw[HY.out,TD.out];unfold Sv.ii Sv.fY Hid;show _=Sv.cm _ _ (S.watch[rH]! ++[n]);rw[HW9.out]
    rw[Jg.out]at h2;have Ea:w.heap.size<=W.heap.size:=dI.out.size;have na:=aa (oh.out k HKK.out _ L2 h2 (aO.aV fa.out jM Ea) (aO.aQ fa.out dI.out bW));go_wp2_with fail;go_ret;exact na.out
   ·have hd:decide (0<=v)=false:=aah Oj;have FS:Hid (S.gE l f (k+1)=fk):=by have :=cw.out;rw[cX,Ri bw (by unfold Sv.val;rw[HY.out,HVY.out];exact Oj)]at this;exact this
    go_wp2_with fail;refine au (by kernel_rfl) (by kernel_rfl) ?_;repeat (go_big_quiet_step (exact bh (KV.out _)))
    refine aak ?_;rintro w2 ⟨u2,b8⟩;have bj:Hid (Fr [] wr w2):=b8▸u2.fr;clear b8 u2;clear e0 ey c0 cy;go_wp2_with fail;go_roundg f;case measure=>omega
    case rel=>exact⟨k+1,by have :=HK.out;omega,by omega,by go_num,FS.out,HF.out.ag bj.out⟩
  ·have FS:Hid (fk=none):=by have :=cw.out;rw[IF (by omega)]at this;exact this.symm
   go_wp2_with fail;go_ret;exact NO.out FS.out _ HF.out
theorem fO (l:List Int) (i j:Nat):(cS l i j).length=l.length:=by simp[cS]
theorem get_mem {l:List Int} {i:Nat} (h:i<l.length):l[i]! ∈l:=by simp only[ae,af h,ay];exact j5 h
theorem rR {l:List Int} {i j:Nat} (hi:i<l.length) (hj:j<l.length) {x:Int} (h:x∈cS l i j):x∈l:=by
 unfold cS at h;rcases List.mem_or_eq_of_mem_set h with h |rfl
 ·rcases List.mem_or_eq_of_mem_set h with h |rfl
  ·exact h
  ·exact get_mem hj
 ·exact get_mem hi
theorem mG {l:List Int} {i j k:Nat} (hi:i<l.length) (hj:j<l.length) (hk:k<l.length):(cS l i j)[k]! =if k=j then l[i]! else if k=i then l[j]! else l[k]! :=by
 unfold cS;rw[ef,ef];by_cases h1:k=j
 ·subst h1;simp[hk]
 ·rw[aac (by omega),aac h1];by_cases h2:k=i
  ·subst h2;simp[hk]
  ·rw[aac (by omega),aac h2]
namespace Sv
theorem lR (S:Sv) (n j:Nat) (l:List Int):(S.eI n l).rc j=if n=j/\n<S.list.length then{ S.rc n with lits:=l }else S.rc j:=by unfold rc eI;exact ef _ _ _ _
theorem nD {S:Sv} {n:Nat} (h:S.list.length<=n):S.rc n=⟨[],false,0⟩:=by unfold rc;simp only[ae,List.getElem?_eq_none h];rfl
theorem Ok.eI {S:Sv} {m:Nat} (ok:S.Ok m) {n:Nat} {l:List Int} (hl:l.length=(S.rc n).lits.length) (hm:∀x∈l,x∈(S.rc n).lits):(S.eI n l).Ok m:=by
 refine⟨ok.vl,ok.tr,ok.hi,ok.hl,ok.ph,ok.wl,by simpa[Sv.eI]using ok.ll,fun c k h=>by simpa[Sv.eI]using ok.wb c k h,by simpa[Sv.eI]using ok.wt,fun k x hx=> ?_,fun k=> ?_,fun k=> ?_,ok.hd,fun v=>by simpa[Sv.eI]using ok.rs v⟩
 ·rw[lR]at hx;split at hx
  ·exact ok.lr n x (hm x hx)
  ·exact ok.lr k x hx
 ·rw[lR];split
  ·simp only[hl];exact ok.ln n
  ·exact ok.ln k
 ·rw[lR];split
  ·simp only[hl];exact ok.lb n
  ·exact ok.lb k
theorem JI:∀(l:List Nat) (c x:Nat),c<l.length->(l.set c x).sum+l[c]! =l.sum+x
 |[],c,x,h=>by simp at h
 |y::r,0,x,h=>by simp;omega
 |y::r,c+1,x,h=>by
  have :=JI r c x (by simpa using h);simp only[List.set_cons_succ,List.sum_cons];have e:(y::r)[c+1]! =r[c]! :=by simp
  rw[e];omega
theorem acC (S:Sv) (c:Nat) (l:List Nat) (hc:c<S.watch.length):((S.cm c l).watch.map List.length).sum+(S.fY c).length=(S.watch.map List.length).sum+l.length:=by
 have h:=JI (S.watch.map List.length) c l.length (by simpa using hc);have e:(S.watch.map List.length)[c]! =(S.fY c).length:=by unfold fY;simp only[ae,aJ,af hc,cD,ay]
 rw[e]at h;simpa[cm,List.map_set]using h
theorem Ok.cm {S:Sv} {m m':Nat} (ok:S.Ok m) {c:Nat} {l:List Nat} (hc:c<S.watch.length) (hl:∀n∈l,n<S.list.length) (hm:l.length+m'<=(S.fY c).length+m):(S.cm c l).Ok m':=by
 have hw:=acC S c l hc;have ht:=ok.wt;refine⟨ok.vl,ok.tr,ok.hi,ok.hl,ok.ph,by simpa[Sv.cm]using ok.wl,ok.ll,fun k n h=> ?_,?_,ok.lr,ok.ln,ok.lb,ok.hd,ok.rs⟩
 ·unfold Sv.cm at h;simp only at h;rw[ef]at h;split at h
  ·exact hl n h
  ·exact ok.wb k n h
 ·have :(S.cm c l).list=S.list:=rfl;rw[this];omega
theorem Ok.ii {S:Sv} {m:Nat} (ok:S.Ok (m+1)) {c n:Nat} (hc:c<S.watch.length) (hn:n<S.list.length):(S.ii c n).Ok m:=by
 refine ok.cm hc (fun j hj=> ?_) (by simp;omega);rcases ah.1 hj with h |h
 ·exact ok.wb c j h
 ·simp at h;omega
theorem Ok.less {S:Sv} {m m':Nat} (ok:S.Ok m) (h:m'<=m):S.Ok m':=⟨ok.vl,ok.tr,ok.hi,ok.hl,ok.ph,ok.wl,ok.ll,ok.wb,by have :=ok.wt;omega,ok.lr,ok.ln,ok.lb,ok.hd,ok.rs⟩
theorem Ok.cP {S:Sv} {m:Nat} (ok:S.Ok m) (n:Nat) (off:Int):(S.cP n off).Ok m:=by
 unfold Sv.cP;split
 ·by_cases h:(S.rc n).lits.length=0
  ·refine ok.eI (fO _ _ _) (fun x hx=> ?_);have :(cS (S.rc n).lits 0 1)=[]:=aP (by rw[fO];exact h);rw[this]at hx;cases hx
  ·have :=ok.ln n;exact ok.eI (fO _ _ _) (fun x hx=>rR (by omega) (by omega) hx)
 ·exact ok
theorem sC {S:Sv} {l:List Int}:∀(f k j:Nat),S.gE l f k=some j->k<=j/\j<l.length/\0<=S.val l[j]!
 |0,k,j,h=>by simp[gE]at h
 |f+1,k,j,h=>by
  simp only[gE]at h;split at h
  ·split at h
   ·rename_i h1 h2;simp only[Option.some.injEq]at h;subst h;exact⟨ap _,h1,h2⟩
   ·have :=sC f (k+1) j h;exact⟨by omega,this.2⟩
  ·cases h
theorem Ok.Af {S:Sv} {m:Nat} (ok:S.Ok (m+1)) {n:Nat} (hn:n<S.list.length) (h:(S.dz n).2=true):(S.dz n).1.Ok m:=by
 unfold Sv.dz at h⊢;cases hk:S.gE (S.rc n).lits (S.rc n).lits.length 2 with
 |none=>rw[hk]at h;cases h
 |some k=>
  obtain⟨h1,h2,_⟩:=sC _ _ _ hk;simp only[Sv.pP];have o1:=ok.eI (n:=n) (l:=cS (S.rc n).lits 1 k) (fO _ _ _) (fun x hx=>rR (by omega) h2 hx);have hl:=ok.lit h2;have :=gX hl.2.1 hl.2.2;refine o1.ii (by simp only[Sv.eI];rw[ok.wl];exact this) (by simpa[Sv.eI]using hn)
theorem qX (S:Sv) (n:Nat):(S.dz n).1.T=S.T/\(S.dz n).1.vars=S.vars/\(S.dz n).1.list.length=S.list.length/\(S.dz n).1.head=S.head/\(S.dz n).1.H=S.H/\(S.dz n).1.watch.length=S.watch.length:=by unfold dz;cases S.gE (S.rc n).lits (S.rc n).lits.length 2<;>simp[pP,ii,cm,eI]
theorem oW (S:Sv) (n:Nat) (off:Int):(S.cP n off).T=S.T/\(S.cP n off).vars=S.vars/\(S.cP n off).list.length=S.list.length/\(S.cP n off).head=S.head/\(S.cP n off).H=S.H/\(S.cP n off).watch=S.watch:=by unfold cP;split<;>simp[eI]
theorem Ok.put {S:Sv} {m:Nat} (ok:S.Ok m) {x r:Int} (hr:0<=r/\r<=S.list.length):(S.put x r).Ok m:=by
 by_cases hb:S.T.ij x=true
 ·have e:S.put x r={ S with T:=S.T.pb x r }:=by unfold Sv.put;rw[aae hb]
  rw[e];obtain⟨R,hR⟩:=ok.tr;have h2:=hR.put x r hb;refine⟨ok.vl,⟨_,h2⟩,ok.hi,ok.hl,ok.ph,ok.wl,ok.ll,ok.wb,ok.wt,ok.lr,ok.ln,ok.lb,?_,fun v=> ?_⟩
  ·have :=ok.hd;simp only[Tr.pb,aj,bN];omega
  ·have h3:=h2.fy v;have h4:=hR.fy v;have h5:=ok.rs v;simp only;rw[h3,DP];cases jZ:look R v with
   |none=>
    split
    ·rename_i e;split at e
     ·simp at e
     ·omega
    ·rename_i e2 e;split at e
     ·simp only[Option.none_or,Option.some.injEq]at e;rw[<-e];exact hr
     ·cases e
   |some e0=>
    rw[jZ]at h4;simp only at h4;split
    ·omega
    ·rename_i e2 e;have :e2=e0:=by
      split at e
      ·simpa using e.symm
      ·simpa using e.symm
     rw[this,<-h4];exact h5
 ·have e:S.put x r=S:=by unfold Sv.put;rw[aac hb]
  rw[e];exact ok
theorem Ok.visit {S:Sv} {m:Nat} (ok:S.Ok (m+1)) {n:Nat} (hn:n<S.list.length) (off:Int):
  (S.dg n off).1.Ok (if(S.dg n off).2.1=true then m+1 else m)/\(S.dg n off).1.vars=S.vars/\(S.dg n off).1.list.length=S.list.length/\(S.dg n off).1.head=S.head/\(S.dg n off).1.watch.length=S.watch.length:=by
 unfold Sv.dg;split
 ·exact⟨ok.less (by simp),rfl,rfl,rfl,rfl⟩
 ·have o1:=ok.cP n off;obtain⟨q1,q2,q3,q4,q5,q6⟩:=oW S n off;generalize S.cP n off=S1 at *;unfold Sv.fZ;simp only;split
  ·exact⟨o1,q2,q3,q4,by rw[q6]⟩
  ·split
   ·rename_i h;obtain⟨p1,p2,p3,p4,p5,p6⟩:=qX S1 n;exact⟨o1.Af (by omega) h,by rw[p2,q2],by rw[p3,q3],by rw[p4,q4],by rw[p6,q6]⟩
   ·split
    ·exact⟨o1,q2,q3,q4,by rw[q6]⟩
    ·exact⟨o1.put ⟨by omega,by omega⟩,q2,q3,q4,by show S1.watch.length=_;rw[q6]⟩
end Sv
end Go.Proofs.YtjmmpfjcpdepjaaGreatDoor
