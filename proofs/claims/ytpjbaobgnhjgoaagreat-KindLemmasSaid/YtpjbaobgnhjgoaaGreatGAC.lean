/- Parts of a proof. -/
import Derived.Test.YtpjbaobgnhjgoaaGreatGAB
set_option linter.unusedVariables false
set_option linter.unusedSimpArgs false
namespace Go.Proofs.YtpjbaobgnhjgoaaGreat
open Go.RowKit
theorem MO(l:List Int)(i j:Nat)(x:Int):(l.set i x)[j]! =if i=j/\i<l.length then x else l[j]! :=by
 simp only[aa,List.getElem?_set];by_cases h:i=j
 ·subst h;by_cases hl:i<l.length
  ·simp[hl]
  ·simp[hl]
 ·simp[h]
theorem fL{l:List Int}{i:Nat}(x:Int)(h:i<l.length):(l.set i x)[i]! =x:=by rw[MO];simp[h]
theorem ii{l:List Int}{i j:Nat}(x:Int)(h:i≠j):(l.set i x)[j]! =l[j]! :=by rw[MO];simp[h]
structure PC(V:Hp):Prop where
 pG:V.LT
 pos:∀j:Nat,j<V.items.length->V.at_[(V.items[j]!).toNat]! =j
 inv:∀x:Nat,x<V.at_.length->0<=V.at_[x]! ->(V.at_[x]!).toNat<V.items.length/\V.items[(V.at_[x]!).toNat]! =x
theorem PC.inj{V:Hp}(h:PC V){i j:Nat}(hi:i<V.items.length)(J:j<V.items.length)(e:V.items[i]! =V.items[j]!):i=j:=by have h1:=h.pos i hi;have h2:=h.pos j J;rw[e]at h1;omega
def Hp.swp(V:Hp)(i p:Nat):Hp:=(V.put (i:Int) V.items[p]!).put (p:Int) V.items[i]!
theorem qW(V:Hp)(i p:Nat):(V.swp i p).items.length=V.items.length/\(V.swp i p).at_.length=V.at_.length/\(V.swp i p).score=V.score:=by simp[Hp.swp,Hp.put]
theorem dp(V:Hp){i p:Nat}(hi:i<V.items.length)(hp:p<V.items.length)(j:Nat):
  (V.swp i p).items[j]! =if j=p then V.items[i]! else if j=i then V.items[p]! else V.items[j]! :=by
 simp only[Hp.swp,Hp.put,Int.toNat_natCast];by_cases h1:j=p
 ·subst h1;rw[qai rfl,fL _ (by simpa using hp)]
 ·rw[qah h1,ii _ (fun e=>h1 e.symm)];by_cases J:j=i
  ·subst J;rw[qai rfl,fL _ hi]
  ·rw[qah J,ii _ (fun e=>J e.symm)]
theorem PC.swp{V:Hp}(h:PC V){i p:Nat}(hi:i<V.items.length)(hp:p<V.items.length)(dV:i≠p):PC (V.swp i p):=by
 obtain⟨l1,l2,_⟩:=qW V i p;have ri:=h.pG i hi;have rp:=h.pG p hp;have ab:V.items[i]! ≠V.items[p]! :=fun e=>dV (h.inj hi hp e);have j4:∀x:Nat,(V.swp i p).at_[x]! =if x=(V.items[i]!).toNat then(p:Int)else if x=(V.items[p]!).toNat then(i:Int)else V.at_[x]! :=by
  intro x;simp only[Hp.swp,Hp.put];by_cases h1:x=(V.items[i]!).toNat
  ·subst h1;rw[qai rfl,fL _ (by simp only[aw];omega)]
  ·rw[qah h1,ii _ (fun e=>h1 e.symm)];by_cases J:x=(V.items[p]!).toNat
   ·subst J;rw[qai rfl,fL _ (by omega)]
   ·rw[qah J,ii _ (fun e=>J e.symm)]
 refine⟨fun j hj=> ?_,fun j hj=> ?_,fun x hx h0=> ?_⟩
 ·rw[l1]at hj;rw[dp V hi hp,l2];split
  ·exact ri
  ·split
   ·exact rp
   ·exact h.pG j hj
 ·rw[l1]at hj;rw[dp V hi hp,j4];by_cases h1:j=p
  ·subst h1;simp
  ·by_cases J:j=i
   ·subst J;rw[qah h1,qai rfl,qah (by omega),qai rfl]
   ·have rj:=h.pG j hj;have e1:V.items[j]! ≠V.items[i]! :=fun e=>J (h.inj hj hi e);have e2:V.items[j]! ≠V.items[p]! :=fun e=>h1 (h.inj hj hp e);rw[qah h1,qah J,qah (by omega),qah (by omega)];exact h.pos j hj
 ·rw[l2]at hx;rw[j4]at h0⊢;by_cases h1:x=(V.items[i]!).toNat
  ·rw[qai h1,dp V hi hp,l1];simp only[Int.toNat_natCast,if_true];exact⟨hp,by omega⟩
  ·by_cases J:x=(V.items[p]!).toNat
   ·rw[qah h1,qai J,dp V hi hp,l1];simp only[Int.toNat_natCast,if_true];rw[qah dV];exact⟨hi,by omega⟩
   ·rw[qah h1,qah J]at h0⊢;obtain⟨k1,k2⟩:=h.inv x hx h0;rw[dp V hi hp,l1];refine⟨k1,?_⟩;rw[qah,qah,k2]
    ·intro e;rw[e]at k2;omega
    ·intro e;rw[e]at k2;omega
theorem yW{V:Hp}(h:PC V){i:Nat}(hi:i<V.items.length):V.put (i:Int) V.items[i]! =V:=by
 have e1:V.items.set i V.items[i]! =V.items:=by
  apply List.ext_getElem?;intro j;rw[List.getElem?_set];by_cases J:i=j
  ·subst J;simp[hi]
  ·simp[J]
 have e2:V.at_.set (V.items[i]!).toNat (i:Int)=V.at_:=by
  have hp:=h.pos i hi;have r:=h.pG i hi;apply List.ext_getElem?;intro j;rw[List.getElem?_set];by_cases J:(V.items[i]!).toNat=j
  ·rw[qai J,qai (by omega),<-J,<-hp];rw[aa,af (by omega:(V.items[i]!).toNat<V.at_.length)];rfl
  ·rw[qah J]
 show Hp.mk (V.items.set (i:Int).toNat V.items[i]!) (V.at_.set (V.items[i]!).toNat (i:Int)) V.score=V;rw[Int.toNat_natCast,e1,e2]
theorem MU{K:Hp}{i p:Nat}{x y:Int}(J:x.toNat≠y.toNat):((K.put (i:Int) x).put (i:Int) y).put (p:Int) x=(K.put (i:Int) y).put (p:Int) x:=by simp only[Hp.put,Int.toNat_natCast,List.set_set,Hp.mk.injEq,and_true,true_and];rw[List.set_comm _ _ J,List.set_set]
theorem fK{V:Hp}{x y:Int}:V.bK x y=true↔(V.sc y<V.sc x\/(V.sc x=V.sc y/\x<y)):=by simp[Hp.bK]
theorem vT{V:Hp}{x y:Int}(h:V.bK x y=true):V.bK y x=false:=by
 cases J:V.bK y x with
 |false=>rfl
 |true=>rw[fK]at h J;omega
theorem IH{V:Hp}{x y z:Int}(h:V.bK x y=true)(k:V.bK y z=true):V.bK x z=true:=by rw[fK]at *;omega
theorem jm{V:Hp}{x y z:Int}(h:V.bK x y=false)(k:V.bK y z=false):V.bK x z=false:=by
 cases J:V.bK x z with
 |false=>rfl
 |true=>
  rw[fK]at J;have h1:¬(V.sc y<V.sc x\/(V.sc x=V.sc y/\x<y)):=fun e=>by rw[<-fK,h]at e;cases e
  have h2:¬(V.sc z<V.sc y\/(V.sc y=V.sc z/\y<z)):=fun e=>by rw[<-fK,k]at e;cases e
  omega
theorem pz{V:Hp}{x:Int}:V.bK x x=false:=by
 cases J:V.bK x x with
 |false=>rfl
 |true=>rw[fK]at J;omega
theorem gq{V W:Hp}(h:V.score=W.score)(x y:Int):V.bK x y=W.bK x y:=by simp[Hp.bK,Hp.sc,h]
structure Qd(V:Hp)(i:Nat):Prop where
 all:∀j:Nat,0<j->j<V.items.length->j≠i->V.bK V.items[j]! V.items[(j-1)/2]! =false
 over:∀j:Nat,0<j->j<V.items.length->(j-1)/2=i->0<i->V.bK V.items[j]! V.items[(i-1)/2]! =false
def Ord(V:Hp):Prop:=∀j:Nat,0<j->j<V.items.length->V.bK V.items[j]! V.items[(j-1)/2]! =false
theorem Qd.step{V:Hp}{i:Nat}(h:Qd V i)(Zx:0<i)(hi:i<V.items.length)(ha:V.bK V.items[i]! V.items[(i-1)/2]! =true):Qd (V.swp i ((i-1)/2)) ((i-1)/2):=by
 have hp:(i-1)/2<V.items.length:=by omega
 have dV:i≠(i-1)/2:=by omega
 obtain⟨l1,_,l3⟩:=qW V i ((i-1)/2);refine⟨fun j h0 hj ab=> ?_,fun j h0 hj ab GW=> ?_⟩
 ·rw[l1]at hj;rw[gq l3,dp V hi hp,dp V hi hp,qah ab];by_cases J:j=i
  ·subst J;rw[qai rfl,qai rfl];exact vT ha
  ·rw[qah J];by_cases e2:(j-1)/2=(i-1)/2
   ·rw[qai e2];have h1:=h.all j h0 hj J;rw[e2]at h1;cases hh:V.bK V.items[j]! V.items[i]! with
    |false=>rfl
    |true=>rw[IH hh ha]at h1;cases h1
   ·rw[qah e2];by_cases e3:(j-1)/2=i
    ·rw[qai e3];exact h.over j h0 hj e3 Zx
    ·rw[qah e3];exact h.all j h0 hj J
 ·rw[l1]at hj;rw[gq l3,dp V hi hp,dp V hi hp];have hq:=h.all ((i-1)/2) GW hp (fun e=>dV e.symm);rw[qah (by omega:¬j=(i-1)/2),qah (by omega:¬((i-1)/2-1)/2=(i-1)/2),qah (by omega:¬((i-1)/2-1)/2=i)];by_cases J:j=i
  ·rw[qai J];exact hq
  ·rw[qah J];have h1:=h.all j h0 hj J;rw[ab]at h1;exact jm h1 hq
def Hp.QF:Nat->Hp->Nat->Hp
 |0,V,_=>V
 |f+1,V,i=>if 0<i/\V.bK V.items[i]! V.items[(i-1)/2]! =true then Hp.QF f (V.swp i ((i-1)/2)) ((i-1)/2)else V
theorem kD(V:Hp)(j:Nat):V.it (j:Int)=V.items[j]! :=by simp[Hp.it]
theorem ME(x:Int):∀(f:Nat)(K:Hp)(i:Nat),i<K.items.length->i<f->PC (K.put (i:Int) x)->Hp.Di x f K i=Hp.QF f (K.put (i:Int) x) i:=by
 intro f;induction f with
 |zero=>intro K i _ h _;omega
 |succ f ih=>
  intro K i hi hf hP;simp only[Hp.Di,Hp.QF];have e0:(K.put (i:Int) x).items[i]! =x:=by simp only[Hp.put,Int.toNat_natCast];exact fL x hi
  have es:∀a b,(K.put (i:Int) x).bK a b=K.bK a b:=fun a b=>gq rfl a b;by_cases J:0<i
  ·have dV:i≠(i-1)/2:=by omega
   have e1:(K.put (i:Int) x).items[(i-1)/2]! =K.items[(i-1)/2]! :=by simp only[Hp.put,Int.toNat_natCast];exact ii x dV
   rw[kD,e0,e1,es];by_cases ha:K.bK x K.items[(i-1)/2]! =true
   ·rw[qai ⟨J,ha⟩,qai ⟨J,ha⟩];have hl:(i-1)/2<(K.put (i:Int) x).items.length:=by rw[Hp.eR];omega
    have Ta:i<(K.put (i:Int) x).items.length:=by rw[Hp.eR];omega
    have rx:=hP.pG i Ta;have ry:=hP.pG ((i-1)/2) hl;have QM:(K.put (i:Int) x).items[i]! ≠(K.put (i:Int) x).items[(i-1)/2]! :=fun e=>dV (hP.inj Ta hl e);rw[e0]at rx QM;rw[e1]at ry QM;have e2:(K.put (i:Int) x).swp i ((i-1)/2)=(K.put (i:Int) K.items[(i-1)/2]!).put (((i-1)/2:Nat):Int) x:=by unfold Hp.swp;rw[e0,e1];exact MU (by omega)
    rw[e2];refine ih _ _ (by rw[Hp.eR];omega) (by omega) ?_;rw[<-e2];exact hP.swp Ta hl dV
   ·rw[qah (fun h=>ha h.2),qah (fun h=>ha h.2)]
  ·rw[qah (fun h=>J h.1),qah (fun h=>J h.1)]
theorem kr:∀(f:Nat)(V:Hp)(i:Nat),i<V.items.length->i<f->PC V->Qd V i->
  PC (Hp.QF f V i)/\Ord (Hp.QF f V i)/\(Hp.QF f V i).score=V.score/\(Hp.QF f V i).items.length=V.items.length/\(Hp.QF f V i).at_.length=V.at_.length/\(∀y:Int,y∈(Hp.QF f V i).items↔y∈V.items):=by
 intro f;induction f with
 |zero=>intro V i _ h;omega
 |succ f ih=>
  intro V i hi hf hP hO;simp only[Hp.QF];by_cases hc:0<i/\V.bK V.items[i]! V.items[(i-1)/2]! =true
  ·rw[qai hc];obtain⟨l1,l2,l3⟩:=qW V i ((i-1)/2);have hl:(i-1)/2<V.items.length:=by omega
   have :=ih (V.swp i ((i-1)/2)) ((i-1)/2) (by rw[l1];omega) (by omega) (hP.swp hi hl (by omega)) (hO.step hc.1 hi hc.2);obtain⟨r1,r2,r3,r4,r5,r6⟩:=this;refine⟨r1,r2,by rw[r3,l3],by rw[r4,l1],by rw[r5,l2],fun y=>(r6 y).trans ?_⟩;constructor
   ·intro hy;obtain⟨j,J,rfl⟩:=List.mem_iff_getElem.1 hy;rw[l1]at J;have e:=dp V hi hl j;rw[aa,af (by rw[l1];exact J)]at e;simp only[aJ]at e;rw[e];split
    ·exact bk hi
    ·split
     ·exact bk hl
     ·exact bk J
   ·intro hy;obtain⟨j,J,rfl⟩:=List.mem_iff_getElem.1 hy;have e0:V.items[j]=V.items[j]! :=(by simp[J])
    rw[e0];by_cases e1:j=i
    ·subst e1;have :=dp V hi hl ((j-1)/2);rw[qai rfl]at this;rw[<-this];exact bk (by rw[l1];exact hl)
    ·by_cases e2:j=(i-1)/2
     ·have :=dp V hi hl i;rw[qah (by omega),qai rfl]at this;rw[e2,<-this];exact bk (by rw[l1];exact hi)
     ·have :=dp V hi hl j;rw[qah e2,qah e1]at this;rw[<-this];exact bk (by rw[l1];exact J)
  ·rw[qah hc];refine⟨hP,fun j h0 J=> ?_,rfl,rfl,rfl,fun _=>Iff.rfl⟩;by_cases e:j=i
   ·subst e;cases hh:V.bK V.items[j]! V.items[(j-1)/2]! with
    |false=>rfl
    |true=>exact absurd ⟨h0,hh⟩ hc
   ·exact hO.all j h0 J e
where
 bk {l:List Int} {j:Nat} (h:j<l.length):l[j]! ∈l:=by rw[aa,af h];exact gu h
theorem VW{V:Hp}{i p:Nat}(hi:i<V.items.length)(hp:p<V.items.length)(y:Int):y∈(V.swp i p).items↔y∈V.items:=by
 obtain⟨l1,_,_⟩:=qW V i p;constructor
 ·intro hy;obtain⟨j,J,rfl⟩:=List.mem_iff_getElem.1 hy;rw[l1]at J;have e:=dp V hi hp j;rw[aa,af (by rw[l1];exact J)]at e;simp only[aJ]at e;rw[e];split
  ·exact kr.bk hi
  ·split
   ·exact kr.bk hp
   ·exact kr.bk J
 ·intro hy;obtain⟨j,J,rfl⟩:=List.mem_iff_getElem.1 hy;have e0:V.items[j]=V.items[j]! :=by simp[J]
  rw[e0];by_cases e1:j=i
  ·subst e1;have :=dp V hi hp p;rw[qai rfl]at this;rw[<-this];exact kr.bk (by rw[l1];exact hp)
  ·by_cases e2:j=p
   ·subst e2;have :=dp V hi hp i;rw[qah (fun e=>e1 e.symm),qai rfl]at this;rw[<-this];exact kr.bk (by rw[l1];exact hi)
   ·have :=dp V hi hp j;rw[qah e2,qah e1]at this;rw[<-this];exact kr.bk (by rw[l1];exact J)
structure Uo(V:Hp)(i:Nat):Prop where
 all:∀j:Nat,0<j->j<V.items.length->(j-1)/2≠i->V.bK V.items[j]! V.items[(j-1)/2]! =false
 over:∀j:Nat,0<j->j<V.items.length->(j-1)/2=i->0<i->V.bK V.items[j]! V.items[(i-1)/2]! =false
theorem yx(V:Hp){i:Nat}(hi:2*i+1<V.items.length):
  V.bZ i<V.items.length/\(V.bZ i-1)/2=i/\0<V.bZ i/\∀j:Nat,0<j->j<V.items.length->(j-1)/2=i->V.bK V.items[j]! V.items[V.bZ i]! =false:=by
 unfold Hp.bZ;rw[kD,kD];by_cases h:2*i+2<V.items.length/\V.bK V.items[2*i+2]! V.items[2*i+1]! =true
 ·rw[qai h];refine⟨h.1,by omega,by omega,fun j h0 J hp=> ?_⟩;rcases(by omega:j=2*i+1\/j=2*i+2)with rfl |rfl
  ·exact vT h.2
  ·exact pz
 ·rw[qah h];refine⟨hi,by omega,by omega,fun j h0 J hp=> ?_⟩;rcases(by omega:j=2*i+1\/j=2*i+2)with rfl |rfl
  ·exact pz
  ·cases hh:V.bK V.items[2*i+2]! V.items[2*i+1]! with
   |false=>rfl
   |true=>exact absurd ⟨J,hh⟩ h
theorem Uo.step{V:Hp}{i:Nat}(h:Uo V i)(hi:2*i+1<V.items.length)(ha:V.bK V.items[V.bZ i]! V.items[i]! =true):Uo (V.swp i (V.bZ i)) (V.bZ i):=by
 obtain⟨hb,Tu,Cy,Ny⟩:=yx V hi;generalize V.bZ i=b at hb Tu Cy Ny ha;have J:i<V.items.length:=by omega
 obtain⟨l1,_,l3⟩:=qW V i b;refine⟨fun j h0 hj ab=> ?_,fun j h0 hj ab GW=> ?_⟩
 ·rw[l1]at hj;rw[gq l3,dp V J hb,dp V J hb,qah ab];by_cases e1:j=b
  ·subst e1;rw[qai rfl,qai Tu];exact vT ha
  ·rw[qah e1];by_cases e2:(j-1)/2=i
   ·rw[qai e2,qah (by omega)];exact Ny j h0 hj e2
   ·rw[qah e2];by_cases e3:j=i
    ·subst e3;rw[qai rfl];exact h.over b Cy hb Tu h0
    ·rw[qah e3];exact h.all j h0 hj e2
 ·rw[l1]at hj;rw[gq l3,dp V J hb,dp V J hb,Tu];rw[qah (by omega:¬j=b),qah (by omega:¬j=i),qah (by omega:¬i=b),qai rfl];have :=h.all j h0 hj (by omega);rw[ab]at this;exact this
def Hp.qN:Nat->Hp->Nat->Hp
 |0,V,_=>V
 |f+1,V,i=>if 2*i+1<V.items.length/\V.bK V.items[V.bZ i]! V.items[i]! =true then Hp.qN f (V.swp i (V.bZ i)) (V.bZ i)else V
theorem Ud(K:Hp)(i:Nat)(x:Int):(K.put (i:Int) x).bZ i=K.bZ i:=by
 unfold Hp.bZ;rw[kD,kD,kD,kD,Hp.eR];have J:(K.put (i:Int) x).items[2*i+2]! =K.items[2*i+2]! :=by simp only[Hp.put,Int.toNat_natCast];exact ii x (by omega)
 have e2:(K.put (i:Int) x).items[2*i+1]! =K.items[2*i+1]! :=by simp only[Hp.put,Int.toNat_natCast];exact ii x (by omega)
 have es:=gq (V:=K.put (i:Int) x) (W:=K) rfl K.items[2*i+2]! K.items[2*i+1]!;rw[J,e2,es]
theorem Ik(x:Int):∀(f:Nat)(K:Hp)(i:Nat),i<K.items.length->PC (K.put (i:Int) x)->Hp.iw x f K i=Hp.qN f (K.put (i:Int) x) i:=by
 intro f;induction f with
 |zero=>intro K i _ _;rfl
 |succ f ih=>
  intro K i hi hP;simp only[Hp.iw,Hp.qN];rw[Ud,Hp.eR];have e0:(K.put (i:Int) x).items[i]! =x:=by simp only[Hp.put,Int.toNat_natCast];exact fL x hi
  have es:∀a b,(K.put (i:Int) x).bK a b=K.bK a b:=fun a b=>gq rfl a b;by_cases J:2*i+1<K.items.length
  ·obtain⟨hb,Tu,Cy,_⟩:=yx K J;generalize K.bZ i=b at hb Tu Cy;have dV:i≠b:=by omega
   have e1:(K.put (i:Int) x).items[b]! =K.items[b]! :=by simp only[Hp.put,Int.toNat_natCast];exact ii x dV
   rw[kD,e0,e1,es];by_cases ha:K.bK K.items[b]! x=true
   ·rw[qai ⟨J,ha⟩,qai ⟨J,ha⟩];have hl:b<(K.put (i:Int) x).items.length:=by rw[Hp.eR];omega
    have Ta:i<(K.put (i:Int) x).items.length:=by rw[Hp.eR];omega
    have rx:=hP.pG i Ta;have ry:=hP.pG b hl;have QM:(K.put (i:Int) x).items[i]! ≠(K.put (i:Int) x).items[b]! :=fun e=>dV (hP.inj Ta hl e);rw[e0]at rx QM;rw[e1]at ry QM;have e2:(K.put (i:Int) x).swp i b=(K.put (i:Int) K.items[b]!).put (b:Int) x:=by unfold Hp.swp;rw[e0,e1];exact MU (by omega)
    rw[e2];refine ih _ _ (by rw[Hp.eR];omega) ?_;rw[<-e2];exact hP.swp Ta hl dV
   ·rw[qah (fun h=>ha h.2),qah (fun h=>ha h.2)]
  ·rw[qah (fun h=>J h.1),qah (fun h=>J h.1)]
theorem T5:∀(f:Nat)(V:Hp)(i:Nat),i<V.items.length->V.items.length<=i+f->PC V->Uo V i->
  PC (Hp.qN f V i)/\Ord (Hp.qN f V i)/\(Hp.qN f V i).score=V.score/\(Hp.qN f V i).items.length=V.items.length/\(Hp.qN f V i).at_.length=V.at_.length/\(∀y:Int,y∈(Hp.qN f V i).items↔y∈V.items):=by
 intro f;induction f with
 |zero=>intro V i _ h;omega
 |succ f ih=>
  intro V i hi hf hP hO;simp only[Hp.qN];by_cases hc:2*i+1<V.items.length/\V.bK V.items[V.bZ i]! V.items[i]! =true
  ·rw[qai hc];obtain⟨hb,Tu,Cy,_⟩:=yx V hc.1;obtain⟨J,l2,l3⟩:=qW V i (V.bZ i);have :=ih (V.swp i (V.bZ i)) (V.bZ i) (by rw[J];omega) (by rw[J];omega) (hP.swp hi hb (by omega)) (hO.step hc.1 hc.2);obtain⟨r1,r2,r3,r4,r5,r6⟩:=this;exact⟨r1,r2,by rw[r3,l3],by rw[r4,J],by rw[r5,l2],fun y=>(r6 y).trans (VW hi hb y)⟩
  ·rw[qah hc];refine⟨hP,fun j h0 hj=> ?_,rfl,rfl,rfl,fun _=>Iff.rfl⟩;by_cases e:(j-1)/2=i
   ·have oQ:2*i+1<V.items.length:=by omega
    obtain⟨_,_,_,Ny⟩:=yx V oQ;have h2:V.bK V.items[V.bZ i]! V.items[i]! =false:=by
     cases hh:V.bK V.items[V.bZ i]! V.items[i]! with
     |false=>rfl
     |true=>exact absurd ⟨oQ,hh⟩ hc
    rw[e];exact jm (Ny j h0 hj e) h2
   ·exact hO.all j h0 hj e
theorem Ord.root{V:Hp}(h:Ord V):∀(n j:Nat),j<=n->j<V.items.length->V.bK V.items[j]! V.items[0]! =false:=by
 intro n;induction n with
 |zero=>
  intro j hj _;obtain rfl :j=0:=by omega
  exact pz
 |succ n ih=>
  intro j hj hl;by_cases J:j=0
  ·subst J;exact pz
  ·exact jm (h j (by omega) hl) (ih ((j-1)/2) (by omega) (by omega))
structure HI(H:Hp):Prop where
 pc:PC H
 ord:Ord H
 same:H.at_.length=H.score.length
 sc0:∀x:Nat,x<H.score.length->0<=H.score[x]!
theorem HI.push{H:Hp}(h:HI H){x:Int}(hb:H.kb x=true)(hp:H.pl x<0):
  HI (H.tY x)/\(H.tY x).score=H.score/\(H.tY x).items.length=H.items.length+1/\(H.tY x).at_.length=H.at_.length/\∀y:Int,y∈(H.tY x).items↔y∈H.items\/y=x:=by
 obtain⟨h0,h1⟩:=Hp.dP hb;have hx:x.toNat<H.at_.length:=by omega
 have ar:∀j:Nat,j<H.items.length->H.items[j]! ≠x:=by intro j J e;have :=h.pc.pos j J;rw[e]at this;unfold Hp.pl at hp;omega
 have gl:∀j:Nat,j<H.items.length->(H.items++[x])[j]! =H.items[j]! :=fun j J=>by simp[aa,cV J]
 have gn:(H.items++[x])[H.items.length]! =x:=by simp
 have hK:PC { H with items:=H.items++[x],at_:=H.at_.set x.toNat H.items.length }:=by
  refine⟨fun j J=> ?_,fun j J=> ?_,fun y hy lf=> ?_⟩
  ·simp only[an,b8,List.length_nil]at J;simp only[aw];by_cases e:j<H.items.length
   ·rw[gl j e];exact h.pc.pG j e
   ·obtain rfl :j=H.items.length:=by omega
    rw[gn];exact⟨h0,h1⟩
  ·simp only[an,b8,List.length_nil]at J;by_cases e:j<H.items.length
   ·show(H.at_.set x.toNat (H.items.length:Int))[((H.items++[x])[j]!).toNat]! =j;rw[gl j e];have r:=h.pc.pG j e;have :=ar j e;rw[ii _ (by omega)];exact h.pc.pos j e
   ·obtain rfl :j=H.items.length:=by omega
    show(H.at_.set x.toNat (H.items.length:Int))[((H.items++[x])[H.items.length]!).toNat]! =_;rw[gn,fL _ hx]
  ·simp only[aw]at hy;show((H.at_.set x.toNat (H.items.length:Int))[y]!).toNat<(H.items++[x]).length/\(H.items++[x])[((H.at_.set x.toNat (H.items.length:Int))[y]!).toNat]! =y;by_cases e:x.toNat=y
   ·subst e;rw[fL _ hx,Int.toNat_natCast,gn];exact⟨by simp,by omega⟩
   ·have ad:0<=H.at_[y]! :=by have :0<=(H.at_.set x.toNat (H.items.length:Int))[y]! :=lf;rwa[ii _ e]at this
    rw[ii _ e];obtain⟨k1,k2⟩:=h.pc.inv y hy ad;rw[gl _ k1];exact⟨by rw[an];exact aS k1 (Nat.le_add_right _ _),k2⟩
 have ab:Hp.put { H with items:=H.items++[x],at_:=H.at_.set x.toNat H.items.length } (H.items.length:Int) x={ H with items:=H.items++[x],at_:=H.at_.set x.toNat H.items.length }:=by have :=yW hK (i:=H.items.length) (by simp);rwa[show({ H with items:=H.items++[x],at_:=H.at_.set x.toNat H.items.length }:Hp).items[H.items.length]! =x from gn]at this
 have hO:Qd { H with items:=H.items++[x],at_:=H.at_.set x.toNat H.items.length } H.items.length:=by
  refine⟨fun j rR J dV=> ?_,fun j rR J aB Zx=> ?_⟩
  ·simp only[an,b8,List.length_nil]at J;show H.bK (H.items++[x])[j]! (H.items++[x])[(j-1)/2]! =false;rw[gl j (by omega),gl _ (by omega)];exact h.ord j rR (by omega)
  ·simp only[an,b8,List.length_nil]at J;omega
 have e:H.tY x=Hp.QF (H.items.length+1) { H with items:=H.items++[x],at_:=H.at_.set x.toNat H.items.length } H.items.length:=by unfold Hp.tY;rw[ME x _ _ _ (by simp) (by omega) (by rw[ab];exact hK),ab]
 obtain⟨r1,r2,r3,r4,r5,r6⟩:=kr (H.items.length+1) _ H.items.length (by simp) (by omega) hK hO;rw[<-e]at r1 r2 r3 r4 r5 r6;refine⟨⟨r1,r2,?_,?_⟩,r3,by rw[r4];simp,by rw[r5];simp,fun y=>(r6 y).trans (by simp)⟩
 ·rw[r5,r3];simp[h.same]
 ·rw[r3];exact h.sc0
theorem Ro(l:List Int){n j:Nat}(h:j<n):(l.take n)[j]! =l[j]! :=by simp only[aa,List.getElem?_take];rw[qai h]
theorem HI.root{H:Hp}(h:HI H)(h0:0<H.items.length):H.it 0∈H.items/\∀y:Int,y∈H.items->H.bK y (H.it 0)=false:=by
 have e:H.it 0=H.items[0]! :=kD H 0;rw[e];refine⟨kr.bk h0,fun y hy=> ?_⟩;obtain⟨j,J,rfl⟩:=List.mem_iff_getElem.1 hy;have e0:H.items[j]=H.items[j]! :=by simp[J]
 rw[e0];exact h.ord.root j j (aq _) J
theorem HI.pop{H:Hp}(h:HI H)(h0:0<H.items.length):
  HI H.lu/\H.lu.score=H.score/\H.lu.items.length=H.items.length-1/\H.lu.at_.length=H.at_.length/\∀y:Int,y∈H.lu.items↔y∈H.items/\y≠H.it 0:=by
 obtain⟨n,hn⟩:∃n,H.items.length=n+1:=⟨H.items.length-1,by omega⟩
 have er:H.it 0=H.items[0]! :=kD H 0;have el:H.it (n:Int)=H.items[n]! :=kD H n;have r0:=h.pc.pG 0 h0;have rn:=h.pc.pG n (by omega);have tl:(H.items.take n).length=n:=by simp;omega
 by_cases hz:n=0
 ·subst hz;have e:H.lu={ H with items:=H.items.take 0,at_:=H.at_.set (H.items[0]!).toNat (-1) }:=by unfold Hp.lu;rw[hn,er];simp
  rw[e];refine⟨⟨⟨fun j J=> ?_,fun j J=> ?_,fun y hy lf=> ?_⟩,fun j _ J=> ?_,by simpa using h.same,h.sc0⟩,rfl,by simp[hn],by simp,fun y=> ?_⟩
  ·simp at J
  ·simp at J
  ·exfalso;simp only[aw]at hy;have iO:0<=(H.at_.set (H.items[0]!).toNat (-1))[y]! :=lf;by_cases e1:(H.items[0]!).toNat=y
   ·subst e1;rw[fL _ (by omega)]at iO;omega
   ·rw[ii _ e1]at iO;obtain⟨k1,k2⟩:=h.pc.inv y hy iO;have e2:(H.at_[y]!).toNat=0:=(by omega)
    rw[e2]at k2;omega
  ·simp at J
  ·constructor
   ·intro hy;simp at hy
   ·rintro⟨hy,dV⟩;exfalso;obtain⟨j,J,rfl⟩:=List.mem_iff_getElem.1 hy;obtain rfl :j=0:=by omega
    apply dV;rw[er];simp[J]
 ·have ad:H.items[0]! ≠H.items[n]! :=fun e=>hz (h.pc.inj h0 (by omega) e).symm
  --ar heap with aB last one at ar root
  obtain⟨V,hV⟩:∃V:Hp,V=Hp.put { H with items:=H.items.take n,at_:=H.at_.set (H.items[0]!).toNat (-1) } ((0:Nat):Int) H.items[n]! :=⟨_,rfl⟩
  have vi:V.items=(H.items.take n).set 0 H.items[n]! :=by rw[hV];rfl
  have va:V.at_=(H.at_.set (H.items[0]!).toNat (-1)).set (H.items[n]!).toNat 0:=by rw[hV];rfl
  have vs:V.score=H.score:=by rw[hV];rfl
  have vl:V.items.length=n:=by rw[vi,aw,tl]
  have val:V.at_.length=H.at_.length:=by rw[va];simp
  have v0:V.items[0]! =H.items[n]! :=by rw[vi];exact fL _ (by omega)
  have vj:∀j:Nat,0<j->j<n->V.items[j]! =H.items[j]! :=fun j rR J=>by rw[vi,ii _ (by omega),Ro _ J]
  have ab:∀y:Nat,V.at_[y]! =if y=(H.items[n]!).toNat then 0 else if y=(H.items[0]!).toNat then -1 else H.at_[y]! :=by
   intro y;rw[va];by_cases e1:y=(H.items[n]!).toNat
   ·subst e1;rw[qai rfl,fL _ (by simp only[aw];omega)]
   ·rw[qah e1,ii _ (fun e=>e1 e.symm)];by_cases e2:y=(H.items[0]!).toNat
    ·subst e2;rw[qai rfl,fL _ (by omega)]
    ·rw[qah e2,ii _ (fun e=>e2 e.symm)]
  have hP:PC V:=by
   refine⟨fun j J=> ?_,fun j J=> ?_,fun y hy lf=> ?_⟩
   ·rw[vl]at J;rw[val];by_cases e:j=0
    ·subst e;rw[v0];exact rn
    ·rw[vj j (by omega) J];exact h.pc.pG j (by omega)
   ·rw[vl]at J;by_cases e:j=0
    ·subst e;rw[v0,ab,qai rfl];rfl
    ·rw[vj j (by omega) J,ab];have rj:=h.pc.pG j (by omega);have n1:H.items[j]! ≠H.items[n]! :=fun e'=>by have :=h.pc.inj (by omega) (by omega) e';omega
     have n2:H.items[j]! ≠H.items[0]! :=fun e'=>e (h.pc.inj (by omega) h0 e');rw[qah (by omega),qah (by omega)];exact h.pc.pos j (by omega)
   ·rw[val]at hy;rw[ab]at lf⊢;rw[vl];by_cases e1:y=(H.items[n]!).toNat
    ·rw[qai e1];show(0:Nat)<n/\V.items[0]! =y;rw[v0];omega
    ·by_cases e2:y=(H.items[0]!).toNat
     ·rw[qah e1,qai e2]at lf;omega
     ·rw[qah e1,qah e2]at lf⊢;obtain⟨k1,k2⟩:=h.pc.inv y hy lf;have k3:(H.at_[y]!).toNat≠n:=fun e=>by rw[e]at k2;omega
      have k4:(H.at_[y]!).toNat≠0:=fun e=>by rw[e]at k2;omega
      rw[vj _ (by omega) (by omega)];exact⟨by omega,k2⟩
  have hO:Uo V 0:=by refine⟨fun j rR J hp=> ?_,fun j rR J hp hi=>by omega⟩;rw[vl]at J;rw[gq vs,vj j rR J,vj _ (by omega) (by omega)];exact h.ord j rR (by omega)
  have e:H.lu=Hp.qN n V 0:=by
   have hi:(H.it (n:Int))=H.items[n]! :=el;unfold Hp.lu;rw[hn,er];simp only[dt];rw[qah hz,hi];have hp:=Ik H.items[n]! n (Hp.put { H with items:=H.items.take n,at_:=H.at_.set (H.items[0]!).toNat (-1) } 0 H.items[n]!) 0 (by rw[Hp.eR,tl];omega);have pp:((Hp.put { H with items:=H.items.take n,at_:=H.at_.set (H.items[0]!).toNat (-1) } 0 H.items[n]!).put ((0:Nat):Int) H.items[n]!)=V:=by rw[hV];simp only[Hp.put,Int.toNat_natCast,Int.toNat_zero,List.set_set]
   rw[pp]at hp;exact hp hP
  obtain⟨s1,s2,s3,s4,s5,s6⟩:=T5 n V 0 (by omega) (by omega) hP hO;rw[<-e]at s1 s2 s3 s4 s5 s6;refine⟨⟨s1,s2,by rw[s5,val,s3,vs];exact h.same,by rw[s3,vs];exact h.sc0⟩,by rw[s3,vs],by rw[s4,vl,hn];omega,by rw[s5,val],fun y=>(s6 y).trans ?_⟩;rw[er];constructor
  ·intro hy;obtain⟨j,J,rfl⟩:=List.mem_iff_getElem.1 hy;have e0:V.items[j]=V.items[j]! :=by simp[J]
   rw[e0];rw[vl]at J;by_cases e:j=0
   ·subst e;rw[v0];exact⟨kr.bk (by omega),fun e=>ad e.symm⟩
   ·rw[vj j (by omega) J];exact⟨kr.bk (by omega),fun e'=>e (h.pc.inj (by omega) h0 e')⟩
  ·rintro⟨hy,dV⟩;obtain⟨j,J,rfl⟩:=List.mem_iff_getElem.1 hy;have e0:H.items[j]=H.items[j]! :=by simp[J]
   rw[e0]at dV⊢;by_cases e1:j=0
   ·subst e1;exact absurd rfl dV
   ·by_cases e2:j=n
    ·subst e2;rw[<-v0];exact kr.bk (by omega)
    ·rw[<-vj j (by omega) (by omega)];exact kr.bk (by omega)
theorem HI.raise{H:Hp}(h:HI H){x b:Int}(hb:H.kb x=true)(Cy:0<=b)(nq:b<=1099511627776)(kZ:H.sc x<=1125899906842624-b):
  HI (H.lq x b)/\(H.lq x b).score=H.score.set x.toNat (H.sc x+b)/\(H.lq x b).items.length=H.items.length/\(H.lq x b).at_.length=H.at_.length/\∀y:Int,y∈(H.lq x b).items↔y∈H.items:=by
 obtain⟨h0,h1⟩:=Hp.dP hb;have hs:=h.same;have hx:x.toNat<H.score.length:=by omega
 obtain⟨K,hK⟩:∃K:Hp,K={ H with score:=H.score.set x.toNat (H.sc x+b) }:=⟨_,rfl⟩
 have ki:K.items=H.items:=by rw[hK]
 have ka:K.at_=H.at_:=by rw[hK]
 have ks:K.score=H.score.set x.toNat (H.sc x+b):=by rw[hK]
 have kx:K.sc x=H.sc x+b:=by unfold Hp.sc;rw[ks];exact fL _ hx
 have ky:∀y:Int,0<=y->y≠x->K.sc y=H.sc y:=fun y hy dV=>by unfold Hp.sc;rw[ks];exact ii _ (by omega)
 have kP:PC K:=⟨fun j J=>by rw[ki,ka];rw[ki]at J;exact h.pc.pG j J,fun j J=>by rw[ki,ka];rw[ki]at J;exact h.pc.pos j J,fun y hy lf=>by rw[ki,ka];rw[ka]at hy lf;exact h.pc.inv y hy lf⟩
 have k0:∀y:Nat,y<K.score.length->0<=K.score[y]! :=by
  intro y hy;rw[ks]at hy⊢;rw[aw]at hy;by_cases e:x.toNat=y
  ·subst e;rw[fL _ hx];have :0<=H.sc x:=h.sc0 _ hx;omega
  ·rw[ii _ e];exact h.sc0 y hy
 have kl:K.at_.length=K.score.length:=by rw[ka,ks,aw];exact hs
 --of two aM a1 not x nothing has changed;aT is ahead of x ba pU not
 have ie:∀y z:Int,0<=y->0<=z->y≠x->z≠x->H.bK y z=false->K.bK y z=false:=by
  intro y z hy hz ad aK hh;cases hc:K.bK y z with
  |false=>rfl
  |true=>
   rw[fK,ky y hy ad,ky z hz aK]at hc;have :H.bK y z=true:=fK.2 hc;rw[this]at hh;cases hh
 have below:∀y:Int,0<=y->y≠x->H.bK y x=false->K.bK y x=false:=by
  intro y hy ad hh;cases hc:K.bK y x with
  |false=>rfl
  |true=>
   rw[fK,ky y hy ad,kx]at hc;have :H.bK y x=true:=fK.2 (by omega);rw[this]at hh;cases hh
 have e0:H.lq x b=if 0<=H.pl x then Hp.Di (K.it (H.pl x)) ((H.pl x).toNat+1) K (H.pl x).toNat else K:=by unfold Hp.lq;rw[qai ⟨hb,Cy,nq,kZ⟩,hK]
 by_cases hp:0<=H.pl x
 ·rw[qai hp]at e0;obtain⟨q1,q2⟩:=h.pc.inv x.toNat (by omega) hp;have ex:((x.toNat:Nat):Int)=x:=by omega
  rw[ex]at q2;have ab:(H.pl x).toNat<K.items.length:=by rw[ki];exact q1
  have ar:H.items[(H.pl x).toNat]! =x:=q2;have e1:K.it (H.pl x)=K.items[(H.pl x).toNat]! :=rfl;have e2:H.lq x b=Hp.QF ((H.pl x).toNat+1) K (H.pl x).toNat:=by rw[e0,e1,ME _ _ _ _ ab (by omega) (by rw[yW kP ab];exact kP),yW kP ab]
  have dV:∀j:Nat,j<H.items.length->j≠(H.pl x).toNat->H.items[j]! ≠x:=fun j J tp e=>tp (h.pc.inj J q1 (by rw[e,ar]));have hO:Qd K (H.pl x).toNat:=by
   refine⟨fun j rR J tp=> ?_,fun j rR J aB Zx=> ?_⟩
   ·rw[ki]at J⊢;have r:=h.pc.pG j J;have rp:=h.pc.pG ((j-1)/2) (by omega);have ho:=h.ord j rR J;by_cases e:(j-1)/2=(H.pl x).toNat
    ·rw[e,ar]at ho⊢;exact below _ r.1 (dV j J tp) ho
    ·exact ie _ _ r.1 rp.1 (dV j J tp) (dV _ (by omega) e) ho
   ·rw[ki]at J⊢;have r:=h.pc.pG j J;have rp:=h.pc.pG (((H.pl x).toNat-1)/2) (by omega);have ho:=h.ord j rR J;rw[aB]at ho;have En:=h.ord (H.pl x).toNat Zx q1;exact ie _ _ r.1 rp.1 (dV j J (by omega)) (dV _ (by omega) (by omega)) (jm ho En)
  obtain⟨s1,s2,s3,s4,s5,s6⟩:=kr ((H.pl x).toNat+1) K (H.pl x).toNat ab (by omega) kP hO;rw[<-e2]at s1 s2 s3 s4 s5 s6;exact⟨⟨s1,s2,by rw[s5,s3];exact kl,by rw[s3];exact k0⟩,by rw[s3,ks],by rw[s4,ki],by rw[s5,ka],fun y=>by rw[s6 y,ki]⟩
 ·rw[qah hp]at e0;rw[e0];have dV:∀j:Nat,j<H.items.length->H.items[j]! ≠x:=by intro j J e;have :=h.pc.pos j J;rw[e]at this;apply hp;unfold Hp.pl;rw[this];omega
  refine⟨⟨kP,fun j rR J=> ?_,kl,k0⟩,ks,by rw[ki],by rw[ka],fun y=>by rw[ki]⟩;rw[ki]at J⊢;exact ie _ _ (h.pc.pG j J).1 (h.pc.pG ((j-1)/2) (by omega)).1 (dV j J) (dV _ (by omega)) (h.ord j rR J)
theorem yz{l r:List Int}{j:Nat}(h:j<l.length):(l++r)[j]! =l[j]! :=by simp[aa,cV h]
theorem NZ{l:List Int}{m j:Nat}{x:Int}(h:l.length<=j)(J:j<l.length+m):(l++List.replicate m x)[j]! =x:=by rw[aa,bX h,List.getElem?_replicate,qai (by omega)];rfl
theorem HI.grow{H:Hp}(h:HI H)(m:Nat):HI (H.growBy m):=by
 have hs:=h.same;have ab:∀y:Int,0<=y->y<H.at_.length->(H.growBy m).sc y=H.sc y:=fun y h0 h1=>yz (by omega);refine⟨⟨fun j J=> ?_,fun j J=> ?_,fun y hy lf=> ?_⟩,fun j rR J=> ?_,?_,fun y hy=> ?_⟩
 ·have :=h.pc.pG j J;show 0<=H.items[j]! /\H.items[j]! <((H.at_++List.replicate m (-1)).length:Int);rw[an];omega
 ·have r:=h.pc.pG j J;show(H.at_++List.replicate m (-1))[(H.items[j]!).toNat]! =j;rw[yz (by omega)];exact h.pc.pos j J
 ·have iO:0<=(H.at_++List.replicate m (-1))[y]! :=lf;have ld:y<(H.at_++List.replicate m (-1)).length:=hy;rw[an,a8]at ld;show((H.at_++List.replicate m (-1))[y]!).toNat<H.items.length/\H.items[((H.at_++List.replicate m (-1))[y]!).toNat]! =y;by_cases e:y<H.at_.length
  ·rw[yz e]at iO⊢;exact h.pc.inv y e iO
  ·rw[NZ (by omega) ld]at iO;omega
 ·have r:=h.pc.pG j J;have ad:j<H.items.length:=J;have rp:=h.pc.pG ((j-1)/2) (by omega);have ho:=h.ord j rR J;show(H.growBy m).bK H.items[j]! H.items[(j-1)/2]! =false;cases hc:(H.growBy m).bK H.items[j]! H.items[(j-1)/2]! with
  |false=>rfl
  |true=>
   rw[fK,ab _ r.1 r.2,ab _ rp.1 rp.2]at hc;have :=fK.2 hc;rw[this]at ho;cases ho
 ·show(H.at_++List.replicate m (-1)).length=(H.score++List.replicate m 0).length;simp[hs]
 ·have ld:y<(H.score++List.replicate m 0).length:=hy;rw[an,a8]at ld;show 0<=(H.score++List.replicate m 0)[y]!;by_cases e:y<H.score.length
  ·rw[yz e];exact h.sc0 y e
  ·rw[NZ (by omega) ld];omega
theorem HI.none_:HI { items:=[],at_:=[],score:=[] }:=
 ⟨⟨fun j J=>by simp at J,fun j J=>by simp at J,fun j J=>by simp at J⟩,fun j _ J=>by simp at J,rfl,fun j J=>by simp at J⟩
structure Rc where
 lits:List Int
 nI:Bool
 act:Int
instance:Inhabited Rc:=⟨⟨[],false,0⟩⟩
structure Sv where
 T:Tr
 H:Hp
 vars:Nat
 list:List Rc
 watch:List (List Nat)
 phase:List Bool
 model:List Bool
 core:List Int
 head:Nat
 used:Nat
 bump:Nat
 many:Int
 cv:Nat
 bad:Bool
 has:Bool
def aW(l:Int):Nat:=if l<0 then(-2*l+1).toNat else(2*l).toNat
def dK(l:List Int)(i j:Nat):List Int:=(l.set i l[j]!).set j l[i]!
namespace Sv
def val(S:Sv)(l:Int):Int:=S.T.mQ l
def rc(S:Sv)(n:Nat):Rc:=S.list[n]!
def gG(S:Sv)(c:Nat):List Nat:=S.watch[c]!
def cJ(S:Sv)(c:Nat)(l:List Nat):Sv:={ S with watch:=S.watch.set c l }
def i9(S:Sv)(c n:Nat):Sv:=S.cJ c (S.gG c++[n])
def fg(S:Sv)(n:Nat)(l:List Int):Sv:={ S with list:=S.list.set n { S.rc n with lits:=l } }
def put(S:Sv)(l r:Int):Sv:={ S with T:=if S.T.ke l=true then S.T.qt l r else S.T }
def deep(S:Sv):Sv:={ S with T:=S.T.zV }
def attach(S:Sv)(l:List Int)(b:Bool):Sv:=
 (({ S with list:=S.list++[⟨l,b,S.used⟩] }:Sv).i9 (aW l[0]!) S.list.length).i9 (aW l[1]!) S.list.length
def iu(S:Sv)(l:List Int):Nat->Nat->Option Nat
 |0,_=>none
 |f+1,k=>if k<l.length then(if 0<=S.val l[k]! then some k else iu S l f (k+1))else none
def rm(S:Sv)(n:Nat)(l:List Int):Option Nat->Sv×Bool
 |some k=>((S.fg n (dK l 1 k)).i9 (aW l[k]!) n,true)
 |none=>(S,false)
def dO(S:Sv)(n:Nat):Sv×Bool:=S.rm n (S.rc n).lits (S.iu (S.rc n).lits (S.rc n).lits.length 2)
def cY(S:Sv)(n:Nat)(off:Int):Sv:=if(S.rc n).lits[0]! =off then S.fg n (dK (S.rc n).lits 0 1)else S
def gM(S:Sv)(n:Nat):Sv×Bool×Bool:=
 let x:=(S.rc n).lits[0]!
 if 0<S.val x then(S,true,true)
 else if(S.dO n).2=true then((S.dO n).1,false,true)
 else if S.val x<0 then(S,true,false)
 else(S.put x (n+1),true,true)
def dC(S:Sv)(n:Nat)(off:Int):Sv×Bool×Bool:=
 if(S.rc n).lits.length=0 then(S,false,true)else(S.cY n off).gM n
def cg(off:Int):List Nat->List Nat->Sv->Sv×Option Nat
 |[],keep,S=>(S.cJ (aW off) (keep++S.gG (aW off)),none)
 |n::r,keep,S=>
  let q:=S.dC n off;let J:=if q.2.1=true then keep++[n]else keep
  if q.2.2=true then cg off r J q.1 else(q.1.cJ (aW off) (J++r),some n)
def dE:Nat->Sv->Sv×Option Nat
 |0,S=>(S,none)
 |f+1,S=>
  if S.head<S.T.lits.length then
   let off:= -(S.T.lits[S.head]!);let q:=cg off (S.gG (aW off)) [] (S.cJ (aW off) [])
   match q.2 with
   |some n=>(q.1,some n)
   |none=>dE f { q.1 with head:=q.1.head+1 }
  else(S,none)
def follow(S:Sv):Sv×Option Nat:=dE (S.vars+1) S
def fW(H:Hp)(x:Int):Hp:=if H.kb x=true/\H.pl x<0 then H.tY x else H
def nH(H:Hp)(x b:Int):Hp:=if H.kb x=true/\0<=b/\b<=1099511627776/\H.sc x<=1125899906842624-b then H.lq x b else H
def eI(level:Int):List Int->Sv->Sv
 |[],S=>S
 |l::r,S=>if S.T.dF (tv l)<=level then S else eI level r { S with phase:=S.phase.set (tv l).toNat (decide (0<l)),H:=fW S.H (tv l) }
def back(S:Sv)(level:Nat):Sv:=
 if S.T.levels.length<=level then S
 else
  let q:=eI level S.T.lits.reverse S
  { q with T:=q.T.dz level,head:=min q.head (q.T.dz level).lits.length }
structure Gr where
 S:Sv
 seen:List Int
 gO:Int
 bH:List Int
def meet(G:Gr)(l:Int):Gr:=
 let v:=tv l
 if v∈G.seen\/G.S.T.dF v<=0 then G
 else
  let J:Sv:={ G.S with H:=nH G.S.H v G.S.bump }
  if J.T.dF v=J.T.levels.length then{ G with S:=J,seen:=v::G.seen,gO:=G.gO+1 }
  else{ G with S:=J,seen:=v::G.seen,bH:=G.bH++[l] }
def meets(skip:Int):List Int->Gr->Gr
 |[],G=>G
 |l::r,G=>meets skip r (if l≠skip then meet G l else G)
def iV(S:Sv)(n:Nat):Sv:={ S with list:=S.list.set n { S.rc n with act:=S.used } }
def fX:Nat->Gr->Int->Int->List Int->Option (Gr×Int)
 |0,_,_,_,_=>none
 |f+1,G,n,skip,rest=>
  let G1:=if 0<=n then meets skip (G.S.rc n.toNat).lits { G with S:=G.S.iV n.toNat }else G
  match rest.dropWhile (fun x=>decide (tv x∉G1.seen))with
  |[]=>none
  |x::r=>
   let J:={ G1 with gO:=G1.gO-1 }
   if J.gO=0 then some (J,x)else fX f J (J.S.T.fV (tv x)-1) x r
def second(T:Tr):Nat->Nat->List Int->Int->List Int×Int
 |0,_,l,db=>(l,db)
 |f+1,k,l,db=>if k<l.length then(if db<T.dF (tv l[k]!)then second T f (k+1) (dK l 1 k) (T.dF (tv l[k]!))else second T f (k+1) l db)else(l,db)
def iN(S:Sv)(n:Nat):Option (Sv×List Int×Int):=
 match fX (S.T.lits.length+1) ⟨S,[],0,[0]⟩ n 0 S.T.lits.reverse with
 |none=>none
 |some (G,x)=>
  let l:=G.bH.set 0 (-x);let q:=second G.S.T l.length 1 l 0
  some (G.S,q.1,q.2)
def cZ(S:Sv):Sv:={ S with bump:=min (S.bump+S.bump/16+1) 1073741824 }
def bQ(S:Sv)(l:List Int):Sv:=
 if l.length=1 then S.put l[0]! 0
 else{ ((S.attach l true).put l[0]! (S.list.length+1))with many:=S.many+1 }
def conflict(S:Sv)(n:Nat):Option (Sv×Bool):=
 if S.T.levels.length=0 then some ({ S with bad:=true },false)
 else
  match S.iN n with
  |none=>none
  |some (J,l,level)=>some (((J.back level.toNat).bQ l).cZ,true)
def locked(S:Sv)(n:Nat):Bool:=decide (0<S.val (S.rc n).lits[0]!)&&decide (S.T.fV (tv (S.rc n).lits[0]!)=n+1)
def De(S:Sv):List Nat:=(List.range S.list.length).filter fun n=>(S.rc n).nI&&decide (2<(S.rc n).lits.length)&& !S.locked n
def cU(S:Sv)(n:Nat):Sv:={ S with list:=S.list.set n ⟨[],false,(S.rc n).act⟩,many:=S.many-1 }
def dY(S:Sv):List Int->List Int->List Int->List Int
 |[],_,met=>met
 |l::r,g,met=>
  if tv l∉g\/S.T.dF (tv l)=0 then dY S r g met
  else if S.T.fV (tv l)-1<0 then dY S r g (l::met)
  else dY S r ((S.rc (S.T.fV (tv l)-1).toNat).lits.map tv++g) met
def iU(met:List Int):List Int->List Int->List Int
 |[],core=>core
 |x::r,core=>iU met r (if x∈met/\x∉core then core++[x]else core)
def Af(S:Sv)(a:Int)(assume:List Int):Sv:={ S with core:=iU (dY S S.T.lits.reverse [tv a] [a]) assume S.core }
def dg:Nat->Sv->Sv×Int
 |0,S=>(S,0)
 |f+1,S=>
  if S.H.items.length=0 then(S,0)
  else
   let v:=S.H.it 0;let J:Sv:={ S with H:=S.H.lu }
   if J.val v≠0 then dg f J else(J,if J.phase[v.toNat]! =true then v else -v)
def pick(S:Sv):Sv×Int:=dg (S.H.items.length+1) S
def keep(S:Sv):Sv:={ S with model:=(List.range (S.vars+1)).map fun v:Nat=>decide (0<S.val (v:Int)),has:=true }
def choose(S:Sv):Sv×Int:=if S.pick.2=0 then(S.pick.1.keep,1)else(S.pick.1.deep.put S.pick.2 0,0)
def bJ(assume:List Int):Nat->Sv->Sv×Int
 |0,S=>S.choose
 |f+1,S=>
  if S.T.levels.length<assume.length then
   let a:=assume[S.T.levels.length]!
   if S.val a= -1 then(S.Af a assume,2)
   else if S.val a=0 then(S.deep.put a 0,0)
   else bJ assume f S.deep
  else S.choose
def aP(S:Sv)(assume:List Int):Sv×Int:=bJ assume (assume.length+1) S
def dH(S:Sv)(n next :Nat):Sv:=if next <=n then S.back 0 else S
def jy:Nat->Int->Hp->Hp
 |0,_,H=>H
 |n+1,v,H=>jy n (v+1) (fW H v)
def grow(S:Sv)(n:Nat):Sv:=
 { S with T:=S.T.eP n,H:=jy n (S.vars+1) (S.H.eP n),phase:=S.phase++List.replicate n false,watch:=S.watch++List.replicate (2*n) [],vars:=S.vars+n }
def bare:Sv:={ T:=Tr.fresh.eP 0,H:=Hp.none_.eP 1,vars:=0,list:=[],watch:=[[],[]],phase:=[false],model:=[],core:=[],head:=0,used:=0,bump:=1,many:=0,cv:=400,bad:=false,has:=false }
def new(vars:Int):Sv:=bare.grow (min (max vars 0) 262143).toNat
end Sv
structure Cw where
 A:Option Addr
 c:Nat
 lits:List Int
 nI:Bool
 act:Int
instance:Inhabited Cw:=⟨⟨none,0,[],false,0⟩⟩
def Cw.rc(x:Cw):Rc:=⟨x.lits,x.nI,x.act⟩
structure Wl where
 A:Option Addr
 c:Nat
 l:List Nat
instance:Inhabited Wl:=⟨⟨none,0,[]⟩⟩
def Wl.val(h:Wl):Value:= .slice h.A h.l.length h.c
def cd(l:List Nat):List Int:=l.map (fun n:Nat=>(n:Int))
theorem bv(l:List Nat):(cd l).length=l.length:=by simp[cd]
theorem rG(l:List Nat)(i:Nat):(cd l)[i]! =((l[i]! :Nat):Int):=by simp only[cd,aa,aZ];cases l[i]? <;>simp
def fP:List Cw->List Value
 |[]=>[]
 |x::r=> .slice x.A x.lits.length x.c:: .bool x.nI:: .int .i64 x.act::fP r
theorem PN(cs:List Cw):(fP cs).length=cs.length*3:=by
 induction cs with
 |nil=>rfl
 |cons x r J=>simp only[fP,b8,J];omega
theorem PO(a b:List Cw):fP (a++b)=fP a++fP b:=by
 induction a with
 |nil=>rfl
 |cons x r J=>simp[fP,J]
theorem oF:∀(cs:List Cw)(i:Nat),i<cs.length->(fP cs)[i*3]? =some (.slice (cs[i]!).A (cs[i]!).lits.length (cs[i]!).c)/\(fP cs)[i*3+1]? =some (.bool (cs[i]!).nI)/\(fP cs)[i*3+2]? =some (.int .i64 (cs[i]!).act)
 |[],i,h=>by simp at h
 |x::r,0,h=>by simp[fP]
 |x::r,i+1,h=>by
  simp only[b8]at h;have J:=oF r i (by omega);have e0:(i+1)*3=i*3+3:=by omega
  simp only[fP,e0];have e1:(x::r)[i+1]! =r[i]! :=by simp
  rw[e1];refine⟨?_,?_,?_⟩
  ·simpa[cD]using J.1
  ·have :i*3+3+1=(i*3+1)+3:=by omega
   rw[this];simpa[cD]using J.2.1
  ·have :i*3+3+2=(i*3+2)+3:=by omega
   rw[this];simpa[cD]using J.2.2
theorem rE:∀(cs:List Cw)(i:Nat)(x:Cw),i<cs.length->(((fP cs).set (i*3) (.slice x.A x.lits.length x.c)).set (i*3+1) (.bool x.nI)).set (i*3+2) (.int .i64 x.act)=fP (cs.set i x)
 |[],i,x,h=>by simp at h
 |y::r,0,x,h=>by simp[fP]
 |y::r,i+1,x,h=>by
  simp only[b8]at h;have ih:=rE r i x (by omega);have e0:(i+1)*3=i*3+1+1+1:=by omega
  have J:i*3+1+1+1+1=(i*3+1)+1+1+1:=rfl;have e2:i*3+1+1+1+2=(i*3+2)+1+1+1:=rfl;simp only[fP,e0,J,e2,List.set_cons_succ,ih]
structure aO where
 a:Nat
 tL:fo
 hL:gK
 cA:Option Addr
 cC:Nat
 wA:Option Addr
 wC:Nat
 pA:Option Addr
 pC:Nat
 mA:Option Addr
 mC:Nat
 oA:Option Addr
 oC:Nat
 cs:List Cw
 ws:List Wl
 id:Nat
 dh:Nat->Nat×Nat×Nat
def qm(L:aO)(S:Sv):Array Value:=
 #[.pointer (some ⟨L.tL.a,0,none⟩), .pointer (some ⟨L.hL.a,0,none⟩), .int .i64 S.vars, .slice L.cA L.cs.length L.cC, .slice L.wA L.ws.length L.wC, .slice L.pA S.phase.length L.pC, .slice L.mA S.model.length L.mC, .slice L.oA S.core.length L.oC,
  .int .i64 S.head, .int .i64 S.used, .int .i64 S.bump, .int .i64 S.many, .int .i64 S.cv, .bool S.bad, .bool S.has]
def Bools(w:World)(A:Option Addr)(c:Nat)(l:List Bool):Prop:=w.ownsRow 0 4 1 (.slice A l.length c) l.length (l.map Value.bool)
def uN(w:World)(A:Option Addr)(c:Nat)(l:List Cw):Prop:=w.ownsRow 0 168 3 (.slice A l.length c) l.length (fP l)
def uM(w:World)(A:Option Addr)(c:Nat)(l:List Wl):Prop:=w.ownsRow 0 22 1 (.slice A l.length c) l.length (l.map Wl.val)
theorem eK{w:World}{b:Nat}{e:TypeId}{size n m c:Nat}{A:Option Addr}{vs:List Value}(h:w.ownsRow b e size (.slice A m c) n vs):∀k,k∈ao A->k<w.heap.size:=by
 intro k hk;rcases h.2 with⟨h1,_⟩ |⟨g,cap,cur,J,_,hg,_⟩
 ·simp only[Value.slice.injEq]at h1;rw[h1.1]at hk;simp[ao]at hk
 ·simp only[Value.slice.injEq]at J;obtain⟨rfl,_⟩:=J;simp[ao]at hk;subst hk;exact At.lt (t:=e) hg
structure bh(w:World)(L:aO)(S:Sv):Prop where
 obj:At w L.a 112 (qm L S)
 tr:TrAt w L.tL S.T
 hp:cT w L.hL S.H
 jf:L.hL.A2.isSome=true
 CJ:L.cs.map Cw.rc=S.list
 CI:L.ws.map (·.l)=S.watch
 wD:uN w L.cA L.cC L.cs
 rws:uM w L.wA L.wC L.ws
 wv:Bools w L.pA L.pC S.phase
 yd:Bools w L.mA L.mC S.model
 vm:Ints w L.oA L.oC S.core
 qM:∀n:Nat,n<L.cs.length->Ints w (L.cs[n]!).A (L.cs[n]!).c (L.cs[n]!).lits
 sV:∀c:Nat,c<L.ws.length->Ints w (L.ws[c]!).A (L.ws[c]!).c (cd (L.ws[c]!).l)
 t0:L.dh L.a=(L.id,0,0)
 t1:∀k,k∈L.tL.fp->L.dh k=(L.id,1,0)
 t2:∀k,k∈L.hL.fp->L.dh k=(L.id,2,0)
 t3:∀k,k∈ao L.cA->L.dh k=(L.id,3,0)
 t4:∀k,k∈ao L.wA->L.dh k=(L.id,4,0)
 t5:∀k,k∈ao L.pA->L.dh k=(L.id,5,0)
 t6:∀k,k∈ao L.mA->L.dh k=(L.id,6,0)
 t7:∀k,k∈ao L.oA->L.dh k=(L.id,7,0)
 t8:∀n:Nat,n<L.cs.length->∀k,k∈ao (L.cs[n]!).A->L.dh k=(L.id,8,n)
 t9:∀c:Nat,c<L.ws.length->∀k,k∈ao (L.ws[c]!).A->L.dh k=(L.id,9,c)
def aO.own(L:aO)(w:World):List Nat:=(List.range w.heap.size).filter fun k=>(L.dh k).1==L.id
theorem aO.cj{L:aO}{w:World}{k:Nat}:k∈L.own w↔k<w.heap.size/\(L.dh k).1=L.id:=by simp[aO.own]
def aO.ext(L L':aO)(w:World):Prop:=L'.a=L.a/\L'.id=L.id/\∀k,k<w.heap.size->(L'.dh k).1=L.id->(L.dh k).1=L.id
theorem aO.cw(L:aO)(w:World):L.ext L w:=⟨rfl,rfl,fun _ _ h=>h⟩
theorem aO.a6{L M N:aO}{w w':World}(h:L.ext M w)(k:M.ext N w')(hw:w.heap.size<=w'.heap.size):L.ext N w:=
 ⟨k.1.trans h.1,k.2.1.trans h.2.1,fun j J e=>h.2.2 j J ((k.2.2 j (aS J hw) (e.trans h.2.1.symm)).trans h.2.1)⟩
theorem aO.aQ{L M:aO}{w w' J:World}(h:L.ext M w)(h1:Fr (L.own w) w w')(h2:Fr (M.own w') w' J):Fr (L.own w) w J:=
 h1.trans h2 fun x hx=>by
  rw[aO.cj]at hx;rcases bN x w.heap.size with hl |hl
  ·left
   rw[aO.cj];exact⟨hl,h.2.2 x hl (hx.2.trans h.2.1)⟩
  ·exact .inr hl
def aO.re(L:aO)(w:World)(t:Nat×Nat):Nat->Nat×Nat×Nat:=fun k=>if k<w.heap.size then L.dh k else(L.id,t)
theorem aO.jx{L:aO}{w:World}{t:Nat×Nat}{k:Nat}(h:k<w.heap.size):L.re w t k=L.dh k:=qai h
theorem aO.RN{L:aO}{w:World}{t:Nat×Nat}{k:Nat}(h:w.heap.size<=k):L.re w t k=(L.id,t):=qah (by omega)
theorem fc{w w':World}{F:List Nat}{e:TypeId}{size n m c b:Nat}{A:Option Addr}{J:List Value}(h:w.ownsRow b e size (.slice A m c) n J)(hf:Fr F w w')(hd:∀k,k∈ao A->k∉F):w'.ownsRow b e size (.slice A m c) n J:=
 hf.own h fun k hk=>hd k ((k7 k).1 hk)
structure ahv(w':World)(L:aO)(S:Sv)(P:Nat×Nat->Prop):Prop where
 obj:¬P (0,0)->At w' L.a 112 (qm L S)
 tr:¬P (1,0)->TrAt w' L.tL S.T
 hp:¬P (2,0)->cT w' L.hL S.H
 wD:¬P (3,0)->uN w' L.cA L.cC L.cs
 rws:¬P (4,0)->uM w' L.wA L.wC L.ws
 wv:¬P (5,0)->Bools w' L.pA L.pC S.phase
 yd:¬P (6,0)->Bools w' L.mA L.mC S.model
 vm:¬P (7,0)->Ints w' L.oA L.oC S.core
 qM:∀n:Nat,n<L.cs.length->¬P (8,n)->Ints w' (L.cs[n]!).A (L.cs[n]!).c (L.cs[n]!).lits
 sV:∀c:Nat,c<L.ws.length->¬P (9,c)->Ints w' (L.ws[c]!).A (L.ws[c]!).c (cd (L.ws[c]!).l)
theorem bh.off{w w':World}{L:aO}{S:Sv}(h:bh w L S){P:Nat×Nat->Prop}{F:List Nat}(hf:Fr F w w')(hF:∀k,k∈F->k<w.heap.size->∃t,P t/\L.dh k=(L.id,t)):ahv w' L S P:=by
 have key:∀{k:Nat}{u:Nat×Nat},k<w.heap.size->L.dh k=(L.id,u)->¬P u->k∉F:=fun hk hl dV hm=>dV (by
  obtain⟨t,ht,h2⟩:=hF _ hm hk;have :=h2.symm.trans hl;simp only[Prod.mk.injEq,true_and]at this;obtain rfl :t=_:=by simpa[Prod.ext_iff]using this
  exact ht)
 refine⟨fun J=>hf.at_ h.obj (key h.obj.lt h.t0 J),fun J=>h.tr.fr hf (fun k hk=>key (h.tr.lt k hk) (h.t1 k hk) J),fun J=>h.hp.fr hf (fun k hk=>key (h.hp.lt k hk) (h.t2 k hk) J),
  fun J=>fc h.wD hf (fun k hk=>key (eK h.wD k hk) (h.t3 k hk) J),fun J=>fc h.rws hf (fun k hk=>key (eK h.rws k hk) (h.t4 k hk) J),
  fun J=>fc h.wv hf (fun k hk=>key (eK h.wv k hk) (h.t5 k hk) J),fun J=>fc h.yd hf (fun k hk=>key (eK h.yd k hk) (h.t6 k hk) J),
  fun J=>h.vm.fr hf (fun k hk=>key (h.vm.lt k hk) (h.t7 k hk) J),fun n hl J=>(h.qM n hl).fr hf (fun k hk=>key ((h.qM n hl).lt k hk) (h.t8 n hl k hk) J),
  fun c hl J=>(h.sV c hl).fr hf (fun k hk=>key ((h.sV c hl).lt k hk) (h.t9 c hl k hk) J)⟩
theorem bh.fr{w w':World}{L:aO}{S:Sv}(h:bh w L S){F:List Nat}(J:Fr F w w')(hF:∀k,k∈F->k<w.heap.size->(L.dh k).1≠L.id):bh w' L S:=by
 have key:∀{k:Nat}{u:Nat×Nat},k<w.heap.size->L.dh k=(L.id,u)->k∉F:=fun hk hl hm=>hF _ hm hk (by rw[hl]);exact⟨J.at_ h.obj (key h.obj.lt h.t0),h.tr.fr J (fun k hk=>key (h.tr.lt k hk) (h.t1 k hk)),h.hp.fr J (fun k hk=>key (h.hp.lt k hk) (h.t2 k hk)),h.jf,h.CJ,h.CI,
  fc h.wD J (fun k hk=>key (eK h.wD k hk) (h.t3 k hk)),fc h.rws J (fun k hk=>key (eK h.rws k hk) (h.t4 k hk)),
  fc h.wv J (fun k hk=>key (eK h.wv k hk) (h.t5 k hk)),fc h.yd J (fun k hk=>key (eK h.yd k hk) (h.t6 k hk)),
  h.vm.fr J (fun k hk=>key (h.vm.lt k hk) (h.t7 k hk)),fun n hl=>(h.qM n hl).fr J (fun k hk=>key ((h.qM n hl).lt k hk) (h.t8 n hl k hk)),
  fun c hl=>(h.sV c hl).fr J (fun k hk=>key ((h.sV c hl).lt k hk) (h.t9 c hl k hk)),h.t0,h.t1,h.t2,h.t3,h.t4,h.t5,h.t6,h.t7,h.t8,h.t9⟩
theorem bh.keep{w w':World}{L:aO}{S:Sv}(h:bh w L S)(J:Fr [] w w'):bh w' L S:=h.fr J (fun k hk=>by cases hk)
structure aco(L:aO)(dh:Nat->Nat×Nat×Nat):Prop where
 t0:dh L.a=(L.id,0,0)
 t1:∀k,k∈L.tL.fp->dh k=(L.id,1,0)
 t2:∀k,k∈L.hL.fp->dh k=(L.id,2,0)
 t3:∀k,k∈ao L.cA->dh k=(L.id,3,0)
 t4:∀k,k∈ao L.wA->dh k=(L.id,4,0)
 t5:∀k,k∈ao L.pA->dh k=(L.id,5,0)
 t6:∀k,k∈ao L.mA->dh k=(L.id,6,0)
 t7:∀k,k∈ao L.oA->dh k=(L.id,7,0)
 t8:∀n:Nat,n<L.cs.length->∀k,k∈ao (L.cs[n]!).A->dh k=(L.id,8,n)
 t9:∀c:Nat,c<L.ws.length->∀k,k∈ao (L.ws[c]!).A->dh k=(L.id,9,c)
theorem bh.tags{w:World}{L:aO}{S:Sv}(h:bh w L S)(t:Nat×Nat):aco L (L.re w t):=by
 refine⟨?_,fun k hk=> ?_,fun k hk=> ?_,fun k hk=> ?_,fun k hk=> ?_,fun k hk=> ?_,fun k hk=> ?_,fun k hk=> ?_,fun n J k hk=> ?_,fun n J k hk=> ?_⟩
 ·rw[aO.jx h.obj.lt];exact h.t0
 ·rw[aO.jx (h.tr.lt k hk)];exact h.t1 k hk
 ·rw[aO.jx (h.hp.lt k hk)];exact h.t2 k hk
 ·rw[aO.jx (eK h.wD k hk)];exact h.t3 k hk
 ·rw[aO.jx (eK h.rws k hk)];exact h.t4 k hk
 ·rw[aO.jx (eK h.wv k hk)];exact h.t5 k hk
 ·rw[aO.jx (eK h.yd k hk)];exact h.t6 k hk
 ·rw[aO.jx (h.vm.lt k hk)];exact h.t7 k hk
 ·rw[aO.jx ((h.qM n J).lt k hk)];exact h.t8 n J k hk
 ·rw[aO.jx ((h.sV n J).lt k hk)];exact h.t9 n J k hk
theorem aO.o4{L:aO}{w:World}{t:Nat×Nat}{k:Nat}(h:(k<w.heap.size/\L.dh k=(L.id,t))\/w.heap.size<=k):L.re w t k=(L.id,t):=by
 rcases h with⟨h1,J⟩ |h1
 ·rw[aO.jx h1,J]
 ·exact aO.RN h1
theorem aO.iJ{L:aO}{w w':World}{F:List Nat}(hf:Fr F w w')(J:∀k,k∈F->k<w.heap.size->(L.dh k).1=L.id):Fr (L.own w) w w':=
 hf.mono fun k hk=>by
  rcases bN k w.heap.size with hl |hl
  ·left
   rw[aO.cj];exact⟨hl,J k hk hl⟩
  ·exact .inr hl
theorem aO.qs{L:aO}{w:World}{t:Nat×Nat}{k:Nat}(h:k<w.heap.size)(e:(L.re w t k).1=L.id):(L.dh k).1=L.id:=by rwa[aO.jx h]at e
theorem bh.yL{w w':World}{L:aO}{S:Sv}(h:bh w L S){J:fo}{T':Tr}(ht:TrAt w' J T')(he:L.tL.ext J w)(hf:Fr L.tL.fp w w'):
  ∃L',bh w' L' { S with T:=T' }/\L.ext L' w/\Fr (L.own w) w w':=by
 have hF:∀k,k∈L.tL.fp->k<w.heap.size->L.dh k=(L.id,1,0):=fun k hk _=>h.t1 k hk;have o:=h.off (P:=(· =(1,0))) hf (fun k hk hl=>⟨_,rfl,hF k hk hl⟩);have g:=h.tags (1,0);have ea:=he.1;refine⟨{ L with tL:=J,dh:=L.re w (1,0) },⟨?_,ht,o.hp (by decide),h.jf,h.CJ,h.CI,o.wD (by decide),o.rws (by decide),o.wv (by decide),o.yd (by decide),o.vm (by decide),fun n hn=>o.qM n hn (by simp),fun n hn=>o.sV n hn (by simp),
  g.t0,fun k hk=>aO.o4 ((he.2 k hk).imp (fun h1=>⟨h.tr.lt k h1,h.t1 k h1⟩) id),g.t2,g.t3,g.t4,g.t5,g.t6,g.t7,g.t8,g.t9⟩,⟨rfl,rfl,fun k hk e=>aO.qs hk e⟩,aO.iJ hf (fun k hk hl=>by rw[hF k hk hl])⟩
 have :=o.obj (by decide);simp only[qm]at this⊢;rw[ea];exact this
theorem bh.heap{w w':World}{L:aO}{S:Sv}(h:bh w L S){J:gK}{H':Hp}(ht:cT w' J H')(he:L.hL.ext J w)(hf:Fr L.hL.fp w w'):
  ∃L',bh w' L' { S with H:=H' }/\L.ext L' w/\Fr (L.own w) w w':=by
 have hF:∀k,k∈L.hL.fp->k<w.heap.size->L.dh k=(L.id,2,0):=fun k hk _=>h.t2 k hk;have o:=h.off (P:=(· =(2,0))) hf (fun k hk hl=>⟨_,rfl,hF k hk hl⟩);have g:=h.tags (2,0);have ea:=he.1;refine⟨{ L with hL:=J,dh:=L.re w (2,0) },⟨?_,o.tr (by decide),ht,he.2.2 h.jf,h.CJ,h.CI,o.wD (by decide),o.rws (by decide),o.wv (by decide),o.yd (by decide),o.vm (by decide),fun n hn=>o.qM n hn (by simp),fun n hn=>o.sV n hn (by simp),
  g.t0,g.t1,fun k hk=>aO.o4 ((he.2.1 k hk).imp (fun h1=>⟨h.hp.lt k h1,h.t2 k h1⟩) id),g.t3,g.t4,g.t5,g.t6,g.t7,g.t8,g.t9⟩,⟨rfl,rfl,fun k hk e=>aO.qs hk e⟩,aO.iJ hf (fun k hk hl=>by rw[hF k hk hl])⟩
 have :=o.obj (by decide);simp only[qm]at this⊢;rw[ea];exact this
theorem bh.top{w w':World}{L L':aO}{S S':Sv}(h:bh w L S)(hf:Fr [L.a] w w')(ho:At w' L.a 112 (qm L' S'))
  (hL:L'.a=L.a/\L'.tL=L.tL/\L'.hL=L.hL/\L'.cA=L.cA/\L'.cC=L.cC/\L'.wA=L.wA/\L'.wC=L.wC/\L'.pA=L.pA/\L'.pC=L.pC/\L'.mA=L.mA/\L'.mC=L.mC/\L'.oA=L.oA/\L'.oC=L.oC/\L'.cs=L.cs/\L'.ws=L.ws/\L'.id=L.id/\L'.dh=L.dh)
  (hS:S'.T=S.T/\S'.H=S.H/\S'.list=S.list/\S'.watch=S.watch/\S'.phase=S.phase/\S'.model=S.model/\S'.core=S.core):bh w' L' S'/\L.ext L' w/\Fr (L.own w) w w':=by
 have hF:∀k,k∈[L.a]->k<w.heap.size->L.dh k=(L.id,0,0):=fun k hk _=>by simp at hk;subst hk;exact h.t0
 have o:=h.off (P:=(· =(0,0))) hf (fun k hk hl=>⟨_,rfl,hF k hk hl⟩);obtain⟨L1,L2,L3,L4,L5,L6,L7,L8,L9,ar,aK,aB,aM,ab,ad,Ut,J⟩:=hL;obtain⟨S1,S2,S3,S4,S5,S6,S7⟩:=hS;refine⟨⟨by rw[L1];exact ho,?_,?_,?_,?_,?_,?_,?_,?_,?_,?_,?_,?_,?_,?_,?_,?_,?_,?_,?_,?_,?_,?_⟩,⟨L1,Ut,fun k _ e=>by rwa[J]at e⟩,aO.iJ hf (fun k hk hl=>by rw[hF k hk hl])⟩
 ·rw[L2,S1];exact o.tr (by decide)
 ·rw[L3,S2];exact o.hp (by decide)
 ·rw[L3];exact h.jf
 ·rw[ab,S3];exact h.CJ
 ·rw[ad,S4];exact h.CI
 ·rw[L4,L5,ab];exact o.wD (by decide)
 ·rw[L6,L7,ad];exact o.rws (by decide)
 ·rw[L8,L9,S5];exact o.wv (by decide)
 ·rw[ar,aK,S6];exact o.yd (by decide)
 ·rw[aB,aM,S7];exact o.vm (by decide)
 ·rw[ab];exact fun n hn=>o.qM n hn (by simp)
 ·rw[ad];exact fun n hn=>o.sV n hn (by simp)
 ·rw[J,L1,Ut];exact h.t0
 ·rw[J,L2,Ut];exact h.t1
 ·rw[J,L3,Ut];exact h.t2
 ·rw[J,L4,Ut];exact h.t3
 ·rw[J,L6,Ut];exact h.t4
 ·rw[J,L8,Ut];exact h.t5
 ·rw[J,ar,Ut];exact h.t6
 ·rw[J,aB,Ut];exact h.t7
 ·rw[J,ab,Ut];exact h.t8
 ·rw[J,ad,Ut];exact h.t9
theorem mp{α:Type}{l:List α}{i:Nat}{x:α}(h:l[i]? =some x):l.set i x=l:=by
 apply List.ext_getElem?;intro j;rw[List.getElem?_set];split
 ·rename_i e;subst e;split
  ·exact h.symm
  ·rename_i hl;rw[iZ (by omega)]
 ·rfl
theorem eQ{α:Type}[Inhabited α](l:List α)(i j:Nat)(x:α):(l.set i x)[j]! =if i=j/\i<l.length then x else l[j]! :=by
 simp only[aa,List.getElem?_set];by_cases h:i=j
 ·subst h;by_cases J:i<l.length
  ·simp[J]
  ·simp[J]
 ·simp[h]
theorem bh.Y7{w w':World}{L:aO}{S:Sv}(h:bh w L S){n:Nat}(J:n<L.cs.length){ls:List Int}{F:List Nat}(hi:Ints w' (L.cs[n]!).A (L.cs[n]!).c ls)(hl:ls.length=(L.cs[n]!).lits.length)
  (hf:Fr F w w') (hF:∀k,k∈F->k<w.heap.size->L.dh k=(L.id,8,n)):∃L',bh w' L' (S.fg n ls)/\L.ext L' w/\Fr (L.own w) w w'/\L'.cs=L.cs.set n { L.cs[n]! with lits:=ls }/\L'.ws=L.ws/\L'.wA=L.wA/\L'.tL=L.tL:=by
 have o:=h.off (P:=(· =(8,n))) hf (fun k hk hl=>⟨_,rfl,hF k hk hl⟩);have rS:∀j:Nat,(L.cs.set n { L.cs[n]! with lits:=ls })[j]! =if n=j/\n<L.cs.length then{ L.cs[n]! with lits:=ls }else L.cs[j]! :=fun j=>eQ _ _ _ _;refine⟨{ L with cs:=L.cs.set n { L.cs[n]! with lits:=ls } },⟨?_,o.tr (by simp),o.hp (by simp),h.jf,?_,h.CI,?_,o.rws (by simp),o.wv (by simp),o.yd (by simp),o.vm (by simp),?_,fun c hc=>o.sV c hc (by simp),h.t0,h.t1,h.t2,h.t3,h.t4,h.t5,h.t6,h.t7,?_,h.t9⟩,⟨rfl,rfl,fun k _ e=>e⟩,aO.iJ hf (fun k hk hl=>by rw[hF k hk hl]),rfl,rfl,rfl,rfl⟩
 ·have :=o.obj (by simp);simp only[qm,Sv.fg,aw]at this⊢;exact this
 ·simp only[Sv.fg,Sv.rc];rw[<-h.CJ,List.map_set];congr 1;simp only[Cw.rc,aa,aZ,af J,dA,aJ]
 ·have :=o.wD (by simp);unfold uN at this⊢;have e:fP (L.cs.set n { L.cs[n]! with lits:=ls })=fP L.cs:=by obtain⟨g0,g1,g2⟩:=oF L.cs n J;rw[<-rE L.cs n _ J];simp only;have e0:(fP L.cs).set (n*3) (.slice (L.cs[n]!).A ls.length (L.cs[n]!).c)=fP L.cs:=mp (by rw[hl];exact g0);rw[e0,mp g1,mp g2]
  simp only[aw,e];exact this
 ·intro j hj;simp only[aw]at hj;simp only;rw[rS];by_cases e:n=j
  ·subst e;rw[qai ⟨rfl,J⟩];exact hi
  ·rw[qah (fun x=>e x.1)];exact o.qM j hj (by simp;omega)
 ·intro j hj k hk;simp only[aw]at hj;simp only at hk;rw[rS]at hk;by_cases e:n=j
  ·subst e;rw[qai ⟨rfl,J⟩]at hk;exact h.t8 n J k hk
  ·rw[qah (fun x=>e x.1)]at hk;exact h.t8 j hj k hk
theorem bh.lits{w w':World}{L:aO}{S:Sv}(h:bh w L S){n:Nat}(hn:n<L.cs.length){ls:List Int}{F:List Nat}(hi:Ints w' (L.cs[n]!).A (L.cs[n]!).c ls)(hl:ls.length=(L.cs[n]!).lits.length)
  (hf:Fr F w w') (hF:∀k,k∈F->k<w.heap.size->L.dh k=(L.id,8,n)):∃L',bh w' L' (S.fg n ls)/\L.ext L' w/\Fr (L.own w) w w'/\L'.cs=L.cs.set n { L.cs[n]! with lits:=ls }/\L'.ws=L.ws/\L'.wA=L.wA:=by
 obtain⟨L',h1,J,h3,h4,h5,h6,_⟩:=h.Y7 hn hi hl hf hF;exact⟨L',h1,J,h3,h4,h5,h6⟩
theorem bh.cJ{w w1:World}{L:aO}{S:Sv}(h:bh w L S){c:Nat}(hc:c<L.ws.length){A':Option Addr}{c':Nat}{l':List Nat}{F:List Nat}(hi:Ints w1 A' c' (cd l'))
  (hf:Fr F w w1) (hF:∀k,k∈F->k<w.heap.size->L.dh k=(L.id,9,c)) (hA:∀k,k∈ao A'->(k<w.heap.size/\L.dh k=(L.id,9,c))\/w.heap.size<=k):
  ∃J,L.wA=some ⟨J,0,none⟩/\J<w.heap.size/\w1.frozen? ⟨J,c,none⟩=false/\∃L',bh (w1.setCell ⟨J,c,none⟩ (.slice A' l'.length c')) L' (S.cJ c l')/\L.ext L' w/\Fr (L.own w) w (w1.setCell ⟨J,c,none⟩ (.slice A' l'.length c'))/\L'={ L with ws:=L.ws.set c ⟨A',c',l'⟩,dh:=L.re w (9,c) }:=by
 have o1:=h.off (P:=(· =(9,c))) hf (fun k hk hl=>⟨_,rfl,hF k hk hl⟩);have r1:=o1.rws (by simp);have xJ:∃J,L.wA=some ⟨J,0,none⟩/\J<w.heap.size:=by
  rcases h.rws.2 with⟨_,h2⟩ |⟨g,cap,cur,hv,_,hg,_⟩
  ·omega
  ·simp only[Value.slice.injEq,true_and]at hv;exact⟨g,hv.1,At.lt (t:=22) hg⟩
 obtain⟨J,ab,wX⟩:=xJ;have mH:L.dh J=(L.id,4,0):=h.t4 J (by rw[ab];simp[ao]);have ad:=r1;unfold uM at r1;rw[ab]at r1;have pO:=(World.ownsRow.stored r1 c (.slice A' l'.length c')).1;have cE:Fr (J::F) w (w1.setCell ⟨J,c,none⟩ (.slice A' l'.length c')):=(hf.mono (fun k hk=> .inl (by simp[hk]))).setCell (.inl (by simp)) _;have zC:∀k,k∈J::F->k<w.heap.size->∃t,(t=(9,c)\/t=(4,0))/\L.dh k=(L.id,t):=by
  intro k hk hl;rcases ay.1 hk with rfl |hk
  ·exact⟨_, .inr rfl,mH⟩
  ·exact⟨_, .inl rfl,hF k hk hl⟩
 have o:=h.off (P:=fun t=>t=(9,c)\/t=(4,0)) cE zC;have g:=h.tags (9,c);have dV:∀k,k∈ao A'->k≠J:=by
  rintro k hk rfl;rcases hA k hk with⟨_,h2⟩ |h2
  ·rw[mH]at h2;simp at h2
  ·omega
 have rS:∀j:Nat,(L.ws.set c ⟨A',c',l'⟩)[j]! =if c=j/\c<L.ws.length then⟨A',c',l'⟩else L.ws[j]! :=fun j=>eQ _ _ _ _;refine⟨J,ab,wX,World.ownsRow.frozenAt r1 c,{ L with ws:=L.ws.set c ⟨A',c',l'⟩,dh:=L.re w (9,c) },⟨?_,o.tr (by simp),o.hp (by simp),h.jf,h.CJ,?_,o.wD (by simp),?_,o.wv (by simp),o.yd (by simp),o.vm (by simp),fun n hn=>o.qM n hn (by simp),?_,
  g.t0,g.t1,g.t2,g.t3,g.t4,g.t5,g.t6,g.t7,g.t8,?_⟩,⟨rfl,rfl,fun k hk e=>aO.qs hk e⟩,aO.iJ cE (fun k hk hl=>by obtain⟨t,_,e⟩:=zC k hk hl;rw[e]),rfl⟩
 ·have :=o.obj (by simp);simp only[qm,Sv.cJ,aw]at this⊢;exact this
 ·simp only[Sv.cJ];rw[<-h.CI,List.map_set]
 ·unfold uM;simp only[aw,List.map_set];rw[ab];exact pO
 ·intro j hj;simp only[aw]at hj;simp only;rw[rS];by_cases e:c=j
  ·subst e;rw[qai ⟨rfl,hc⟩];exact hi.ie (p:=⟨J,c,none⟩) (fun hk=>dV _ hk rfl) _
  ·rw[qah (fun x=>e x.1)];exact o.sV j hj (by simp;omega)
 ·intro j hj k hk;simp only[aw]at hj;simp only at hk;rw[rS]at hk;by_cases e:c=j
  ·subst e;rw[qai ⟨rfl,hc⟩]at hk;exact aO.o4 (hA k hk)
  ·rw[qah (fun x=>e x.1)]at hk;exact g.t9 j hj k hk
theorem pu(w:World)(l:Int)(h0: -1000000000<=l)(h1:l<=1000000000):
  Calls Tryz.prog 136 #[.int .i64 l] w fun e w'=>e= .returned (.int .i64 (aW l:Nat))/\w=w':=by
 by_cases J:l<0
 ·have hd:decide (l<0)=true:=qak J;have hc:aj ((aW l:Int)= -2*l+1):=by unfold aW aj;rw[qai J];omega
  have hk:aj (∀x:Int,x= -2*l+1->Ending.returned (.int .i64 x)= .returned (.int .i64 (aW l:Nat))):=fun x hx=>by rw[hx,hc.o]
  go_enter Tryz.func136,Tryz.ntmps136;go_wp2;go_ret;exact⟨hk.o _ (by first |rfl |omega | (simp;omega)),rfl⟩
 ·have hd:decide (l<0)=false:=qaj J;have hc:aj ((aW l:Int)=2*l):=by unfold aW aj;rw[qah J];omega
  have hk:aj (∀x:Int,x=2*l->Ending.returned (.int .i64 x)= .returned (.int .i64 (aW l:Nat))):=fun x hx=>by rw[hx,hc.o]
  go_enter Tryz.func136,Tryz.ntmps136;go_wp2;go_ret;exact⟨hk.o _ (by first |rfl |omega | (simp;omega)),rfl⟩
theorem bh.cells{w:World}{L:aO}{S:Sv}(h:bh w L S):
  w.cell? ⟨L.a,0,none⟩=some (.pointer (some ⟨L.tL.a,0,none⟩))/\w.cell? ⟨L.a,1,none⟩=some (.pointer (some ⟨L.hL.a,0,none⟩))/\w.cell? ⟨L.a,2,none⟩=some (.int .i64 S.vars)/\w.cell? ⟨L.a,3,none⟩=some (.slice L.cA L.cs.length L.cC)/\
  w.cell? ⟨L.a,4,none⟩=some (.slice L.wA L.ws.length L.wC)/\w.cell? ⟨L.a,5,none⟩=some (.slice L.pA S.phase.length L.pC)/\w.cell? ⟨L.a,6,none⟩=some (.slice L.mA S.model.length L.mC)/\w.cell? ⟨L.a,7,none⟩=some (.slice L.oA S.core.length L.oC)/\
  w.cell? ⟨L.a,8,none⟩=some (.int .i64 S.head)/\w.cell? ⟨L.a,9,none⟩=some (.int .i64 S.used)/\w.cell? ⟨L.a,10,none⟩=some (.int .i64 S.bump)/\w.cell? ⟨L.a,11,none⟩=some (.int .i64 S.many)/\w.cell? ⟨L.a,12,none⟩=some (.int .i64 S.cv)/\
  w.cell? ⟨L.a,13,none⟩=some (.bool S.bad)/\w.cell? ⟨L.a,14,none⟩=some (.bool S.has):=by
 have o:=h.obj;refine⟨?_,?_,?_,?_,?_,?_,?_,?_,?_,?_,?_,?_,?_,?_,?_⟩<;>(rw[o.cell];rfl)
theorem my(w:World)(L:aO)(S:Sv)(h:bh w L S):
  Calls Tryz.prog 74 #[.pointer (some ⟨L.a,0,none⟩)] w fun e w'=>e= .returned (.bool true)/\w=w':=by
 obtain⟨J,-⟩:=h.cells;clear h;go_enter Tryz.func74,Tryz.ntmps74;go_wp2;go_ret;exact⟨rfl,rfl⟩
theorem yH(w:World)(L:aO)(S:Sv)(h:bh w L S):
  Calls Tryz.prog 42 #[.pointer (some ⟨L.a,0,none⟩)] w fun e w'=>e= .returned (.int .i64 S.used)/\w=w':=by
 have J:=ae (my w L S h);obtain⟨-,-,-,-,-,-,-,-,-,c9,-⟩:=h.cells;clear h;go_enter Tryz.func42,Tryz.ntmps42;go_wp2_with fail;refine J.o.mono ?_;rintro e w1 ⟨rfl,rfl⟩;go_wp2;go_ret;exact⟨rfl,rfl⟩
structure Sv.Ok(S:Sv)(m:Nat):Prop where
 vl:S.vars<=262143
 tr:∃R,TRep S.T S.vars R S.T.levels.length
 hi:HI S.H
 hl:S.H.at_.length=S.vars+1
 ph:S.phase.length=S.vars+1
 wl:S.watch.length=2*S.vars+2
 ll:S.list.length<=2199023255552
 wb:∀c n:Nat,n∈S.watch[c]! ->n<S.list.length
 wt:(S.watch.map List.length).sum+m<=2*S.list.length
 lr:∀n:Nat,∀x∈(S.rc n).lits,x≠0/\ -(S.vars:Int)<=x/\x<=S.vars
 ln:∀n:Nat,(S.rc n).lits.length≠1
 lb:∀n:Nat,(S.rc n).lits.length<=1048576
 hd:S.head<=S.T.lits.length
 rs:∀v:Int,0<=S.T.fV v/\S.T.fV v<=S.list.length
theorem Sv.Ok.small{S:Sv}{m:Nat}(ok:S.Ok m):∀v:Int,1<=v->v<S.T.cells.length-> -1<=(S.T.mf v).v/\(S.T.mf v).v<=1:=by obtain⟨R,J⟩:=ok.tr;exact J.small
theorem Sv.Ok.lit{S:Sv}{m:Nat}(ok:S.Ok m){n k:Nat}(hk:k<(S.rc n).lits.length):(S.rc n).lits[k]! ≠0/\ -(S.vars:Int)<=(S.rc n).lits[k]! /\(S.rc n).lits[k]! <=S.vars:=
 ok.lr n _ (by simp only[aa,af hk,aJ];exact gu hk)
theorem iR{x:Int}{v:Nat}(J: -(v:Int)<=x)(h1:x<=v):aW x<2*v+2:=by unfold aW;split<;>omega
theorem MI:∀(l:List Nat)(c:Nat),l[c]! <=l.sum
 |[],c=>by simp
 |x::r,0=>by simp
 |x::r,c+1=>by have :=MI r c;simp only[List.sum_cons];simp at this⊢;omega
theorem Sv.Ok.room{S:Sv}{m:Nat}(ok:S.Ok m)(c:Nat):(S.watch[c]!).length<=4398046511104:=by
 have h1:=MI (S.watch.map List.length) c;have J:=ok.wt;have h3:=ok.ll;have e:(S.watch.map List.length)[c]! =(S.watch[c]!).length:=by simp only[aa,aZ];cases S.watch[c]? <;>rfl
 omega
theorem Lu{S:Sv}{l:List Int}{f k:Nat}(h:l.length<=k):S.iu l f k=none:=by
 cases f with
 |zero=>rfl
 |succ f=>simp only[Sv.iu];rw[qah (by omega)]
theorem TU{S:Sv}{l:List Int}{f k:Nat}(h:k<l.length)(J:¬0<=S.val l[k]!):S.iu l (f+1) k=S.iu l f (k+1):=by simp only[Sv.iu];rw[qai h,qah J]
theorem PQ{S:Sv}{l:List Int}{f k:Nat}(h:k<l.length)(J:0<=S.val l[k]!):S.iu l (f+1) k=some k:=by simp only[Sv.iu];rw[qai h,qai J]
theorem bh.sh{w:World}{L:aO}{S:Sv}(h:bh w L S){n:Nat}(J:n<L.cs.length):S.rc n=(L.cs[n]!).rc:=by unfold Sv.rc;rw[<-h.CJ];simp only[aa,aZ,af J,dA,aJ]
theorem bh.qab{w:World}{L:aO}{S:Sv}(h:bh w L S){c:Nat}(hc:c<L.ws.length):S.gG c=(L.ws[c]!).l:=by unfold Sv.gG;rw[<-h.CI];simp only[aa,aZ,af hc,dA,aJ]
theorem bh.pN{w:World}{L:aO}{S:Sv}(h:bh w L S):L.cs.length=S.list.length:=by rw[<-h.CJ,aG]
theorem bh.uf{w:World}{L:aO}{S:Sv}(h:bh w L S):L.ws.length=S.watch.length:=by rw[<-h.CI,aG]
theorem bh.sg{w:World}{L:aO}{S:Sv}(h:bh w L S){n:Nat}(hn:n<L.cs.length):∃g,L.cA=some ⟨g,0,none⟩/\
  w.cell? ⟨g,n*3,none⟩=some (.slice (L.cs[n]!).A (L.cs[n]!).lits.length (L.cs[n]!).c)/\w.cell? ⟨g,n*3+1,none⟩=some (.bool (L.cs[n]!).nI)/\w.cell? ⟨g,n*3+2,none⟩=some (.int .i64 (L.cs[n]!).act):=by
 have r:=h.wD;unfold uN at r;obtain⟨g,J⟩:∃g,L.cA=some ⟨g,0,none⟩:=by
  rcases r.2 with⟨_,h2⟩ |⟨g,cap,cur,hv,_,J,_⟩
  ·omega
  ·simp only[Value.slice.injEq,true_and]at hv;exact⟨g,hv.1⟩
 rw[J]at r;obtain⟨g0,g1,g2⟩:=oF L.cs n hn;have hl:=PN L.cs;refine⟨g,J,?_,?_,?_⟩
 ·rw[World.ownsRow.cellAt r (n*3) (by omega)];exact g0
 ·rw[World.ownsRow.cellAt r (n*3+1) (by omega)];exact g1
 ·rw[World.ownsRow.cellAt r (n*3+2) (by omega)];exact g2
theorem bh.whd{w:World}{L:aO}{S:Sv}(h:bh w L S){c:Nat}(hc:c<L.ws.length):∃g,L.wA=some ⟨g,0,none⟩/\w.cell? ⟨g,c,none⟩=some (.slice (L.ws[c]!).A (L.ws[c]!).l.length (L.ws[c]!).c)/\w.frozen? ⟨g,c,none⟩=false:=by
 have r:=h.rws;unfold uM at r;obtain⟨g,J⟩:∃g,L.wA=some ⟨g,0,none⟩:=by
  rcases r.2 with⟨_,h2⟩ |⟨g,cap,cur,hv,_,J,_⟩
  ·omega
  ·simp only[Value.slice.injEq,true_and]at hv;exact⟨g,hv.1⟩
 rw[J]at r;refine⟨g,J,?_,World.ownsRow.frozenAt r c⟩;rw[World.ownsRow.cellAt r c (by omega)];simp only[aZ,af hc,dA,aa,aJ,Wl.val]
theorem Fr.bF{w w':World}{F:List Nat}{p:Addr}{v:Value}(h:Fr F w w')(J:p.block∉F)(hc:w.cell? p=some v):w'.cell? p=some v:=by rw[World.cell?_of_block (h.block p.block (bR hc) J)];exact hc
theorem mg(l:List Nat)(n:Nat):cd l++[(n:Int)]=cd (l++[n]):=by simp[cd]
def MvP(J:Sv×Bool)(L:aO)(w:World)(e:Ending)(w':World):Prop:=
 (e= .returned (.bool false)/\J.2=false/\Fr [] w w')\/(e= .returned (.bool true)/\J.2=true/\∃L',bh w' L' J.1/\L.ext L' w/\Fr (L.own w) w w')
def pB(r:Value)(S':Sv)(L:aO)(w:World)(e:Ending)(w':World):Prop:=e= .returned r/\∃L',bh w' L' S'/\L.ext L' w/\Fr (L.own w) w w'
set_option maxRecDepth 100000 in
set_option maxHeartbeats 4000000 in
theorem wH(w:World)(L:aO)(S:Sv)(h:bh w L S)(m:Nat)(ok:S.Ok m)(n:Nat)(hn:n<S.list.length):
  Calls Tryz.prog 160 #[.pointer (some ⟨L.a,0,none⟩), .int .i64 n] w (MvP (S.dO n) L w):=by
 have um:n<L.cs.length:=by rw[h.pN];exact hn
 have fJ:=h.sh um;obtain⟨-,-,-,-⟩:=h.cells;obtain⟨gc,km,x0,-,-⟩:=h.sg um;have iP:=h.qM n um;have mH:=h.t8 n um;have sQ:=ok.lb n;have gY:=fun k hk=>ok.lit (n:=n) (k:=k) hk;rw[fJ]at sQ gY;simp only[Cw.rc]at sQ gY;obtain⟨⟨A,c,l,b,ac⟩,hx⟩:∃x,L.cs[n]! =x:=⟨_,rfl⟩
 rw[hx]at fJ x0 iP sQ gY mH;simp only[Cw.rc]at fJ x0 iP sQ gY mH;have mW:=ae iP;have HH:=ae h;have HV:=ae (fun(u:Ext w)(y:Int)(h0: -9223372036854775808<=y)(h1:y<=9223372036854775807)=>eN u.v L.tL S.T (h.tr.fr u.fr (by simp)) y h0 h1 ok.small);have b7:=ok.vl;have Mi:=ae gY;have nV:=ok.ll;obtain⟨fk,bj⟩:∃fk,S.iu l l.length 2=fk:=⟨_,rfl⟩
 have oS:=ae bj;have bO:S.dO n=S.rm n l fk:=by simp only[Sv.dO,fJ,bj]
 have Ay:=ae bO;obtain⟨MV,bI⟩:∃MV,S.dO n=MV:=⟨_,rfl⟩
 rw[bI]at Ay⊢;have NO:aj (fk=none->∀W,Fr [] w W->MvP MV L w (.returned (.bool false)) W):=fun h1 W hW=>by subst h1;rw[Ay.o];exact .inl ⟨rfl,rfl,hW⟩
 have xk:aj (∀k,fk=some k->∀W L',bh W L' ((S.fg n (dK l 1 k)).i9 (aW l[k]!) n)->L.ext L' w->Fr (L.own w) w W->MvP MV L w (.returned (.bool true)) W):=fun k h1 W L' g1 g2 g3=>by subst h1;rw[Ay.o];exact .inr ⟨rfl,rfl,L',g1,g2,g3⟩
 obtain⟨c0,-,-,c3,c4,-⟩:=h.cells;rw[km]at c3;have vZ:=ae c0;have No:=h.pN;have HX:=ae hx;have b4:=ae mH;have b2:aj (L.ws.length=2*S.vars+2):=h.uf.trans ok.wl;have b0:=ae ok.room;have b3:=ae (fun c hc=>h.qab (c:=c) hc);clear bI bO bj fJ iP gY h hx mH;go_enter Tryz.func160,Tryz.ntmps160;go_wp2_with fail;clear c0 c3 c4 x0;go_loopg [6] l.length (fun g x6 wr=>∃k:Nat,k+g=l.length+2/\2<=k/\x6= .int .i64 k/\aj (S.iu l g k=fk)/\Fr [] w wr);case atStart=>exact⟨2,by omega,by omega,rfl,oS.o,Fr.refl _ _⟩
 case round=>
  obtain⟨k,hk,sR,rfl,df,hf⟩:=hrel;have HK:=ae hk;have HF:=ae hf;have pR:k<=l.length+2:=by omega
  clear hk hf;by_cases bt:k<l.length
  ·obtain⟨f,di⟩:∃f,gk=f+1:=⟨gk-1,by have :=HK.o;omega⟩
   obtain⟨lf,iO,ld⟩:=Mi.o k bt;obtain⟨gb,hA,wX⟩:=mW.o.pos bt;have cy:=HF.o.aF ((hA▸mW.o:Ints w (some ⟨gb,0,none⟩) c l).cell bt);have c0:=HF.o.aF vZ.o;obtain⟨y,hy⟩:∃y,l[k]! =y:=⟨_,rfl⟩
   rw[hy]at lf iO ld cy;have HY:=ae hy;have e0:=Ext.cell c0;have ey:=Ext.cell cy;obtain⟨v,hv⟩:∃v,S.T.mQ y=v:=⟨_,rfl⟩
   have bo:=ae hv;have KV:=ae (fun u:Ext wr=>HV.o ⟨u.v,HF.o.ak u.fr⟩ y (by omega) (by omega));simp only[hv]at KV;clear hy hv;subst hA;by_cases Co:0<=v
   ·have hd:decide (0<=v)=true:=qak Co;have uQ:aj (fk=some k):=by have :=df.o;rw[di,PQ bt (by unfold Sv.val;rw[HY.o,bo.o];exact Co)]at this;exact this.symm
    go_wp2;refine ap ?_;repeat (go_big_quiet_step (exact bp (KV.o _)))
    refine fq ?_;intro w2 aT;clear e0 ey c0 cy;have rL:=ae (HF.o.ak aT.o);clear HF aT KV;have cy:=rL.o.aF (mW.o.cell bt);have c1:=rL.o.aF (mW.o.cell (i:=1) (by omega));rw[HY.o]at cy;obtain⟨z,hz⟩:∃z,l[1]! =z:=⟨_,rfl⟩
    rw[hz]at c1;have HZ:=ae hz;clear hz;have f1:=(mW.o.fr rL.o (by simp)).frozen 1;have b6:=(mW.o.fr rL.o (by simp)).frozen k;go_upto_region 6 with fail;go_region;go_upto_region 7 with fail;obtain⟨W,hW⟩:∃W,((w2.setCell ⟨gb,1,none⟩ (.int .i64 y)).setCell ⟨gb,k,none⟩ (.int .i64 z)).drew=W:=⟨_,rfl⟩
    rw[hW];have bg:Ints W (some ⟨gb,0,none⟩) c (dK l 1 k):=by have :=(((mW.o.fr rL.o (by simp)).dL 1 y).dL k z).drew;rw[hW]at this;unfold dK;rw[HY.o,HZ.o];exact this
    have bG:Fr [gb] w2 W:=hW▸(((Fr.refl [gb] w2).setCell (.inl (by simp)) _).setCell (.inl (by simp)) _).drew;have hlen:(dK l 1 k).length=l.length:=(by simp[dK])
    have h2:=HH.o.keep rL.o;obtain⟨L1,h1,yo,di,EB,OU,b1⟩:=h2.lits (n:=n) (by omega) (ls:=dK l 1 k) (F:=[gb]) (by rw[HX.o];exact bg) (by rw[HX.o];exact hlen) bG (fun j hj _=>by simp at hj;subst hj;exact b4.o _ (by simp[ao]));have Pz:aW y<L1.ws.length:=by have :=iR (v:=S.vars) iO ld;rw[OU,b2.o];exact this
    obtain⟨rF,Xz⟩:∃rF,aW y=rF:=⟨_,rfl⟩
    have KC:=ae (fun W'=>pu W' y (by omega) (by omega));have VH:=ae Xz;simp only[Xz]at KC;rw[Xz]at Pz;obtain⟨gw,xJ,sw,fw⟩:=h1.whd Pz;have Jd:=h1.sV rF Pz;have QR:=b0.o rF;have xG:S.gG rF=(L1.ws[rF]!).l:=by rw[OU];exact b3.o rF (by rw[<-OU];exact Pz)
    unfold Sv.gG at xG;rw[xG]at QR;have ab:∀j,j∈ao (L1.ws[rF]!).A->L1.dh j=(L1.id,9,rF):=h1.t9 rF Pz;obtain⟨⟨A9,c9,l9⟩,Kd⟩:∃x,L1.ws[rF]! =x:=⟨_,rfl⟩
    have b9:=ae Kd;rw[Kd]at sw Jd QR xG ab;simp only at sw Jd QR xG ab;have aK:aj (S.watch[rF]! =l9):=xG;obtain⟨s0,-,-,-,s4,-⟩:=h1.cells;rw[xJ,yo.1,OU]at s4;have ar:aj (L.a∉ao A9):=fun hm=>by have e1:=ab _ hm;rw[<-yo.1,h1.t0]at e1;simp at e1
    have xq:aj (gb∉ao A9):=fun hm=>by have e1:=ab _ hm;have e2:=h1.t8 n (by rw[EB];simp;omega) gb (by rw[EB,eQ,qai ⟨rfl,by omega⟩,HX.o];simp[ao]);rw[e2]at e1;simp at e1
    have l8:aj (gw∉ao A9):=fun hm=>by have e1:=ab _ hm;have e2:=h1.t4 gw (by rw[xJ];simp[ao]);rw[e2]at e1;simp at e1
    have s1:W.cell? ⟨gb,1,none⟩=some (.int .i64 y):=by rw[bg.cell (i:=1) (by omega)];unfold dK;rw[HY.o,HZ.o];simp only[aa];rw[gW (by omega),kj (by omega)];rfl
    have N7:=ae s4;have Qj:=ae s1;have vV:=ae sw;have ba:=ae fw;have Fx:=ae Jd;have ad:=ae ab;have H1:=ae h1;have fH:=ae (aO.a6 (aO.cw L w) (⟨yo.1,yo.2.1,fun j hj e=>yo.2.2 j (aS hj rL.o.size) e⟩:L.ext L1 w) (aq _));have dZ:=ae (aO.aQ (aO.cw L w) (rL.o.mono (fun j hj=>by cases hj)) di);have bb:aj (rF<L1.ws.length):=Pz;have ca:rF<L.ws.length:=by rw[<-OU];exact Pz
    have zx:(1:Int)<l.length:=(by omega)
    have bB:l9.length<17592186044416:=(by omega)
    have a1:=ae bB;have b5:aj (Fr (ao A9) W W):=Fr.refl _ _;have aB:=ae xJ;clear xJ OU b1 Pz;clear hW bg bG hlen h2 yo di EB Jd QR xG ab Kd s0 s4 s1 sw fw h1 cy c1 f1 b6 Xz bB;refine qan ?_;refine bw (fun w':World=>Fr (ao A9) W w') 22 (by kernel_rfl) (b5.o.drew) (fun dy=> ?_);refine oI 15 [(0,[]),(1,[]),(2,[]),(3,[3,22]),(4,[]),(5,[]),(6,[6,22]),(8,[]),(9,[]),(10,[]),(11,[11,22]),(12,[]),(13,[]),(14,[14,22]),(18,[])] dy (fun w bT=>And.intro (bT.bF ar.o N7.o) (And.intro (bT.bF xq.o Qj.o) (bT.bF l8.o vV.o))) ?_;intro dy;have J:=dy.resolve_left (by decide);refine aY (rs:=[7,19]) (by kernel_rfl) (by simp) ?_;refine cM.cons (o:= ?akH) ?WV ?Kg ?_;case WV=>rfl
    case Kg=>
     intro K hK
     (go_simp;refine(KC.o _).mono ?_;rintro e w5 ⟨rfl,rfl⟩;dsimp only)
     refine hK.out _ _ (.inr ?_) (fun lR=> ?_)
     ·first |exact J.ak jM |exact J.alloc _ |exact J
     clear hK K;try simp only[Act.put,q5,q6,q7]
     have J:=lR.resolve_left (by decide);refine aY (rs:=[15,19]) (by kernel_rfl) (by simp) ?_;refine cM.cons (o:= ?akG) ?WU ?Kf ?_;case WU=>rfl
     case Kf=>
      intro K hK
      (go_simp;refine(KC.o _).mono ?_;rintro e w5 ⟨rfl,rfl⟩;dsimp only)
      refine hK.out _ _ (.inr ?_) (fun iW=> ?_)
      ·first |exact J.ak jM |exact J.alloc _ |exact J
      clear hK K;try simp only[Act.put,q5,q6,q7]
      refine oI 2 [(16,[]),(17,[17,22])] iW (fun w bT=>And.intro (bT.bF ar.o N7.o) (And.intro (bT.bF xq.o Qj.o) (bT.bF l8.o vV.o))) ?_;intro iW;refine R2 19 iW fun K hK J=> ?_;go_simp;refine hK.out _ _ (.inr ?_) (fun zA=> ?_)
      ·first |exact J.ak jM |exact J.alloc _ |exact J
      clear hK K;try simp only[Act.put,q5,q6,q7]
      refine R2 20 zA fun K hK J=> ?_
      (refine co rfl _ _ rfl A9 c9 (cd l9) _ rfl (bv l9).symm ?O2 _ 1 n rfl ?K8 (by rw[bv];exact a1.o) ?_;(case O2=>first |exact Fx.o.drew.alloc _ |exact Fx.o.alloc _ |exact Fx.o);(case K8=>simp);intro gA cA wA Pq jM Pr bS)
      refine hK.out _ _ (.inr ?_) (fun iq=> ?_)
      ·first |exact J.ak jM |exact J.alloc _ |exact J
      clear hK K;try simp only[Act.put,q5,q6,q7]
      refine TB 1 [(21,[])] iq ?_;intro iq;refine R2 22 iq fun K hK J=> ?_
      (have sb:=J.bF l8.o vV.o;have fb:World.frozen? _ _=_:=(World.frozen?_of_block (J.block gw (bR vV.o) l8.o)).trans ba.o;go_simp)
      refine hK.out _ _ (.inl rfl) (fun Hu=> ?_);clear hK K;try simp only[Act.put,q5,q6,q7]
      refine fO ?_;have nM:W.heap.size<=wA.heap.size:=J.size;have Tf:Ints wA (some ⟨gA,0,none⟩) cA (cd (l9++[n])):=by rw[<-mg];exact Pq
      obtain⟨Lr,fu,_,_,L2,h2,jZ,cE,_⟩:=H1.o.cJ bb.o Tf J (fun j hj _=>ad.o j hj) (fun j hj=>by
       simp[ao]at hj;subst hj;rcases Pr with h5 |h5
       ·exact .inl ⟨(Fx.o.lt _ h5),ad.o _ h5⟩
       ·right
        rw[h5];first |exact aq _ | (simp))
      obtain rfl :gw=Lr:=by rw[aB.o]at fu;simpa using fu
      simp only[an,aV]at h2 cE;have Ma:aj ((S.fg n (dK l 1 k)).cJ rF (l9++[n])=(S.fg n (dK l 1 k)).i9 (aW l[k]!) n):=by rw[HY.o,VH.o];unfold Sv.i9 Sv.gG aj;show _=Sv.cJ _ _ (S.watch[rF]! ++[n]);rw[aK.o]
      rw[Ma.o]at h2;have zt:w.heap.size<=W.heap.size:=dZ.o.size;have pT:=ae (xk.o k uQ.o _ L2 h2 (aO.a6 fH.o jZ zt) (aO.aQ fH.o dZ.o cE));go_wp2;go_ret;exact pT.o
     refine cM.cons (o:= ?aaD) ?WT ?aa6 cM.nil;case WT=>rfl
     intro K hK;go_simp;refine hK.out _ _ (.inr ?_) (fun iW=> ?_)
     ·first |exact J.ak jM |exact J.alloc _ |exact J
     clear hK K;try simp only[Act.put,q5,q6,q7]
     refine R2 15 iW fun K hK J=> ?_
     (go_simp;refine(KC.o _).mono ?_;rintro e w5 ⟨rfl,rfl⟩;dsimp only)
     refine hK.out _ _ (.inr ?_) (fun k6=> ?_)
     ·first |exact J.ak jM |exact J.alloc _ |exact J
     clear hK K;try simp only[Act.put,q5,q6,q7]
     refine oI 2 [(16,[]),(17,[17,22])] k6 (fun w bT=>And.intro (bT.bF ar.o N7.o) (And.intro (bT.bF xq.o Qj.o) (bT.bF l8.o vV.o))) ?_;intro k6;refine R2 20 k6 fun K hK J=> ?_
     (refine co rfl _ _ rfl A9 c9 (cd l9) _ rfl (bv l9).symm ?O1 _ 1 n rfl ?K7 (by rw[bv];exact a1.o) ?_;(case O1=>first |exact Fx.o.drew.alloc _ |exact Fx.o.alloc _ |exact Fx.o);(case K7=>simp);intro gA cA wA Pq jM Pr bS)
     refine hK.out _ _ (.inr ?_) (fun iq=> ?_)
     ·first |exact J.ak jM |exact J.alloc _ |exact J
     clear hK K;try simp only[Act.put,q5,q6,q7]
     refine TB 1 [(21,[])] iq ?_;intro iq;refine R2 22 iq fun K hK J=> ?_
     (have sb:=J.bF l8.o vV.o;have fb:World.frozen? _ _=_:=(World.frozen?_of_block (J.block gw (bR vV.o) l8.o)).trans ba.o;go_simp)
     refine hK.out _ _ (.inl rfl) (fun Hu=> ?_);clear hK K;try simp only[Act.put,q5,q6,q7]
     refine fO ?_;have nM:W.heap.size<=wA.heap.size:=J.size;have Tf:Ints wA (some ⟨gA,0,none⟩) cA (cd (l9++[n])):=by rw[<-mg];exact Pq
     obtain⟨Lr,fu,_,_,L2,h2,jZ,cE,_⟩:=H1.o.cJ bb.o Tf J (fun j hj _=>ad.o j hj) (fun j hj=>by
      simp[ao]at hj;subst hj;rcases Pr with h5 |h5
      ·exact .inl ⟨(Fx.o.lt _ h5),ad.o _ h5⟩
      ·right
       rw[h5];first |exact aq _ | (simp))
     obtain rfl :gw=Lr:=by rw[aB.o]at fu;simpa using fu
     simp only[an,aV]at h2 cE;have Ma:aj ((S.fg n (dK l 1 k)).cJ rF (l9++[n])=(S.fg n (dK l 1 k)).i9 (aW l[k]!) n):=by rw[HY.o,VH.o];unfold Sv.i9 Sv.gG aj;show _=Sv.cJ _ _ (S.watch[rF]! ++[n]);rw[aK.o]
     rw[Ma.o]at h2;have zt:w.heap.size<=W.heap.size:=dZ.o.size;have pT:=ae (xk.o k uQ.o _ L2 h2 (aO.a6 fH.o jZ zt) (aO.aQ fH.o dZ.o cE));go_wp2;go_ret;exact pT.o
    refine cM.cons (o:= ?akF) ?WS ?aa5 cM.nil;case WS=>rfl
    intro K hK;go_simp;refine hK.out _ _ (.inr ?_) (fun lR=> ?_)
    ·first |exact J.ak jM |exact J.alloc _ |exact J
    clear hK K;try simp only[Act.put,q5,q6,q7]
    refine R2 7 lR fun K hK J=> ?_
    (go_simp;refine(KC.o _).mono ?_;rintro e w5 ⟨rfl,rfl⟩;dsimp only)
    refine hK.out _ _ (.inr ?_) (fun iW=> ?_)
    ·first |exact J.ak jM |exact J.alloc _ |exact J
    clear hK K;try simp only[Act.put,q5,q6,q7]
    refine R2 15 iW fun K hK J=> ?_
    (go_simp;refine(KC.o _).mono ?_;rintro e w5 ⟨rfl,rfl⟩;dsimp only)
    refine hK.out _ _ (.inr ?_) (fun k6=> ?_)
    ·first |exact J.ak jM |exact J.alloc _ |exact J
    clear hK K;try simp only[Act.put,q5,q6,q7]
    refine oI 2 [(16,[]),(17,[17,22])] k6 (fun w bT=>And.intro (bT.bF ar.o N7.o) (And.intro (bT.bF xq.o Qj.o) (bT.bF l8.o vV.o))) ?_;intro k6;refine R2 20 k6 fun K hK J=> ?_
    (refine co rfl _ _ rfl A9 c9 (cd l9) _ rfl (bv l9).symm ?OZ _ 1 n rfl ?K6 (by rw[bv];exact a1.o) ?_;(case OZ=>first |exact Fx.o.drew.alloc _ |exact Fx.o.alloc _ |exact Fx.o);(case K6=>simp);intro gA cA wA Pq jM Pr bS)
    refine hK.out _ _ (.inr ?_) (fun iq=> ?_)
    ·first |exact J.ak jM |exact J.alloc _ |exact J
    clear hK K;try simp only[Act.put,q5,q6,q7]
    refine TB 1 [(21,[])] iq ?_;intro iq;refine R2 22 iq fun K hK J=> ?_
    (have sb:=J.bF l8.o vV.o;have fb:World.frozen? _ _=_:=(World.frozen?_of_block (J.block gw (bR vV.o) l8.o)).trans ba.o;go_simp)
    refine hK.out _ _ (.inl rfl) (fun Hu=> ?_);clear hK K;try simp only[Act.put,q5,q6,q7]
    refine fO ?_;have nM:W.heap.size<=wA.heap.size:=J.size;have Tf:Ints wA (some ⟨gA,0,none⟩) cA (cd (l9++[n])):=by rw[<-mg];exact Pq
    obtain⟨Lr,fu,_,_,L2,h2,jZ,cE,_⟩:=H1.o.cJ bb.o Tf J (fun j hj _=>ad.o j hj) (fun j hj=>by
     simp[ao]at hj;subst hj;rcases Pr with h5 |h5
     ·exact .inl ⟨(Fx.o.lt _ h5),ad.o _ h5⟩
     ·right
      rw[h5];first |exact aq _ | (simp))
    obtain rfl :gw=Lr:=by rw[aB.o]at fu;simpa using fu
    simp only[an,aV]at h2 cE;have Ma:aj ((S.fg n (dK l 1 k)).cJ rF (l9++[n])=(S.fg n (dK l 1 k)).i9 (aW l[k]!) n):=by rw[HY.o,VH.o];unfold Sv.i9 Sv.gG aj;show _=Sv.cJ _ _ (S.watch[rF]! ++[n]);rw[aK.o]
    rw[Ma.o]at h2;have zt:w.heap.size<=W.heap.size:=dZ.o.size;have pT:=ae (xk.o k uQ.o _ L2 h2 (aO.a6 fH.o jZ zt) (aO.aQ fH.o dZ.o cE));go_wp2;go_ret;exact pT.o
   ·have hd:decide (0<=v)=false:=qaj Co;have CW:aj (S.iu l f (k+1)=fk):=by have :=df.o;rw[di,TU bt (by unfold Sv.val;rw[HY.o,bo.o];exact Co)]at this;exact this
    go_wp2;refine ap ?_;repeat (go_big_quiet_step (exact bp (KV.o _)))
    refine fq ?_;intro w2 aT;clear e0 ey c0 cy;go_wp2;go_roundg f;case measure=>omega
    case rel=>exact⟨k+1,by have :=HK.o;omega,by omega,by go_num,CW.o,HF.o.ak aT.o⟩
  ·have CW:aj (fk=none):=by have :=df.o;rw[Lu (by omega)]at this;exact this.symm
   go_wp2;go_ret;exact NO.o CW.o _ HF.o
theorem gH(l:List Int)(i j:Nat):(dK l i j).length=l.length:=by simp[dK]
theorem get_mem{l:List Int}{i:Nat}(h:i<l.length):l[i]! ∈l:=by simp only[aa,af h,aJ];exact gu h
theorem tM{l:List Int}{i j:Nat}(hi:i<l.length)(J:j<l.length){x:Int}(h:x∈dK l i j):x∈l:=by
 unfold dK at h;rcases List.mem_or_eq_of_mem_set h with h |rfl
 ·rcases List.mem_or_eq_of_mem_set h with h |rfl
  ·exact h
  ·exact get_mem J
 ·exact get_mem hi
theorem n9{l:List Int}{i j k:Nat}(hi:i<l.length)(hj:j<l.length)(hk:k<l.length):(dK l i j)[k]! =if k=j then l[i]! else if k=i then l[j]! else l[k]! :=by
 unfold dK;rw[eQ,eQ];by_cases h1:k=j
 ·subst h1;simp[hk]
 ·rw[qah (by omega),qah h1];by_cases J:k=i
  ·subst J;simp[hk]
  ·rw[qah (by omega),qah J]
namespace Sv
theorem nc(S:Sv)(n j:Nat)(l:List Int):(S.fg n l).rc j=if n=j/\n<S.list.length then{ S.rc n with lits:=l }else S.rc j:=by unfold rc fg;exact eQ _ _ _ _
theorem o6{S:Sv}{n:Nat}(h:S.list.length<=n):S.rc n=⟨[],false,0⟩:=by unfold rc;simp only[aa,iZ h];rfl
theorem Ok.fg{S:Sv}{m:Nat}(ok:S.Ok m){n:Nat}{l:List Int}(hl:l.length=(S.rc n).lits.length)(hm:∀x∈l,x∈(S.rc n).lits):(S.fg n l).Ok m:=by
 refine⟨ok.vl,ok.tr,ok.hi,ok.hl,ok.ph,ok.wl,by simpa[Sv.fg]using ok.ll,fun c k h=>by simpa[Sv.fg]using ok.wb c k h,by simpa[Sv.fg]using ok.wt,fun k x J=> ?_,fun k=> ?_,fun k=> ?_,ok.hd,fun v=>by simpa[Sv.fg]using ok.rs v⟩
 ·rw[nc]at J;split at J
  ·exact ok.lr n x (hm x J)
  ·exact ok.lr k x J
 ·rw[nc];split
  ·simp only[hl];exact ok.ln n
  ·exact ok.ln k
 ·rw[nc];split
  ·simp only[hl];exact ok.lb n
  ·exact ok.lb k
theorem MH:∀(l:List Nat)(c x:Nat),c<l.length->(l.set c x).sum+l[c]! =l.sum+x
 |[],c,x,h=>by simp at h
 |y::r,0,x,h=>by simp;omega
 |y::r,c+1,x,h=>by
  have :=MH r c x (by simpa using h);simp only[List.set_cons_succ,List.sum_cons];have e:(y::r)[c+1]! =r[c]! :=by simp
  rw[e];omega
theorem aes(S:Sv)(c:Nat)(l:List Nat)(hc:c<S.watch.length):((S.cJ c l).watch.map List.length).sum+(S.gG c).length=(S.watch.map List.length).sum+l.length:=by
 have h:=MH (S.watch.map List.length) c l.length (by simpa using hc);have e:(S.watch.map List.length)[c]! =(S.gG c).length:=by unfold gG;simp only[aa,aZ,af hc,dA,aJ]
 rw[e]at h;simpa[cJ,List.map_set]using h
theorem Ok.cJ{S:Sv}{m m':Nat}(ok:S.Ok m){c:Nat}{l:List Nat}(hc:c<S.watch.length)(hl:∀n∈l,n<S.list.length)(hm:l.length+m'<=(S.gG c).length+m):(S.cJ c l).Ok m':=by
 have hw:=aes S c l hc;have J:=ok.wt;refine⟨ok.vl,ok.tr,ok.hi,ok.hl,ok.ph,by simpa[Sv.cJ]using ok.wl,ok.ll,fun k n h=> ?_,?_,ok.lr,ok.ln,ok.lb,ok.hd,ok.rs⟩
 ·unfold Sv.cJ at h;simp only at h;rw[eQ]at h;split at h
  ·exact hl n h
  ·exact ok.wb k n h
 ·have :(S.cJ c l).list=S.list:=rfl;rw[this];omega
theorem Ok.i9{S:Sv}{m:Nat}(ok:S.Ok (m+1)){c n:Nat}(hc:c<S.watch.length)(hn:n<S.list.length):(S.i9 c n).Ok m:=by
 refine ok.cJ hc (fun j J=> ?_) (by simp;omega);rcases ah.1 J with h |h
 ·exact ok.wb c j h
 ·simp at h;omega
theorem Ok.less{S:Sv}{m m':Nat}(ok:S.Ok m)(h:m'<=m):S.Ok m':=⟨ok.vl,ok.tr,ok.hi,ok.hl,ok.ph,ok.wl,ok.ll,ok.wb,by have :=ok.wt;omega,ok.lr,ok.ln,ok.lb,ok.hd,ok.rs⟩
theorem Ok.cY{S:Sv}{m:Nat}(ok:S.Ok m)(n:Nat)(off:Int):(S.cY n off).Ok m:=by
 unfold Sv.cY;split
 ·by_cases h:(S.rc n).lits.length=0
  ·refine ok.fg (gH _ _ _) (fun x J=> ?_);have :(dK (S.rc n).lits 0 1)=[]:=aX (by rw[gH];exact h);rw[this]at J;cases J
  ·have :=ok.ln n;exact ok.fg (gH _ _ _) (fun x J=>tM (by omega) (by omega) J)
 ·exact ok
theorem ux{S:Sv}{l:List Int}:∀(f k j:Nat),S.iu l f k=some j->k<=j/\j<l.length/\0<=S.val l[j]!
 |0,k,j,h=>by simp[iu]at h
 |f+1,k,j,h=>by
  simp only[iu]at h;split at h
  ·split at h
   ·rename_i h1 J;simp only[Option.some.injEq]at h;subst h;exact⟨aq _,h1,J⟩
   ·have :=ux f (k+1) j h;exact⟨by omega,this.2⟩
  ·cases h
theorem Ok.Ce{S:Sv}{m:Nat}(ok:S.Ok (m+1)){n:Nat}(hn:n<S.list.length)(h:(S.dO n).2=true):(S.dO n).1.Ok m:=by
 unfold Sv.dO at h⊢;cases hk:S.iu (S.rc n).lits (S.rc n).lits.length 2 with
 |none=>rw[hk]at h;cases h
 |some k=>
  obtain⟨h1,J,_⟩:=ux _ _ _ hk;simp only[Sv.rm];have o1:=ok.fg (n:=n) (l:=dK (S.rc n).lits 1 k) (gH _ _ _) (fun x hx=>tM (by omega) J hx);have hl:=ok.lit J;have :=iR hl.2.1 hl.2.2;refine o1.i9 (by simp only[Sv.fg];rw[ok.wl];exact this) (by simpa[Sv.fg]using hn)
theorem sL(S:Sv)(n:Nat):(S.dO n).1.T=S.T/\(S.dO n).1.vars=S.vars/\(S.dO n).1.list.length=S.list.length/\(S.dO n).1.head=S.head/\(S.dO n).1.H=S.H/\(S.dO n).1.watch.length=S.watch.length:=by unfold dO;cases S.iu (S.rc n).lits (S.rc n).lits.length 2<;>simp[rm,i9,cJ,fg]
theorem qd(S:Sv)(n:Nat)(off:Int):(S.cY n off).T=S.T/\(S.cY n off).vars=S.vars/\(S.cY n off).list.length=S.list.length/\(S.cY n off).head=S.head/\(S.cY n off).H=S.H/\(S.cY n off).watch=S.watch:=by unfold cY;split<;>simp[fg]
theorem Ok.put{S:Sv}{m:Nat}(ok:S.Ok m){x r:Int}(hr:0<=r/\r<=S.list.length):(S.put x r).Ok m:=by
 by_cases hb:S.T.ke x=true
 ·have e:S.put x r={ S with T:=S.T.qt x r }:=by unfold Sv.put;rw[qai hb]
  rw[e];obtain⟨R,hR⟩:=ok.tr;have h2:=hR.put x r hb;refine⟨ok.vl,⟨_,h2⟩,ok.hi,ok.hl,ok.ph,ok.wl,ok.ll,ok.wb,ok.wt,ok.lr,ok.ln,ok.lb,?_,fun v=> ?_⟩
  ·have :=ok.hd;simp only[Tr.qt,an,aV];omega
  ·have h3:=h2.fV v;have J:=hR.fV v;have h5:=ok.rs v;simp only;rw[h3,Gw];cases kk:look R v with
   |none=>
    split
    ·rename_i e;split at e
     ·simp at e
     ·omega
    ·rename_i e2 e;split at e
     ·simp only[Option.none_or,Option.some.injEq]at e;rw[<-e];exact hr
     ·cases e
   |some e0=>
    rw[kk]at J;simp only at J;split
    ·omega
    ·rename_i e2 e;have :e2=e0:=by
      split at e
      ·simpa using e.symm
      ·simpa using e.symm
     rw[this,<-J];exact h5
 ·have e:S.put x r=S:=by unfold Sv.put;rw[qah hb]
  rw[e];exact ok
theorem Ok.visit{S:Sv}{m:Nat}(ok:S.Ok (m+1)){n:Nat}(hn:n<S.list.length)(off:Int):
  (S.dC n off).1.Ok (if(S.dC n off).2.1=true then m+1 else m)/\(S.dC n off).1.vars=S.vars/\(S.dC n off).1.list.length=S.list.length/\(S.dC n off).1.head=S.head/\(S.dC n off).1.watch.length=S.watch.length:=by
 unfold Sv.dC;split
 ·exact⟨ok.less (by simp),rfl,rfl,rfl,rfl⟩
 ·have J:=ok.cY n off;obtain⟨q1,q2,q3,q4,q5,q6⟩:=qd S n off;generalize S.cY n off=S1 at *;unfold Sv.gM;simp only;split
  ·exact⟨J,q2,q3,q4,by rw[q6]⟩
  ·split
   ·rename_i h;obtain⟨p1,p2,p3,p4,p5,p6⟩:=sL S1 n;exact⟨J.Ce (by omega) h,by rw[p2,q2],by rw[p3,q3],by rw[p4,q4],by rw[p6,q6]⟩
   ·split
    ·exact⟨J,q2,q3,q4,by rw[q6]⟩
    ·exact⟨J.put ⟨by omega,by omega⟩,q2,q3,q4,by show S1.watch.length=_;rw[q6]⟩
end Sv
end Go.Proofs.YtpjbaobgnhjgoaaGreat
