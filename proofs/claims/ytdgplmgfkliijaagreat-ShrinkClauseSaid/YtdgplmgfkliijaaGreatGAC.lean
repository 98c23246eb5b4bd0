/- Parts of a proof. -/
import Derived.Test.YtdgplmgfkliijaaGreatGAB
set_option linter.unusedVariables false
set_option linter.unusedSimpArgs false
namespace Go.Proofs.YtdgplmgfkliijaaGreat
open Go.RowKit
theorem GU (l:List Int) (i j:Nat) (x:Int):(l.set i x)[j]! =if i=j∧i<l.length then x else l[j]! :=by
 simp only [aa,List.getElem?_set]
 by_cases h:i=j
 ·subst h
  by_cases hl:i<l.length
  ·simp [hl]
  ·simp [hl]
 ·simp [h]
theorem eI {l:List Int} {i:Nat} (x:Int) (h:i<l.length):(l.set i x)[i]! =x:=by rw [GU];simp [h]
theorem fO {l:List Int} {i j:Nat} (x:Int) (h:i≠j):(l.set i x)[j]! =l[j]! :=by rw [GU];simp [h]
structure PC (V:Hp):Prop where
 oS:V.Gf
 pos:∀j:Nat,j<V.items.length→V.at_[(V.items[j]!).toNat]! =j
 inv:∀x:Nat,x<V.at_.length→0≤V.at_[x]! →(V.at_[x]!).toNat<V.items.length∧V.items[(V.at_[x]!).toNat]! =x
theorem PC.inj {V:Hp} (h:PC V) {i j:Nat} (hi:i<V.items.length) (hj:j<V.items.length) (e:V.items[i]! =V.items[j]!):i=j:=by
 have h1:=h.pos i hi
 have h2:=h.pos j hj
 rw [e] at h1
 omega
def Hp.swp (V:Hp) (i p:Nat):Hp:=(V.put (i:Int) V.items[p]!).put (p:Int) V.items[i]!
theorem oM (V:Hp) (i p:Nat):(V.swp i p).items.length=V.items.length∧(V.swp i p).at_.length=V.at_.length∧(V.swp i p).score=V.score:=by simp [Hp.swp,Hp.put]
theorem cO (V:Hp) {i p:Nat} (hi:i<V.items.length) (hp:p<V.items.length) (j:Nat):
  (V.swp i p).items[j]! =if j=p then V.items[i]! else if j=i then V.items[p]! else V.items[j]! :=by
 simp only [Hp.swp,Hp.put,Int.toNat_natCast]
 by_cases h1:j=p
 ·subst h1
  rw [if_pos rfl,eI _ (by simpa using hp)]
 ·rw [if_neg h1,fO _ (fun e=>h1 e.symm)]
  by_cases h2:j=i
  ·subst h2;rw [if_pos rfl,eI _ hi]
  ·rw [if_neg h2,fO _ (fun e=>h2 e.symm)]
theorem PC.swp {V:Hp} (h:PC V) {i p:Nat} (hi:i<V.items.length) (hp:p<V.items.length) (dI:i≠p):PC (V.swp i p):=by
 obtain ⟨l1,l2,_⟩:=oM V i p
 have ri:=h.oS i hi
 have rp:=h.oS p hp
 have hab:V.items[i]! ≠V.items[p]! :=fun e=>dI (h.inj hi hp e)
 have vV:∀x:Nat,(V.swp i p).at_[x]! =if x=(V.items[i]!).toNat then (p:Int) else if x=(V.items[p]!).toNat then (i:Int) else V.at_[x]! :=by
  intro x
  simp only [Hp.swp,Hp.put]
  by_cases h1:x=(V.items[i]!).toNat
  ·subst h1;rw [if_pos rfl,eI _ (by simp only [aw];omega)]
  ·rw [if_neg h1,fO _ (fun e=>h1 e.symm)]
   by_cases h2:x=(V.items[p]!).toNat
   ·subst h2;rw [if_pos rfl,eI _ (by omega)]
   ·rw [if_neg h2,fO _ (fun e=>h2 e.symm)]
 refine ⟨fun j hj=> ?_,fun j hj=> ?_,fun x hx h0=> ?_⟩
 ·rw [l1] at hj
  rw [cO V hi hp,l2]
  split
  ·exact ri
  ·split
   ·exact rp
   ·exact h.oS j hj
 ·rw [l1] at hj
  rw [cO V hi hp,vV]
  by_cases h1:j=p
  ·subst h1;simp
  ·by_cases h2:j=i
   ·subst h2
    rw [if_neg h1,if_pos rfl,if_neg (by omega),if_pos rfl]
   ·have rj:=h.oS j hj
    have e1:V.items[j]! ≠V.items[i]! :=fun e=>h2 (h.inj hj hi e)
    have e2:V.items[j]! ≠V.items[p]! :=fun e=>h1 (h.inj hj hp e)
    rw [if_neg h1,if_neg h2,if_neg (by omega),if_neg (by omega)]
    exact h.pos j hj
 ·rw [l2] at hx
  rw [vV] at h0⊢
  by_cases h1:x=(V.items[i]!).toNat
  ·rw [if_pos h1,cO V hi hp,l1]
   simp only [Int.toNat_natCast,if_true]
   exact ⟨hp,by omega⟩
  ·by_cases h2:x=(V.items[p]!).toNat
   ·rw [if_neg h1,if_pos h2,cO V hi hp,l1]
    simp only [Int.toNat_natCast,if_true]
    rw [if_neg dI]
    exact ⟨hi,by omega⟩
   ·rw [if_neg h1,if_neg h2] at h0⊢
    obtain ⟨k1,k2⟩:=h.inv x hx h0
    rw [cO V hi hp,l1]
    refine ⟨k1,?_⟩
    rw [if_neg,if_neg,k2]
    ·intro e;rw [e] at k2;omega
    ·intro e;rw [e] at k2;omega
theorem vf {V:Hp} (h:PC V) {i:Nat} (hi:i<V.items.length):V.put (i:Int) V.items[i]! =V:=by
 have e1:V.items.set i V.items[i]! =V.items:=by
  apply List.ext_getElem?
  intro j
  rw [List.getElem?_set]
  by_cases hj:i=j
  ·subst hj;simp [hi]
  ·simp [hj]
 have e2:V.at_.set (V.items[i]!).toNat (i:Int)=V.at_:=by
  have hp:=h.pos i hi
  have r:=h.oS i hi
  apply List.ext_getElem?
  intro j
  rw [List.getElem?_set]
  by_cases hj:(V.items[i]!).toNat=j
  ·rw [if_pos hj,if_pos (by omega),←hj,←hp]
   rw [aa,af (by omega:(V.items[i]!).toNat<V.at_.length)]
   rfl
  ·rw [if_neg hj]
 show Hp.mk (V.items.set (i:Int).toNat V.items[i]!) (V.at_.set (V.items[i]!).toNat (i:Int)) V.score=V
 rw [Int.toNat_natCast,e1,e2]
theorem G0 {K:Hp} {i p:Nat} {x y:Int} (Lv:x.toNat≠y.toNat):((K.put (i:Int) x).put (i:Int) y).put (p:Int) x=(K.put (i:Int) y).put (p:Int) x:=by
 simp only [Hp.put,Int.toNat_natCast,List.set_set,Hp.mk.injEq,and_true,true_and]
 rw [List.set_comm _ _ Lv,List.set_set]
theorem eF {V:Hp} {x y:Int}:V.bz x y=true↔(V.sc y<V.sc x∨(V.sc x=V.sc y∧x<y)):=by simp [Hp.bz]
theorem sN {V:Hp} {x y:Int} (h:V.bz x y=true):V.bz y x=false:=by
 cases hh:V.bz y x with
 |false=>rfl
 |true=>rw [eF] at h hh;omega
theorem Du {V:Hp} {x y z:Int} (h:V.bz x y=true) (k:V.bz y z=true):V.bz x z=true:=by rw [eF] at *;omega
theorem gZ {V:Hp} {x y z:Int} (h:V.bz x y=false) (k:V.bz y z=false):V.bz x z=false:=by
 cases hh:V.bz x z with
 |false=>rfl
 |true=>
  rw [eF] at hh
  have h1:¬(V.sc y<V.sc x∨(V.sc x=V.sc y∧x<y)):=fun e=>by rw [←eF,h] at e;cases e
  have h2:¬(V.sc z<V.sc y∨(V.sc y=V.sc z∧y<z)):=fun e=>by rw [←eF,k] at e;cases e
  omega
theorem m7 {V:Hp} {x:Int}:V.bz x x=false:=by
 cases hh:V.bz x x with
 |false=>rfl
 |true=>rw [eF] at hh;omega
theorem ft {V W:Hp} (h:V.score=W.score) (x y:Int):V.bz x y=W.bz x y:=by simp [Hp.bz,Hp.sc,h]
structure Kw (V:Hp) (i:Nat):Prop where
 all:∀j:Nat,0<j→j<V.items.length→j≠i→V.bz V.items[j]! V.items[(j-1)/2]! =false
 over:∀j:Nat,0<j→j<V.items.length→(j-1)/2=i→0<i→V.bz V.items[j]! V.items[(i-1)/2]! =false
def Ord (V:Hp):Prop:=∀j:Nat,0<j→j<V.items.length→V.bz V.items[j]! V.items[(j-1)/2]! =false
theorem Kw.step {V:Hp} {i:Nat} (h:Kw V i) (LN:0<i) (hi:i<V.items.length) (ha:V.bz V.items[i]! V.items[(i-1)/2]! =true):Kw (V.swp i ((i-1)/2)) ((i-1)/2):=by
 have hp:(i-1)/2<V.items.length:=by omega
 have dI:i≠(i-1)/2:=by omega
 obtain ⟨l1,_,l3⟩:=oM V i ((i-1)/2)
 refine ⟨fun j h0 hj VZ=> ?_,fun j h0 hj VZ Nv=> ?_⟩
 ·rw [l1] at hj
  rw [ft l3,cO V hi hp,cO V hi hp,if_neg VZ]
  by_cases e1:j=i
  ·subst e1
   rw [if_pos rfl,if_pos rfl]
   exact sN ha
  ·rw [if_neg e1]
   by_cases e2:(j-1)/2=(i-1)/2
   ·rw [if_pos e2]
    have h1:=h.all j h0 hj e1
    rw [e2] at h1
    cases hh:V.bz V.items[j]! V.items[i]! with
    |false=>rfl
    |true=>rw [Du hh ha] at h1;cases h1
   ·rw [if_neg e2]
    by_cases e3:(j-1)/2=i
    ·rw [if_pos e3];exact h.over j h0 hj e3 LN
    ·rw [if_neg e3];exact h.all j h0 hj e1
 ·rw [l1] at hj
  rw [ft l3,cO V hi hp,cO V hi hp]
  have hq:=h.all ((i-1)/2) Nv hp (fun e=>dI e.symm)
  rw [if_neg (by omega:¬j=(i-1)/2),if_neg (by omega:¬((i-1)/2-1)/2=(i-1)/2),if_neg (by omega:¬((i-1)/2-1)/2=i)]
  by_cases e1:j=i
  ·rw [if_pos e1];exact hq
  ·rw [if_neg e1]
   have h1:=h.all j h0 hj e1
   rw [VZ] at h1
   exact gZ h1 hq
def Hp.Lq:Nat→Hp→Nat→Hp
 |0,V,_=>V
 |f+1,V,i=>if 0<i∧V.bz V.items[i]! V.items[(i-1)/2]! =true then Hp.Lq f (V.swp i ((i-1)/2)) ((i-1)/2) else V
theorem jd (V:Hp) (j:Nat):V.it (j:Int)=V.items[j]! :=by simp [Hp.it]
theorem GM (x:Int):∀(f:Nat) (K:Hp) (i:Nat),i<K.items.length→i<f→PC (K.put (i:Int) x)→Hp.zu x f K i=Hp.Lq f (K.put (i:Int) x) i:=by
 intro f
 induction f with
 |zero=>intro K i _ h _;omega
 |succ f ih=>
  intro K i hi hf hP
  simp only [Hp.zu,Hp.Lq]
  have e0:(K.put (i:Int) x).items[i]! =x:=by simp only [Hp.put,Int.toNat_natCast];exact eI x hi
  have es:∀a b,(K.put (i:Int) x).bz a b=K.bz a b:=fun a b=>ft rfl a b
  by_cases h0:0<i
  ·have dI:i≠(i-1)/2:=by omega
   have e1:(K.put (i:Int) x).items[(i-1)/2]! =K.items[(i-1)/2]! :=by simp only [Hp.put,Int.toNat_natCast];exact fO x dI
   rw [jd,e0,e1,es]
   by_cases ha:K.bz x K.items[(i-1)/2]! =true
   ·rw [if_pos ⟨h0,ha⟩,if_pos ⟨h0,ha⟩]
    have hl:(i-1)/2<(K.put (i:Int) x).items.length:=by rw [Hp.dV];omega
    have Fm:i<(K.put (i:Int) x).items.length:=by rw [Hp.dV];omega
    have rx:=hP.oS i Fm
    have ry:=hP.oS ((i-1)/2) hl
    have Lv:(K.put (i:Int) x).items[i]! ≠(K.put (i:Int) x).items[(i-1)/2]! :=fun e=>dI (hP.inj Fm hl e)
    rw [e0] at rx Lv
    rw [e1] at ry Lv
    have e2:(K.put (i:Int) x).swp i ((i-1)/2)=(K.put (i:Int) K.items[(i-1)/2]!).put (((i-1)/2:Nat):Int) x:=by
     unfold Hp.swp
     rw [e0,e1]
     exact G0 (by omega)
    rw [e2]
    refine ih _ _ (by rw [Hp.dV];omega) (by omega) ?_
    rw [←e2]
    exact hP.swp Fm hl dI
   ·rw [if_neg (fun h=>ha h.2),if_neg (fun h=>ha h.2)]
  ·rw [if_neg (fun h=>h0 h.1),if_neg (fun h=>h0 h.1)]
theorem ja:∀(f:Nat) (V:Hp) (i:Nat),i<V.items.length→i<f→PC V→Kw V i→
  PC (Hp.Lq f V i)∧Ord (Hp.Lq f V i)∧(Hp.Lq f V i).score=V.score∧(Hp.Lq f V i).items.length=V.items.length∧(Hp.Lq f V i).at_.length=V.at_.length∧(∀y:Int,y∈(Hp.Lq f V i).items↔y∈V.items):=by
 intro f
 induction f with
 |zero=>intro V i _ h;omega
 |succ f ih=>
  intro V i hi hf hP hO
  simp only [Hp.Lq]
  by_cases hc:0<i∧V.bz V.items[i]! V.items[(i-1)/2]! =true
  ·rw [if_pos hc]
   obtain ⟨l1,l2,l3⟩:=oM V i ((i-1)/2)
   have hl:(i-1)/2<V.items.length:=by omega
   have :=ih (V.swp i ((i-1)/2)) ((i-1)/2) (by rw [l1];omega) (by omega) (hP.swp hi hl (by omega)) (hO.step hc.1 hi hc.2)
   obtain ⟨r1,r2,r3,r4,r5,r6⟩:=this
   refine ⟨r1,r2,by rw [r3,l3],by rw [r4,l1],by rw [r5,l2],fun y=>(r6 y).trans ?_⟩
   constructor
   ·intro hy
    obtain ⟨j,hj,rfl⟩:=List.mem_iff_getElem.1 hy
    rw [l1] at hj
    have e:=cO V hi hl j
    rw [aa,af (by rw [l1];exact hj)] at e
    simp only [ay] at e
    rw [e]
    split
    ·exact bu hi
    ·split
     ·exact bu hl
     ·exact bu hj
   ·intro hy
    obtain ⟨j,hj,rfl⟩:=List.mem_iff_getElem.1 hy
    have e0:V.items[j]=V.items[j]! :=by simp [hj]
    rw [e0]
    by_cases e1:j=i
    ·subst e1
     have :=cO V hi hl ((j-1)/2)
     rw [if_pos rfl] at this
     rw [←this];exact bu (by rw [l1];exact hl)
    ·by_cases e2:j=(i-1)/2
     ·have :=cO V hi hl i
      rw [if_neg (by omega),if_pos rfl] at this
      rw [e2,←this];exact bu (by rw [l1];exact hi)
     ·have :=cO V hi hl j
      rw [if_neg e2,if_neg e1] at this
      rw [←this];exact bu (by rw [l1];exact hj)
  ·rw [if_neg hc]
   refine ⟨hP,fun j h0 hj=> ?_,rfl,rfl,rfl,fun _=>Iff.rfl⟩
   by_cases e:j=i
   ·subst e
    cases hh:V.bz V.items[j]! V.items[(j-1)/2]! with
    |false=>rfl
    |true=>exact absurd ⟨h0,hh⟩ hc
   ·exact hO.all j h0 hj e
where
 bu {l:List Int} {j:Nat} (h:j<l.length):l[j]! ∈l:=by
  rw [aa,af h];exact List.getElem_mem h
theorem Qp {V:Hp} {i p:Nat} (hi:i<V.items.length) (hp:p<V.items.length) (y:Int):y∈(V.swp i p).items↔y∈V.items:=by
 obtain ⟨l1,_,_⟩:=oM V i p
 constructor
 ·intro hy
  obtain ⟨j,hj,rfl⟩:=List.mem_iff_getElem.1 hy
  rw [l1] at hj
  have e:=cO V hi hp j
  rw [aa,af (by rw [l1];exact hj)] at e
  simp only [ay] at e
  rw [e]
  split
  ·exact ja.bu hi
  ·split
   ·exact ja.bu hp
   ·exact ja.bu hj
 ·intro hy
  obtain ⟨j,hj,rfl⟩:=List.mem_iff_getElem.1 hy
  have e0:V.items[j]=V.items[j]! :=by simp [hj]
  rw [e0]
  by_cases e1:j=i
  ·subst e1
   have :=cO V hi hp p
   rw [if_pos rfl] at this
   rw [←this];exact ja.bu (by rw [l1];exact hp)
  ·by_cases e2:j=p
   ·subst e2
    have :=cO V hi hp i
    rw [if_neg (fun e=>e1 e.symm),if_pos rfl] at this
    rw [←this];exact ja.bu (by rw [l1];exact hi)
   ·have :=cO V hi hp j
    rw [if_neg e2,if_neg e1] at this
    rw [←this];exact ja.bu (by rw [l1];exact hj)
structure O0 (V:Hp) (i:Nat):Prop where
 all:∀j:Nat,0<j→j<V.items.length→(j-1)/2≠i→V.bz V.items[j]! V.items[(j-1)/2]! =false
 over:∀j:Nat,0<j→j<V.items.length→(j-1)/2=i→0<i→V.bz V.items[j]! V.items[(i-1)/2]! =false
theorem uM (V:Hp) {i:Nat} (hi:2*i+1<V.items.length):
  V.bN i<V.items.length∧(V.bN i-1)/2=i∧0<V.bN i∧∀j:Nat,0<j→j<V.items.length→(j-1)/2=i→V.bz V.items[j]! V.items[V.bN i]! =false:=by
 unfold Hp.bN
 rw [jd,jd]
 by_cases h:2*i+2<V.items.length∧V.bz V.items[2*i+2]! V.items[2*i+1]! =true
 ·rw [if_pos h]
  refine ⟨h.1,by omega,by omega,fun j h0 hj hp=> ?_⟩
  rcases (by omega:j=2*i+1∨j=2*i+2) with rfl |rfl
  ·exact sN h.2
  ·exact m7
 ·rw [if_neg h]
  refine ⟨hi,by omega,by omega,fun j h0 hj hp=> ?_⟩
  rcases (by omega:j=2*i+1∨j=2*i+2) with rfl |rfl
  ·exact m7
  ·cases hh:V.bz V.items[2*i+2]! V.items[2*i+1]! with
   |false=>rfl
   |true=>exact absurd ⟨hj,hh⟩ h
theorem O0.step {V:Hp} {i:Nat} (h:O0 V i) (hi:2*i+1<V.items.length) (ha:V.bz V.items[V.bN i]! V.items[i]! =true):O0 (V.swp i (V.bN i)) (V.bN i):=by
 obtain ⟨hb,Oe,J1,Hx⟩:=uM V hi
 generalize V.bN i=b at hb Oe J1 Hx ha
 have hii:i<V.items.length:=by omega
 obtain ⟨l1,_,l3⟩:=oM V i b
 refine ⟨fun j h0 hj VZ=> ?_,fun j h0 hj VZ Nv=> ?_⟩
 ·rw [l1] at hj
  rw [ft l3,cO V hii hb,cO V hii hb,if_neg VZ]
  by_cases e1:j=b
  ·subst e1
   rw [if_pos rfl,if_pos Oe]
   exact sN ha
  ·rw [if_neg e1]
   by_cases e2:(j-1)/2=i
   ·rw [if_pos e2,if_neg (by omega)]
    exact Hx j h0 hj e2
   ·rw [if_neg e2]
    by_cases e3:j=i
    ·subst e3
     rw [if_pos rfl]
     exact h.over b J1 hb Oe h0
    ·rw [if_neg e3];exact h.all j h0 hj e2
 ·rw [l1] at hj
  rw [ft l3,cO V hii hb,cO V hii hb,Oe]
  rw [if_neg (by omega:¬j=b),if_neg (by omega:¬j=i),if_neg (by omega:¬i=b),if_pos rfl]
  have :=h.all j h0 hj (by omega)
  rw [VZ] at this
  exact this
def Hp.oz:Nat→Hp→Nat→Hp
 |0,V,_=>V
 |f+1,V,i=>if 2*i+1<V.items.length∧V.bz V.items[V.bN i]! V.items[i]! =true then Hp.oz f (V.swp i (V.bN i)) (V.bN i) else V
theorem OU (K:Hp) (i:Nat) (x:Int):(K.put (i:Int) x).bN i=K.bN i:=by
 unfold Hp.bN
 rw [jd,jd,jd,jd,Hp.dV]
 have e1:(K.put (i:Int) x).items[2*i+2]! =K.items[2*i+2]! :=by simp only [Hp.put,Int.toNat_natCast];exact fO x (by omega)
 have e2:(K.put (i:Int) x).items[2*i+1]! =K.items[2*i+1]! :=by simp only [Hp.put,Int.toNat_natCast];exact fO x (by omega)
 have es:=ft (V:=K.put (i:Int) x) (W:=K) rfl K.items[2*i+2]! K.items[2*i+1]!
 rw [e1,e2,es]
theorem Dd (x:Int):∀(f:Nat) (K:Hp) (i:Nat),i<K.items.length→PC (K.put (i:Int) x)→Hp.fW x f K i=Hp.oz f (K.put (i:Int) x) i:=by
 intro f
 induction f with
 |zero=>intro K i _ _;rfl
 |succ f ih=>
  intro K i hi hP
  simp only [Hp.fW,Hp.oz]
  rw [OU,Hp.dV]
  have e0:(K.put (i:Int) x).items[i]! =x:=by simp only [Hp.put,Int.toNat_natCast];exact eI x hi
  have es:∀a b,(K.put (i:Int) x).bz a b=K.bz a b:=fun a b=>ft rfl a b
  by_cases h0:2*i+1<K.items.length
  ·obtain ⟨hb,Oe,J1,_⟩:=uM K h0
   generalize K.bN i=b at hb Oe J1
   have dI:i≠b:=by omega
   have e1:(K.put (i:Int) x).items[b]! =K.items[b]! :=by simp only [Hp.put,Int.toNat_natCast];exact fO x dI
   rw [jd,e0,e1,es]
   by_cases ha:K.bz K.items[b]! x=true
   ·rw [if_pos ⟨h0,ha⟩,if_pos ⟨h0,ha⟩]
    have hl:b<(K.put (i:Int) x).items.length:=by rw [Hp.dV];omega
    have Fm:i<(K.put (i:Int) x).items.length:=by rw [Hp.dV];omega
    have rx:=hP.oS i Fm
    have ry:=hP.oS b hl
    have Lv:(K.put (i:Int) x).items[i]! ≠(K.put (i:Int) x).items[b]! :=fun e=>dI (hP.inj Fm hl e)
    rw [e0] at rx Lv
    rw [e1] at ry Lv
    have e2:(K.put (i:Int) x).swp i b=(K.put (i:Int) K.items[b]!).put (b:Int) x:=by
     unfold Hp.swp
     rw [e0,e1]
     exact G0 (by omega)
    rw [e2]
    refine ih _ _ (by rw [Hp.dV];omega) ?_
    rw [←e2]
    exact hP.swp Fm hl dI
   ·rw [if_neg (fun h=>ha h.2),if_neg (fun h=>ha h.2)]
  ·rw [if_neg (fun h=>h0 h.1),if_neg (fun h=>h0 h.1)]
theorem OJ:∀(f:Nat) (V:Hp) (i:Nat),i<V.items.length→V.items.length≤i+f→PC V→O0 V i→
  PC (Hp.oz f V i)∧Ord (Hp.oz f V i)∧(Hp.oz f V i).score=V.score∧(Hp.oz f V i).items.length=V.items.length∧(Hp.oz f V i).at_.length=V.at_.length∧(∀y:Int,y∈(Hp.oz f V i).items↔y∈V.items):=by
 intro f
 induction f with
 |zero=>intro V i _ h;omega
 |succ f ih=>
  intro V i hi hf hP hO
  simp only [Hp.oz]
  by_cases hc:2*i+1<V.items.length∧V.bz V.items[V.bN i]! V.items[i]! =true
  ·rw [if_pos hc]
   obtain ⟨hb,Oe,J1,_⟩:=uM V hc.1
   obtain ⟨l1,l2,l3⟩:=oM V i (V.bN i)
   have :=ih (V.swp i (V.bN i)) (V.bN i) (by rw [l1];omega) (by rw [l1];omega) (hP.swp hi hb (by omega)) (hO.step hc.1 hc.2)
   obtain ⟨r1,r2,r3,r4,r5,r6⟩:=this
   exact ⟨r1,r2,by rw [r3,l3],by rw [r4,l1],by rw [r5,l2],fun y=>(r6 y).trans (Qp hi hb y)⟩
  ·rw [if_neg hc]
   refine ⟨hP,fun j h0 hj=> ?_,rfl,rfl,rfl,fun _=>Iff.rfl⟩
   by_cases e:(j-1)/2=i
   ·have ns:2*i+1<V.items.length:=by omega
    obtain ⟨_,_,_,Hx⟩:=uM V ns
    have h2:V.bz V.items[V.bN i]! V.items[i]! =false:=by
     cases hh:V.bz V.items[V.bN i]! V.items[i]! with
     |false=>rfl
     |true=>exact absurd ⟨ns,hh⟩ hc
    rw [e]
    exact gZ (Hx j h0 hj e) h2
   ·exact hO.all j h0 hj e
theorem Ord.root {V:Hp} (h:Ord V):∀(n j:Nat),j≤n→j<V.items.length→V.bz V.items[j]! V.items[0]! =false:=by
 intro n
 induction n with
 |zero=>
  intro j hj _
  obtain rfl :j=0:=by omega
  exact m7
 |succ n ih=>
  intro j hj hl
  by_cases h0:j=0
  ·subst h0;exact m7
  ·exact gZ (h j (by omega) hl) (ih ((j-1)/2) (by omega) (by omega))
structure HI (H:Hp):Prop where
 pc:PC H
 ord:Ord H
 same:H.at_.length=H.score.length
 UR:∀x:Nat,x<H.score.length→0≤H.score[x]!
theorem HI.push {H:Hp} (h:HI H) {x:Int} (hb:H.iV x=true) (hp:H.pl x<0):
  HI (H.qS x)∧(H.qS x).score=H.score∧(H.qS x).items.length=H.items.length+1∧(H.qS x).at_.length=H.at_.length∧∀y:Int,y∈(H.qS x).items↔y∈H.items∨y=x:=by
 obtain ⟨h0,h1⟩:=Hp.dj hb
 have hx:x.toNat<H.at_.length:=by omega
 have hni:∀j:Nat,j<H.items.length→H.items[j]! ≠x:=by
  intro j hj e
  have :=h.pc.pos j hj
  rw [e] at this
  unfold Hp.pl at hp
  omega
 have gl:∀j:Nat,j<H.items.length→(H.items++[x])[j]! =H.items[j]! :=fun j hj=>by simp [aa,cW hj]
 have gn:(H.items++[x])[H.items.length]! =x:=by simp
 have hK:PC { H with items:=H.items++[x],at_:=H.at_.set x.toNat H.items.length }:=by
  refine ⟨fun j hj=> ?_,fun j hj=> ?_,fun y hy jJ=> ?_⟩
  ·simp only [ai,bO,List.length_nil] at hj
   simp only [aw]
   by_cases e:j<H.items.length
   ·rw [gl j e];exact h.pc.oS j e
   ·obtain rfl :j=H.items.length:=by omega
    rw [gn];exact ⟨h0,h1⟩
  ·simp only [ai,bO,List.length_nil] at hj
   by_cases e:j<H.items.length
   ·show (H.at_.set x.toNat (H.items.length:Int))[((H.items++[x])[j]!).toNat]! =j
    rw [gl j e]
    have r:=h.pc.oS j e
    have :=hni j e
    rw [fO _ (by omega)]
    exact h.pc.pos j e
   ·obtain rfl :j=H.items.length:=by omega
    show (H.at_.set x.toNat (H.items.length:Int))[((H.items++[x])[H.items.length]!).toNat]! =_
    rw [gn,eI _ hx]
  ·simp only [aw] at hy
   show ((H.at_.set x.toNat (H.items.length:Int))[y]!).toNat<(H.items++[x]).length∧(H.items++[x])[((H.at_.set x.toNat (H.items.length:Int))[y]!).toNat]! =y
   by_cases e:x.toNat=y
   ·subst e
    rw [eI _ hx,Int.toNat_natCast,gn]
    exact ⟨by simp,by omega⟩
   ·have aeJ:0≤H.at_[y]! :=by
     have :0≤(H.at_.set x.toNat (H.items.length:Int))[y]! :=jJ
     rwa [fO _ e] at this
    rw [fO _ e]
    obtain ⟨k1,k2⟩:=h.pc.inv y hy aeJ
    rw [gl _ k1]
    exact ⟨by rw [ai];exact aK k1 (Nat.le_add_right _ _),k2⟩
 have ZY:Hp.put { H with items:=H.items++[x],at_:=H.at_.set x.toNat H.items.length } (H.items.length:Int) x={ H with items:=H.items++[x],at_:=H.at_.set x.toNat H.items.length }:=by
  have :=vf hK (i:=H.items.length) (by simp)
  rwa [show ({ H with items:=H.items++[x],at_:=H.at_.set x.toNat H.items.length }:Hp).items[H.items.length]! =x from gn] at this
 have hO:Kw { H with items:=H.items++[x],at_:=H.at_.set x.toNat H.items.length } H.items.length:=by
  refine ⟨fun j jB hj dI=> ?_,fun j jB hj hpj LN=> ?_⟩
  ·simp only [ai,bO,List.length_nil] at hj
   show H.bz (H.items++[x])[j]! (H.items++[x])[(j-1)/2]! =false
   rw [gl j (by omega),gl _ (by omega)]
   exact h.ord j jB (by omega)
  ·simp only [ai,bO,List.length_nil] at hj
   omega
 have e:H.qS x=Hp.Lq (H.items.length+1) { H with items:=H.items++[x],at_:=H.at_.set x.toNat H.items.length } H.items.length:=by
  unfold Hp.qS
  rw [GM x _ _ _ (by simp) (by omega) (by rw [ZY];exact hK),ZY]
 obtain ⟨r1,r2,r3,r4,r5,r6⟩:=ja (H.items.length+1) _ H.items.length (by simp) (by omega) hK hO
 rw [←e] at r1 r2 r3 r4 r5 r6
 refine ⟨⟨r1,r2,?_,?_⟩,r3,by rw [r4];simp,by rw [r5];simp,fun y=>(r6 y).trans (by simp)⟩
 ·rw [r5,r3];simp [h.same]
 ·rw [r3];exact h.UR
theorem Mt (l:List Int) {n j:Nat} (h:j<n):(l.take n)[j]! =l[j]! :=by
 simp only [aa,List.getElem?_take]
 rw [if_pos h]
theorem HI.root {H:Hp} (h:HI H) (h0:0<H.items.length):H.it 0∈H.items∧∀y:Int,y∈H.items→H.bz y (H.it 0)=false:=by
 have e:H.it 0=H.items[0]! :=jd H 0
 rw [e]
 refine ⟨ja.bu h0,fun y hy=> ?_⟩
 obtain ⟨j,hj,rfl⟩:=List.mem_iff_getElem.1 hy
 have e0:H.items[j]=H.items[j]! :=by simp [hj]
 rw [e0]
 exact h.ord.root j j (au _) hj
theorem HI.pop {H:Hp} (h:HI H) (h0:0<H.items.length):
  HI H.jS∧H.jS.score=H.score∧H.jS.items.length=H.items.length-1∧H.jS.at_.length=H.at_.length∧∀y:Int,y∈H.jS.items↔y∈H.items∧y≠H.it 0:=by
 obtain ⟨n,hn⟩:∃n,H.items.length=n+1:=⟨H.items.length-1,by omega⟩
 have er:H.it 0=H.items[0]! :=jd H 0
 have el:H.it (n:Int)=H.items[n]! :=jd H n
 have r0:=h.pc.oS 0 h0
 have rn:=h.pc.oS n (by omega)
 have tl:(H.items.take n).length=n:=by simp;omega
 by_cases hz:n=0
 ·subst hz
  have e:H.jS={ H with items:=H.items.take 0,at_:=H.at_.set (H.items[0]!).toNat (-1) }:=by
   unfold Hp.jS
   rw [hn,er]
   simp
  rw [e]
  refine ⟨⟨⟨fun j hj=> ?_,fun j hj=> ?_,fun y hy jJ=> ?_⟩,fun j _ hj=> ?_,by simpa using h.same,h.UR⟩,rfl,by simp [hn],by simp,fun y=> ?_⟩
  ·simp at hj
  ·simp at hj
  ·exfalso
   simp only [aw] at hy
   have im:0≤(H.at_.set (H.items[0]!).toNat (-1))[y]! :=jJ
   by_cases e1:(H.items[0]!).toNat=y
   ·subst e1;rw [eI _ (by omega)] at im;omega
   ·rw [fO _ e1] at im
    obtain ⟨k1,k2⟩:=h.pc.inv y hy im
    have e2:(H.at_[y]!).toNat=0:=by omega
    rw [e2] at k2
    omega
  ·simp at hj
  ·constructor
   ·intro hy;simp at hy
   ·rintro ⟨hy,dI⟩
    exfalso
    obtain ⟨j,hj,rfl⟩:=List.mem_iff_getElem.1 hy
    obtain rfl :j=0:=by omega
    apply dI
    rw [er];simp [hj]
 ·have aev:H.items[0]! ≠H.items[n]! :=fun e=>hz (h.pc.inj h0 (by omega) e).symm
  --UK heap with its last one at UK root
  obtain ⟨V,hV⟩:∃V:Hp,V=Hp.put { H with items:=H.items.take n,at_:=H.at_.set (H.items[0]!).toNat (-1) } ((0:Nat):Int) H.items[n]! :=⟨_,rfl⟩
  have vi:V.items=(H.items.take n).set 0 H.items[n]! :=by rw [hV];rfl
  have va:V.at_=(H.at_.set (H.items[0]!).toNat (-1)).set (H.items[n]!).toNat 0:=by rw [hV];rfl
  have vs:V.score=H.score:=by rw [hV];rfl
  have vl:V.items.length=n:=by rw [vi,aw,tl]
  have val:V.at_.length=H.at_.length:=by rw [va];simp
  have v0:V.items[0]! =H.items[n]! :=by rw [vi];exact eI _ (by omega)
  have vj:∀j:Nat,0<j→j<n→V.items[j]! =H.items[j]! :=fun j jB hj=>by rw [vi,fO _ (by omega),Mt _ hj]
  have vat:∀y:Nat,V.at_[y]! =if y=(H.items[n]!).toNat then 0 else if y=(H.items[0]!).toNat then -1 else H.at_[y]! :=by
   intro y
   rw [va]
   by_cases e1:y=(H.items[n]!).toNat
   ·subst e1;rw [if_pos rfl,eI _ (by simp only [aw];omega)]
   ·rw [if_neg e1,fO _ (fun e=>e1 e.symm)]
    by_cases e2:y=(H.items[0]!).toNat
    ·subst e2;rw [if_pos rfl,eI _ (by omega)]
    ·rw [if_neg e2,fO _ (fun e=>e2 e.symm)]
  have hP:PC V:=by
   refine ⟨fun j hj=> ?_,fun j hj=> ?_,fun y hy jJ=> ?_⟩
   ·rw [vl] at hj
    rw [val]
    by_cases e:j=0
    ·subst e;rw [v0];exact rn
    ·rw [vj j (by omega) hj];exact h.pc.oS j (by omega)
   ·rw [vl] at hj
    by_cases e:j=0
    ·subst e;rw [v0,vat,if_pos rfl];rfl
    ·rw [vj j (by omega) hj,vat]
     have rj:=h.pc.oS j (by omega)
     have n1:H.items[j]! ≠H.items[n]! :=fun e'=>by have :=h.pc.inj (by omega) (by omega) e';omega
     have n2:H.items[j]! ≠H.items[0]! :=fun e'=>e (h.pc.inj (by omega) h0 e')
     rw [if_neg (by omega),if_neg (by omega)]
     exact h.pc.pos j (by omega)
   ·rw [val] at hy
    rw [vat] at jJ⊢
    rw [vl]
    by_cases e1:y=(H.items[n]!).toNat
    ·rw [if_pos e1]
     show (0:Nat)<n∧V.items[0]! =y
     rw [v0];omega
    ·by_cases e2:y=(H.items[0]!).toNat
     ·rw [if_neg e1,if_pos e2] at jJ;omega
     ·rw [if_neg e1,if_neg e2] at jJ⊢
      obtain ⟨k1,k2⟩:=h.pc.inv y hy jJ
      have k3:(H.at_[y]!).toNat≠n:=fun e=>by rw [e] at k2;omega
      have k4:(H.at_[y]!).toNat≠0:=fun e=>by rw [e] at k2;omega
      rw [vj _ (by omega) (by omega)]
      exact ⟨by omega,k2⟩
  have hO:O0 V 0:=by
   refine ⟨fun j jB hj hp=> ?_,fun j jB hj hp hi=>by omega⟩
   rw [vl] at hj
   rw [ft vs,vj j jB hj,vj _ (by omega) (by omega)]
   exact h.ord j jB (by omega)
  have e:H.jS=Hp.oz n V 0:=by
   have hi:(H.it (n:Int))=H.items[n]! :=el
   unfold Hp.jS
   rw [hn,er]
   simp only [eN]
   rw [if_neg hz,hi]
   have hp:=Dd H.items[n]! n (Hp.put { H with items:=H.items.take n,at_:=H.at_.set (H.items[0]!).toNat (-1) } 0 H.items[n]!) 0 (by rw [Hp.dV,tl];omega)
   have pp:((Hp.put { H with items:=H.items.take n,at_:=H.at_.set (H.items[0]!).toNat (-1) } 0 H.items[n]!).put ((0:Nat):Int) H.items[n]!)=V:=by
    rw [hV]
    simp only [Hp.put,Int.toNat_natCast,Int.toNat_zero,List.set_set]
   rw [pp] at hp
   exact hp hP
  obtain ⟨s1,s2,s3,s4,s5,s6⟩:=OJ n V 0 (by omega) (by omega) hP hO
  rw [←e] at s1 s2 s3 s4 s5 s6
  refine ⟨⟨s1,s2,by rw [s5,val,s3,vs];exact h.same,by rw [s3,vs];exact h.UR⟩,by rw [s3,vs],by rw [s4,vl,hn];omega,by rw [s5,val],fun y=>(s6 y).trans ?_⟩
  rw [er]
  constructor
  ·intro hy
   obtain ⟨j,hj,rfl⟩:=List.mem_iff_getElem.1 hy
   have e0:V.items[j]=V.items[j]! :=by simp [hj]
   rw [e0]
   rw [vl] at hj
   by_cases e:j=0
   ·subst e;rw [v0];exact ⟨ja.bu (by omega),fun e=>aev e.symm⟩
   ·rw [vj j (by omega) hj];exact ⟨ja.bu (by omega),fun e'=>e (h.pc.inj (by omega) h0 e')⟩
  ·rintro ⟨hy,dI⟩
   obtain ⟨j,hj,rfl⟩:=List.mem_iff_getElem.1 hy
   have e0:H.items[j]=H.items[j]! :=by simp [hj]
   rw [e0] at dI⊢
   by_cases e1:j=0
   ·subst e1;exact absurd rfl dI
   ·by_cases e2:j=n
    ·subst e2;rw [←v0];exact ja.bu (by omega)
    ·rw [←vj j (by omega) (by omega)];exact ja.bu (by omega)
theorem HI.raise {H:Hp} (h:HI H) {x b:Int} (hb:H.iV x=true) (J1:0≤b) (Bf:b≤1099511627776) (jh:H.sc x≤1125899906842624-b):
  HI (H.jQ x b)∧(H.jQ x b).score=H.score.set x.toNat (H.sc x+b)∧(H.jQ x b).items.length=H.items.length∧(H.jQ x b).at_.length=H.at_.length∧∀y:Int,y∈(H.jQ x b).items↔y∈H.items:=by
 obtain ⟨h0,h1⟩:=Hp.dj hb
 have hs:=h.same
 have hx:x.toNat<H.score.length:=by omega
 obtain ⟨K,hK⟩:∃K:Hp,K={ H with score:=H.score.set x.toNat (H.sc x+b) }:=⟨_,rfl⟩
 have ki:K.items=H.items:=by rw [hK]
 have ka:K.at_=H.at_:=by rw [hK]
 have ks:K.score=H.score.set x.toNat (H.sc x+b):=by rw [hK]
 have kx:K.sc x=H.sc x+b:=by unfold Hp.sc;rw [ks];exact eI _ hx
 have ky:∀y:Int,0≤y→y≠x→K.sc y=H.sc y:=fun y hy dI=>by unfold Hp.sc;rw [ks];exact fO _ (by omega)
 have kP:PC K:=⟨fun j hj=>by rw [ki,ka];rw [ki] at hj;exact h.pc.oS j hj,fun j hj=>by rw [ki,ka];rw [ki] at hj;exact h.pc.pos j hj,fun y hy jJ=>by rw [ki,ka];rw [ka] at hy jJ;exact h.pc.inv y hy jJ⟩
 have k0:∀y:Nat,y<K.score.length→0≤K.score[y]! :=by
  intro y hy
  rw [ks] at hy⊢
  rw [aw] at hy
  by_cases e:x.toNat=y
  ·subst e
   rw [eI _ hx]
   have :0≤H.sc x:=h.UR _ hx
   omega
  ·rw [fO _ e];exact h.UR y hy
 have kl:K.at_.length=K.score.length:=by rw [ka,ks,aw];exact hs
 --of two Yy are not x nothing has changed;aeu is ahead of x who nE not
 have gh:∀y z:Int,0≤y→0≤z→y≠x→z≠x→H.bz y z=false→K.bz y z=false:=by
  intro y z hy hz hyx hzx hh
  cases hc:K.bz y z with
  |false=>rfl
  |true=>
   rw [eF,ky y hy hyx,ky z hz hzx] at hc
   have :H.bz y z=true:=eF.2 hc
   rw [this] at hh;cases hh
 have below:∀y:Int,0≤y→y≠x→H.bz y x=false→K.bz y x=false:=by
  intro y hy hyx hh
  cases hc:K.bz y x with
  |false=>rfl
  |true=>
   rw [eF,ky y hy hyx,kx] at hc
   have :H.bz y x=true:=eF.2 (by omega)
   rw [this] at hh;cases hh
 have e0:H.jQ x b=if 0≤H.pl x then Hp.zu (K.it (H.pl x)) ((H.pl x).toNat+1) K (H.pl x).toNat else K:=by
  unfold Hp.jQ
  rw [if_pos ⟨hb,J1,Bf,jh⟩,hK]
 by_cases hp:0≤H.pl x
 ·rw [if_pos hp] at e0
  obtain ⟨q1,q2⟩:=h.pc.inv x.toNat (by omega) hp
  have ex:((x.toNat:Nat):Int)=x:=by omega
  rw [ex] at q2
  have q1':(H.pl x).toNat<K.items.length:=by rw [ki];exact q1
  have q2':H.items[(H.pl x).toNat]! =x:=q2
  have e1:K.it (H.pl x)=K.items[(H.pl x).toNat]! :=rfl
  have e2:H.jQ x b=Hp.Lq ((H.pl x).toNat+1) K (H.pl x).toNat:=by
   rw [e0,e1,GM _ _ _ _ q1' (by omega) (by rw [vf kP q1'];exact kP),vf kP q1']
  have dI:∀j:Nat,j<H.items.length→j≠(H.pl x).toNat→H.items[j]! ≠x:=fun j hj qy e=>qy (h.pc.inj hj q1 (by rw [e,q2']))
  have hO:Kw K (H.pl x).toNat:=by
   refine ⟨fun j jB hj qy=> ?_,fun j jB hj hpj LN=> ?_⟩
   ·rw [ki] at hj⊢
    have r:=h.pc.oS j hj
    have rp:=h.pc.oS ((j-1)/2) (by omega)
    have ho:=h.ord j jB hj
    by_cases e:(j-1)/2=(H.pl x).toNat
    ·rw [e,q2'] at ho⊢
     exact below _ r.1 (dI j hj qy) ho
    ·exact gh _ _ r.1 rp.1 (dI j hj qy) (dI _ (by omega) e) ho
   ·rw [ki] at hj⊢
    have r:=h.pc.oS j hj
    have rp:=h.pc.oS (((H.pl x).toNat-1)/2) (by omega)
    have ho:=h.ord j jB hj
    rw [hpj] at ho
    have Z7:=h.ord (H.pl x).toNat LN q1
    exact gh _ _ r.1 rp.1 (dI j hj (by omega)) (dI _ (by omega) (by omega)) (gZ ho Z7)
  obtain ⟨s1,s2,s3,s4,s5,s6⟩:=ja ((H.pl x).toNat+1) K (H.pl x).toNat q1' (by omega) kP hO
  rw [←e2] at s1 s2 s3 s4 s5 s6
  exact ⟨⟨s1,s2,by rw [s5,s3];exact kl,by rw [s3];exact k0⟩,by rw [s3,ks],by rw [s4,ki],by rw [s5,ka],fun y=>by rw [s6 y,ki]⟩
 ·rw [if_neg hp] at e0
  rw [e0]
  have dI:∀j:Nat,j<H.items.length→H.items[j]! ≠x:=by
   intro j hj e
   have :=h.pc.pos j hj
   rw [e] at this
   apply hp
   unfold Hp.pl
   rw [this];omega
  refine ⟨⟨kP,fun j jB hj=> ?_,kl,k0⟩,ks,by rw [ki],by rw [ka],fun y=>by rw [ki]⟩
  rw [ki] at hj⊢
  exact gh _ _ (h.pc.oS j hj).1 (h.pc.oS ((j-1)/2) (by omega)).1 (dI j hj) (dI _ (by omega)) (h.ord j jB hj)
theorem uO {l r:List Int} {j:Nat} (h:j<l.length):(l++r)[j]! =l[j]! :=by simp [aa,cW h]
theorem In {l:List Int} {m j:Nat} {x:Int} (h:l.length≤j) (h2:j<l.length+m):(l++List.replicate m x)[j]! =x:=by
 rw [aa,gm h,List.getElem?_replicate,if_pos (by omega)];rfl
theorem HI.grow {H:Hp} (h:HI H) (m:Nat):HI (H.growBy m):=by
 have hs:=h.same
 have Vt:∀y:Int,0≤y→y<H.at_.length→(H.growBy m).sc y=H.sc y:=fun y h0 h1=>uO (by omega)
 refine ⟨⟨fun j hj=> ?_,fun j hj=> ?_,fun y hy jJ=> ?_⟩,fun j jB hj=> ?_,?_,fun y hy=> ?_⟩
 ·have :=h.pc.oS j hj
  show 0≤H.items[j]! ∧H.items[j]! <((H.at_++List.replicate m (-1)).length:Int)
  rw [ai];omega
 ·have r:=h.pc.oS j hj
  show (H.at_++List.replicate m (-1))[(H.items[j]!).toNat]! =j
  rw [uO (by omega)]
  exact h.pc.pos j hj
 ·have im:0≤(H.at_++List.replicate m (-1))[y]! :=jJ
  have kS:y<(H.at_++List.replicate m (-1)).length:=hy
  rw [ai,bh] at kS
  show ((H.at_++List.replicate m (-1))[y]!).toNat<H.items.length∧H.items[((H.at_++List.replicate m (-1))[y]!).toNat]! =y
  by_cases e:y<H.at_.length
  ·rw [uO e] at im⊢;exact h.pc.inv y e im
  ·rw [In (by omega) kS] at im;omega
 ·have r:=h.pc.oS j hj
  have RG:j<H.items.length:=hj
  have rp:=h.pc.oS ((j-1)/2) (by omega)
  have ho:=h.ord j jB hj
  show (H.growBy m).bz H.items[j]! H.items[(j-1)/2]! =false
  cases hc:(H.growBy m).bz H.items[j]! H.items[(j-1)/2]! with
  |false=>rfl
  |true=>
   rw [eF,Vt _ r.1 r.2,Vt _ rp.1 rp.2] at hc
   have :=eF.2 hc
   rw [this] at ho;cases ho
 ·show (H.at_++List.replicate m (-1)).length=(H.score++List.replicate m 0).length
  simp [hs]
 ·have kS:y<(H.score++List.replicate m 0).length:=hy
  rw [ai,bh] at kS
  show 0≤(H.score++List.replicate m 0)[y]!
  by_cases e:y<H.score.length
  ·rw [uO e];exact h.UR y e
  ·rw [In (by omega) kS];omega
theorem HI.none_:HI { items:=[],at_:=[],score:=[] }:=
 ⟨⟨fun j hj=>by simp at hj,fun j hj=>by simp at hj,fun j hj=>by simp at hj⟩,fun j _ hj=>by simp at hj,rfl,fun j hj=>by simp at hj⟩
structure Rc where
 lits:List Int
 iY:Bool
 act:Int
instance:Inhabited Rc:=⟨⟨[],false,0⟩⟩
structure Sv where
 T:Tr
 H:Hp
 vars:Nat
 list:List Rc
 watch:List (List Nat)
 phase:List Bool
 model:List Bool
 core:List Int
 head:Nat
 used:Nat
 bump:Nat
 many:Int
 bP:Nat
 bad:Bool
 has:Bool
def aW (l:Int):Nat:=if l<0 then (-2*l+1).toNat else (2*l).toNat
def dg (l:List Int) (i j:Nat):List Int:=(l.set i l[j]!).set j l[i]!
namespace Sv
def val (S:Sv) (l:Int):Int:=S.T.kQ l
def rc (S:Sv) (n:Nat):Rc:=S.list[n]!
def fH (S:Sv) (c:Nat):List Nat:=S.watch[c]!
def cd (S:Sv) (c:Nat) (l:List Nat):Sv:={ S with watch:=S.watch.set c l }
def gP (S:Sv) (c n:Nat):Sv:=S.cd c (S.fH c++[n])
def ep (S:Sv) (n:Nat) (l:List Int):Sv:={ S with list:=S.list.set n { S.rc n with lits:=l } }
def put (S:Sv) (l r:Int):Sv:={ S with T:=if S.T.iI l=true then S.T.n8 l r else S.T }
def deep (S:Sv):Sv:={ S with T:=S.T.wK }
def attach (S:Sv) (l:List Int) (b:Bool):Sv:=
 (({ S with list:=S.list++[⟨l,b,S.used⟩] }:Sv).gP (aW l[0]!) S.list.length).gP (aW l[1]!) S.list.length
def fV (S:Sv) (l:List Int):Nat→Nat→Option Nat
 |0,_=>none
 |f+1,k=>if k<l.length then (if 0≤S.val l[k]! then some k else fV S l f (k+1)) else none
def oW (S:Sv) (n:Nat) (l:List Int):Option Nat→Sv×Bool
 |some k=>((S.ep n (dg l 1 k)).gP (aW l[k]!) n,true)
 |none=>(S,false)
def di (S:Sv) (n:Nat):Sv×Bool:=S.oW n (S.rc n).lits (S.fV (S.rc n).lits (S.rc n).lits.length 2)
def cG (S:Sv) (n:Nat) (off:Int):Sv:=if (S.rc n).lits[0]! =off then S.ep n (dg (S.rc n).lits 0 1) else S
def fI (S:Sv) (n:Nat):Sv×Bool×Bool:=
 let x:=(S.rc n).lits[0]!
 if 0<S.val x then (S,true,true)
 else if (S.di n).2=true then ((S.di n).1,false,true)
 else if S.val x<0 then (S,true,false)
 else (S.put x (n+1),true,true)
def cY (S:Sv) (n:Nat) (off:Int):Sv×Bool×Bool:=
 if (S.rc n).lits.length=0 then (S,false,true) else (S.cG n off).fI n
def bS (off:Int):List Nat→List Nat→Sv→Sv×Option Nat
 |[],keep,S=>(S.cd (aW off) (keep++S.fH (aW off)),none)
 |n::r,keep,S=>
  let q:=S.cY n off
  let Tu:=if q.2.1=true then keep++[n] else keep
  if q.2.2=true then bS off r Tu q.1 else (q.1.cd (aW off) (Tu++r),some n)
def dd:Nat→Sv→Sv×Option Nat
 |0,S=>(S,none)
 |f+1,S=>
  if S.head<S.T.lits.length then
   let off:= -(S.T.lits[S.head]!)
   let q:=bS off (S.fH (aW off)) [] (S.cd (aW off) [])
   match q.2 with
   |some n=>(q.1,some n)
   |none=>dd f { q.1 with head:=q.1.head+1 }
  else (S,none)
def follow (S:Sv):Sv×Option Nat:=dd (S.vars+1) S
def ff (H:Hp) (x:Int):Hp:=if H.iV x=true∧H.pl x<0 then H.qS x else H
def lG (H:Hp) (x b:Int):Hp:=if H.iV x=true∧0≤b∧b≤1099511627776∧H.sc x≤1125899906842624-b then H.jQ x b else H
def dM (level:Int):List Int→Sv→Sv
 |[],S=>S
 |l::r,S=>if S.T.da (tv l)≤level then S else dM level r { S with phase:=S.phase.set (tv l).toNat (decide (0<l)),H:=ff S.H (tv l) }
def back (S:Sv) (level:Nat):Sv:=
 if S.T.levels.length≤level then S
 else
  let q:=dM level S.T.lits.reverse S
  { q with T:=q.T.cV level,head:=min q.head (q.T.cV level).lits.length }
structure Gr where
 S:Sv
 seen:List Int
 fF:Int
 bn:List Int
def meet (G:Gr) (l:Int):Gr:=
 let v:=tv l
 if v∈G.seen∨G.S.T.da v≤0 then G
 else
  let S1:Sv:={ G.S with H:=lG G.S.H v G.S.bump }
  if S1.T.da v=S1.T.levels.length then { G with S:=S1,seen:=v::G.seen,fF:=G.fF+1 }
  else { G with S:=S1,seen:=v::G.seen,bn:=G.bn++[l] }
def meets (skip:Int):List Int→Gr→Gr
 |[],G=>G
 |l::r,G=>meets skip r (if l≠skip then meet G l else G)
def gf (S:Sv) (n:Nat):Sv:={ S with list:=S.list.set n { S.rc n with act:=S.used } }
def fg:Nat→Gr→Int→Int→List Int→Option (Gr×Int)
 |0,_,_,_,_=>none
 |f+1,G,n,skip,rest=>
  let G1:=if 0≤n then meets skip (G.S.rc n.toNat).lits { G with S:=G.S.gf n.toNat } else G
  match rest.dropWhile (fun x=>decide (tv x∉G1.seen)) with
  |[]=>none
  |x::r=>
   let G2:={ G1 with fF:=G1.fF-1 }
   if G2.fF=0 then some (G2,x) else fg f G2 (G2.S.T.fe (tv x)-1) x r
def second (T:Tr):Nat→Nat→List Int→Int→List Int×Int
 |0,_,l,cj=>(l,cj)
 |f+1,k,l,cj=>if k<l.length then (if cj<T.da (tv l[k]!) then second T f (k+1) (dg l 1 k) (T.da (tv l[k]!)) else second T f (k+1) l cj) else (l,cj)
def gF (S:Sv) (n:Nat):Option (Sv×List Int×Int):=
 match fg (S.T.lits.length+1) ⟨S,[],0,[0]⟩ n 0 S.T.lits.reverse with
 |none=>none
 |some (G,x)=>
  let l:=G.bn.set 0 (-x)
  let q:=second G.S.T l.length 1 l 0
  some (G.S,q.1,q.2)
def bX (S:Sv):Sv:={ S with bump:=min (S.bump+S.bump/16+1) 1073741824 }
def bt (S:Sv) (l:List Int):Sv:=
 if l.length=1 then S.put l[0]! 0
 else { ((S.attach l true).put l[0]! (S.list.length+1)) with many:=S.many+1 }
def conflict (S:Sv) (n:Nat):Option (Sv×Bool):=
 if S.T.levels.length=0 then some ({ S with bad:=true },false)
 else
  match S.gF n with
  |none=>none
  |some (S1,l,level)=>some (((S1.back level.toNat).bt l).bX,true)
def locked (S:Sv) (n:Nat):Bool:=decide (0<S.val (S.rc n).lits[0]!)&&decide (S.T.fe (tv (S.rc n).lits[0]!)=n+1)
def Bu (S:Sv):List Nat:=(List.range S.list.length).filter fun n=>(S.rc n).iY&&decide (2<(S.rc n).lits.length)&& !S.locked n
def bW (S:Sv) (n:Nat):Sv:={ S with list:=S.list.set n ⟨[],false,(S.rc n).act⟩,many:=S.many-1 }
def dB (S:Sv):List Int→List Int→List Int→List Int
 |[],_,met=>met
 |l::r,g,met=>
  if tv l∉g∨S.T.da (tv l)=0 then dB S r g met
  else if S.T.fe (tv l)-1<0 then dB S r g (l::met)
  else dB S r ((S.rc (S.T.fe (tv l)-1).toNat).lits.map tv++g) met
def gJ (met:List Int):List Int→List Int→List Int
 |[],core=>core
 |x::r,core=>gJ met r (if x∈met∧x∉core then core++[x] else core)
def wV (S:Sv) (a:Int) (assume:List Int):Sv:={ S with core:=gJ (dB S S.T.lits.reverse [tv a] [a]) assume S.core }
def cI:Nat→Sv→Sv×Int
 |0,S=>(S,0)
 |f+1,S=>
  if S.H.items.length=0 then (S,0)
  else
   let v:=S.H.it 0
   let S1:Sv:={ S with H:=S.H.jS }
   if S1.val v≠0 then cI f S1 else (S1,if S1.phase[v.toNat]! =true then v else -v)
def pick (S:Sv):Sv×Int:=cI (S.H.items.length+1) S
def keep (S:Sv):Sv:={ S with model:=(List.range (S.vars+1)).map fun v:Nat=>decide (0<S.val (v:Int)),has:=true }
def choose (S:Sv):Sv×Int:=if S.pick.2=0 then (S.pick.1.keep,1) else (S.pick.1.deep.put S.pick.2 0,0)
def bv (assume:List Int):Nat→Sv→Sv×Int
 |0,S=>S.choose
 |f+1,S=>
  if S.T.levels.length<assume.length then
   let a:=assume[S.T.levels.length]!
   if S.val a= -1 then (S.wV a assume,2)
   else if S.val a=0 then (S.deep.put a 0,0)
   else bv assume f S.deep
  else S.choose
def aS (S:Sv) (assume:List Int):Sv×Int:=bv assume (assume.length+1) S
def de (S:Sv) (n next :Nat):Sv:=if next ≤n then S.back 0 else S
def ie:Nat→Int→Hp→Hp
 |0,_,H=>H
 |n+1,v,H=>ie n (v+1) (ff H v)
def grow (S:Sv) (n:Nat):Sv:=
 { S with T:=S.T.dS n,H:=ie n (S.vars+1) (S.H.dS n),phase:=S.phase++List.replicate n false,watch:=S.watch++List.replicate (2*n) [],vars:=S.vars+n }
def bare:Sv:={ T:=Tr.fresh.dS 0,H:=Hp.none_.dS 1,vars:=0,list:=[],watch:=[[],[]],phase:=[false],model:=[],core:=[],head:=0,used:=0,bump:=1,many:=0,bP:=400,bad:=false,has:=false }
def new (vars:Int):Sv:=bare.grow (min (max vars 0) 262143).toNat
end Sv
structure Cw where
 A:Option Addr
 c:Nat
 lits:List Int
 iY:Bool
 act:Int
instance:Inhabited Cw:=⟨⟨none,0,[],false,0⟩⟩
def Cw.rc (x:Cw):Rc:=⟨x.lits,x.iY,x.act⟩
structure Wl where
 A:Option Addr
 c:Nat
 l:List Nat
instance:Inhabited Wl:=⟨⟨none,0,[]⟩⟩
def Wl.val (h:Wl):Value:= .slice h.A h.l.length h.c
def bR (l:List Nat):List Int:=l.map (fun n:Nat=>(n:Int))
theorem bj (l:List Nat):(bR l).length=l.length:=by simp [bR]
theorem o7 (l:List Nat) (i:Nat):(bR l)[i]! =((l[i]! :Nat):Int):=by
 simp only [bR,aa,aO]
 cases l[i]? <;>simp
def eS:List Cw→List Value
 |[]=>[]
 |x::r=> .slice x.A x.lits.length x.c:: .bool x.iY:: .int .i64 x.act::eS r
theorem J9 (cs:List Cw):(eS cs).length=cs.length*3:=by
 induction cs with
 |nil=>rfl
 |cons x r ih=>simp only [eS,bO,ih];omega
theorem Ka (a b:List Cw):eS (a++b)=eS a++eS b:=by
 induction a with
 |nil=>rfl
 |cons x r ih=>simp [eS,ih]
theorem mp:∀(cs:List Cw) (i:Nat),i<cs.length→(eS cs)[i*3]? =some (.slice (cs[i]!).A (cs[i]!).lits.length (cs[i]!).c)∧(eS cs)[i*3+1]? =some (.bool (cs[i]!).iY)∧(eS cs)[i*3+2]? =some (.int .i64 (cs[i]!).act)
 |[],i,h=>by simp at h
 |x::r,0,h=>by simp [eS]
 |x::r,i+1,h=>by
  simp only [bO] at h
  have ih:=mp r i (by omega)
  have e0:(i+1)*3=i*3+3:=by omega
  simp only [eS,e0]
  have e1:(x::r)[i+1]! =r[i]! :=by simp
  rw [e1]
  refine ⟨?_,?_,?_⟩
  ·simpa [cw] using ih.1
  ·have :i*3+3+1=(i*3+1)+3:=by omega
   rw [this];simpa [cw] using ih.2.1
  ·have :i*3+3+2=(i*3+2)+3:=by omega
   rw [this];simpa [cw] using ih.2.2
theorem o5:∀(cs:List Cw) (i:Nat) (x:Cw),i<cs.length→(((eS cs).set (i*3) (.slice x.A x.lits.length x.c)).set (i*3+1) (.bool x.iY)).set (i*3+2) (.int .i64 x.act)=eS (cs.set i x)
 |[],i,x,h=>by simp at h
 |y::r,0,x,h=>by simp [eS]
 |y::r,i+1,x,h=>by
  simp only [bO] at h
  have ih:=o5 r i x (by omega)
  have e0:(i+1)*3=i*3+1+1+1:=by omega
  have e1:i*3+1+1+1+1=(i*3+1)+1+1+1:=rfl
  have e2:i*3+1+1+1+2=(i*3+2)+1+1+1:=rfl
  simp only [eS,e0,e1,e2,List.set_cons_succ,ih]
structure aQ where
 a:Nat
 tL:ew
 hL:fD
 cA:Option Addr
 cC:Nat
 wA:Option Addr
 wC:Nat
 pA:Option Addr
 pC:Nat
 mA:Option Addr
 mC:Nat
 oA:Option Addr
 oC:Nat
 cs:List Cw
 ws:List Wl
 id:Nat
 cQ:Nat→Nat×Nat×Nat
def oQ (L:aQ) (S:Sv):Array Value:=
 #[.pointer (some ⟨L.tL.a,0,none⟩), .pointer (some ⟨L.hL.a,0,none⟩), .int .i64 S.vars, .slice L.cA L.cs.length L.cC, .slice L.wA L.ws.length L.wC, .slice L.pA S.phase.length L.pC, .slice L.mA S.model.length L.mC, .slice L.oA S.core.length L.oC,
  .int .i64 S.head, .int .i64 S.used, .int .i64 S.bump, .int .i64 S.many, .int .i64 S.bP, .bool S.bad, .bool S.has]
def Bools (w:World) (A:Option Addr) (c:Nat) (l:List Bool):Prop:=w.ownsRow 0 4 1 (.slice A l.length c) l.length (l.map Value.bool)
def rM (w:World) (A:Option Addr) (c:Nat) (l:List Cw):Prop:=w.ownsRow 0 118 3 (.slice A l.length c) l.length (eS l)
def ug (w:World) (A:Option Addr) (c:Nat) (l:List Wl):Prop:=w.ownsRow 0 22 1 (.slice A l.length c) l.length (l.map Wl.val)
theorem dN {w:World} {b:Nat} {e:TypeId} {size n m c:Nat} {A:Option Addr} {vs:List Value} (h:w.ownsRow b e size (.slice A m c) n vs):∀k,k∈ap A→k<w.heap.size:=by
 intro k hk
 rcases h.2 with ⟨h1,_⟩ |⟨g,cap,cur,hv,_,hg,_⟩
 ·simp only [Value.slice.injEq] at h1
  rw [h1.1] at hk
  simp [ap] at hk
 ·simp only [Value.slice.injEq] at hv
  obtain ⟨rfl,_⟩:=hv
  simp [ap] at hk
  subst hk
  exact At.lt (t:=e) hg
structure bf (w:World) (L:aQ) (S:Sv):Prop where
 obj:At w L.a 84 (oQ L S)
 tr:TrAt w L.tL S.T
 hp:ct w L.hL S.H
 io:L.hL.A2.isSome=true
 AA:L.cs.map Cw.rc=S.list
 Ay:L.ws.map (·.l)=S.watch
 ux:rM w L.cA L.cC L.cs
 rws:ug w L.wA L.wC L.ws
 uv:Bools w L.pA L.pC S.phase
 xv:Bools w L.mA L.mC S.model
 tO:Ints w L.oA L.oC S.core
 pr:∀n:Nat,n<L.cs.length→Ints w (L.cs[n]!).A (L.cs[n]!).c (L.cs[n]!).lits
 rr:∀c:Nat,c<L.ws.length→Ints w (L.ws[c]!).A (L.ws[c]!).c (bR (L.ws[c]!).l)
 t0:L.cQ L.a=(L.id,0,0)
 t1:∀k,k∈L.tL.fp→L.cQ k=(L.id,1,0)
 t2:∀k,k∈L.hL.fp→L.cQ k=(L.id,2,0)
 t3:∀k,k∈ap L.cA→L.cQ k=(L.id,3,0)
 t4:∀k,k∈ap L.wA→L.cQ k=(L.id,4,0)
 t5:∀k,k∈ap L.pA→L.cQ k=(L.id,5,0)
 t6:∀k,k∈ap L.mA→L.cQ k=(L.id,6,0)
 t7:∀k,k∈ap L.oA→L.cQ k=(L.id,7,0)
 t8:∀n:Nat,n<L.cs.length→∀k,k∈ap (L.cs[n]!).A→L.cQ k=(L.id,8,n)
 t9:∀c:Nat,c<L.ws.length→∀k,k∈ap (L.ws[c]!).A→L.cQ k=(L.id,9,c)
def aQ.own (L:aQ) (w:World):List Nat:=(List.range w.heap.size).filter fun k=>(L.cQ k).1==L.id
theorem aQ.bQ {L:aQ} {w:World} {k:Nat}:k∈L.own w↔k<w.heap.size∧(L.cQ k).1=L.id:=by simp [aQ.own]
def aQ.ext (L L':aQ) (w:World):Prop:=L'.a=L.a∧L'.id=L.id∧∀k,k<w.heap.size→(L'.cQ k).1=L.id→(L.cQ k).1=L.id
theorem aQ.co (L:aQ) (w:World):L.ext L w:=⟨rfl,rfl,fun _ _ h=>h⟩
theorem aQ.aX {L M N:aQ} {w w':World} (h:L.ext M w) (k:M.ext N w') (hw:w.heap.size≤w'.heap.size):L.ext N w:=
 ⟨k.1.trans h.1,k.2.1.trans h.2.1,fun j hj e=>h.2.2 j hj ((k.2.2 j (aK hj hw) (e.trans h.2.1.symm)).trans h.2.1)⟩
theorem aQ.aR {L M:aQ} {w w' xu:World} (h:L.ext M w) (h1:Fr (L.own w) w w') (h2:Fr (M.own w') w' xu):Fr (L.own w) w xu:=
 h1.trans h2 fun x hx=>by
  rw [aQ.bQ] at hx
  rcases bK x w.heap.size with hl |hl
  ·left
   rw [aQ.bQ]
   exact ⟨hl,h.2.2 x hl (hx.2.trans h.2.1)⟩
  ·exact .inr hl
def aQ.re (L:aQ) (w:World) (t:Nat×Nat):Nat→Nat×Nat×Nat:=fun k=>if k<w.heap.size then L.cQ k else (L.id,t)
theorem aQ.ic {L:aQ} {w:World} {t:Nat×Nat} {k:Nat} (h:k<w.heap.size):L.re w t k=L.cQ k:=if_pos h
theorem aQ.MG {L:aQ} {w:World} {t:Nat×Nat} {k:Nat} (h:w.heap.size≤k):L.re w t k=(L.id,t):=if_neg (by omega)
theorem eH {w w':World} {F:List Nat} {e:TypeId} {size n m c b:Nat} {A:Option Addr} {vs:List Value} (h:w.ownsRow b e size (.slice A m c) n vs) (hf:Fr F w w') (hd:∀k,k∈ap A→k∉F):w'.ownsRow b e size (.slice A m c) n vs:=
 hf.own h fun k hk=>hd k ((iR k).1 hk)
structure abu (w':World) (L:aQ) (S:Sv) (P:Nat×Nat→Prop):Prop where
 obj:¬P (0,0)→At w' L.a 84 (oQ L S)
 tr:¬P (1,0)→TrAt w' L.tL S.T
 hp:¬P (2,0)→ct w' L.hL S.H
 ux:¬P (3,0)→rM w' L.cA L.cC L.cs
 rws:¬P (4,0)→ug w' L.wA L.wC L.ws
 uv:¬P (5,0)→Bools w' L.pA L.pC S.phase
 xv:¬P (6,0)→Bools w' L.mA L.mC S.model
 tO:¬P (7,0)→Ints w' L.oA L.oC S.core
 pr:∀n:Nat,n<L.cs.length→¬P (8,n)→Ints w' (L.cs[n]!).A (L.cs[n]!).c (L.cs[n]!).lits
 rr:∀c:Nat,c<L.ws.length→¬P (9,c)→Ints w' (L.ws[c]!).A (L.ws[c]!).c (bR (L.ws[c]!).l)
theorem bf.off {w w':World} {L:aQ} {S:Sv} (h:bf w L S) {P:Nat×Nat→Prop} {F:List Nat} (hf:Fr F w w') (hF:∀k,k∈F→k<w.heap.size→∃t,P t∧L.cQ k=(L.id,t)):abu w' L S P:=by
 have key:∀{k:Nat} {u:Nat×Nat},k<w.heap.size→L.cQ k=(L.id,u)→¬P u→k∉F:=fun hk hl dI hm=>dI (by
  obtain ⟨t,ht,h2⟩:=hF _ hm hk
  have :=h2.symm.trans hl
  simp only [Prod.mk.injEq,true_and] at this
  obtain rfl :t=_:=by simpa [Prod.ext_iff] using this
  exact ht)
 refine ⟨fun hn=>hf.at_ h.obj (key h.obj.lt h.t0 hn),fun hn=>h.tr.fr hf (fun k hk=>key (h.tr.lt k hk) (h.t1 k hk) hn),fun hn=>h.hp.fr hf (fun k hk=>key (h.hp.lt k hk) (h.t2 k hk) hn),
  fun hn=>eH h.ux hf (fun k hk=>key (dN h.ux k hk) (h.t3 k hk) hn),fun hn=>eH h.rws hf (fun k hk=>key (dN h.rws k hk) (h.t4 k hk) hn),
  fun hn=>eH h.uv hf (fun k hk=>key (dN h.uv k hk) (h.t5 k hk) hn),fun hn=>eH h.xv hf (fun k hk=>key (dN h.xv k hk) (h.t6 k hk) hn),
  fun hn=>h.tO.fr hf (fun k hk=>key (h.tO.lt k hk) (h.t7 k hk) hn),fun n hl hn=>(h.pr n hl).fr hf (fun k hk=>key ((h.pr n hl).lt k hk) (h.t8 n hl k hk) hn),
  fun c hl hn=>(h.rr c hl).fr hf (fun k hk=>key ((h.rr c hl).lt k hk) (h.t9 c hl k hk) hn)⟩
theorem bf.fr {w w':World} {L:aQ} {S:Sv} (h:bf w L S) {F:List Nat} (hf:Fr F w w') (hF:∀k,k∈F→k<w.heap.size→(L.cQ k).1≠L.id):bf w' L S:=by
 have key:∀{k:Nat} {u:Nat×Nat},k<w.heap.size→L.cQ k=(L.id,u)→k∉F:=fun hk hl hm=>hF _ hm hk (by rw [hl])
 exact ⟨hf.at_ h.obj (key h.obj.lt h.t0),h.tr.fr hf (fun k hk=>key (h.tr.lt k hk) (h.t1 k hk)),h.hp.fr hf (fun k hk=>key (h.hp.lt k hk) (h.t2 k hk)),h.io,h.AA,h.Ay,
  eH h.ux hf (fun k hk=>key (dN h.ux k hk) (h.t3 k hk)),eH h.rws hf (fun k hk=>key (dN h.rws k hk) (h.t4 k hk)),
  eH h.uv hf (fun k hk=>key (dN h.uv k hk) (h.t5 k hk)),eH h.xv hf (fun k hk=>key (dN h.xv k hk) (h.t6 k hk)),
  h.tO.fr hf (fun k hk=>key (h.tO.lt k hk) (h.t7 k hk)),fun n hl=>(h.pr n hl).fr hf (fun k hk=>key ((h.pr n hl).lt k hk) (h.t8 n hl k hk)),
  fun c hl=>(h.rr c hl).fr hf (fun k hk=>key ((h.rr c hl).lt k hk) (h.t9 c hl k hk)),h.t0,h.t1,h.t2,h.t3,h.t4,h.t5,h.t6,h.t7,h.t8,h.t9⟩
theorem bf.keep {w w':World} {L:aQ} {S:Sv} (h:bf w L S) (hf:Fr [] w w'):bf w' L S:=h.fr hf (fun k hk=>by cases hk)
structure WH (L:aQ) (cQ:Nat→Nat×Nat×Nat):Prop where
 t0:cQ L.a=(L.id,0,0)
 t1:∀k,k∈L.tL.fp→cQ k=(L.id,1,0)
 t2:∀k,k∈L.hL.fp→cQ k=(L.id,2,0)
 t3:∀k,k∈ap L.cA→cQ k=(L.id,3,0)
 t4:∀k,k∈ap L.wA→cQ k=(L.id,4,0)
 t5:∀k,k∈ap L.pA→cQ k=(L.id,5,0)
 t6:∀k,k∈ap L.mA→cQ k=(L.id,6,0)
 t7:∀k,k∈ap L.oA→cQ k=(L.id,7,0)
 t8:∀n:Nat,n<L.cs.length→∀k,k∈ap (L.cs[n]!).A→cQ k=(L.id,8,n)
 t9:∀c:Nat,c<L.ws.length→∀k,k∈ap (L.ws[c]!).A→cQ k=(L.id,9,c)
theorem bf.tags {w:World} {L:aQ} {S:Sv} (h:bf w L S) (t:Nat×Nat):WH L (L.re w t):=by
 refine ⟨?_,fun k hk=> ?_,fun k hk=> ?_,fun k hk=> ?_,fun k hk=> ?_,fun k hk=> ?_,fun k hk=> ?_,fun k hk=> ?_,fun n hn k hk=> ?_,fun n hn k hk=> ?_⟩
 ·rw [aQ.ic h.obj.lt];exact h.t0
 ·rw [aQ.ic (h.tr.lt k hk)];exact h.t1 k hk
 ·rw [aQ.ic (h.hp.lt k hk)];exact h.t2 k hk
 ·rw [aQ.ic (dN h.ux k hk)];exact h.t3 k hk
 ·rw [aQ.ic (dN h.rws k hk)];exact h.t4 k hk
 ·rw [aQ.ic (dN h.uv k hk)];exact h.t5 k hk
 ·rw [aQ.ic (dN h.xv k hk)];exact h.t6 k hk
 ·rw [aQ.ic (h.tO.lt k hk)];exact h.t7 k hk
 ·rw [aQ.ic ((h.pr n hn).lt k hk)];exact h.t8 n hn k hk
 ·rw [aQ.ic ((h.rr n hn).lt k hk)];exact h.t9 n hn k hk
theorem aQ.mK {L:aQ} {w:World} {t:Nat×Nat} {k:Nat} (h:(k<w.heap.size∧L.cQ k=(L.id,t))∨w.heap.size≤k):L.re w t k=(L.id,t):=by
 rcases h with ⟨h1,h2⟩ |h1
 ·rw [aQ.ic h1,h2]
 ·exact aQ.MG h1
theorem aQ.gE {L:aQ} {w w':World} {F:List Nat} (hf:Fr F w w') (hF:∀k,k∈F→k<w.heap.size→(L.cQ k).1=L.id):Fr (L.own w) w w':=
 hf.mono fun k hk=>by
  rcases bK k w.heap.size with hl |hl
  ·left
   rw [aQ.bQ]
   exact ⟨hl,hF k hk hl⟩
  ·exact .inr hl
theorem aQ.nZ {L:aQ} {w:World} {t:Nat×Nat} {k:Nat} (h:k<w.heap.size) (e:(L.re w t k).1=L.id):(L.cQ k).1=L.id:=by rwa [aQ.ic h] at e
theorem bf.qab {w w':World} {L:aQ} {S:Sv} (h:bf w L S) {YA:ew} {T':Tr} (ht:TrAt w' YA T') (he:L.tL.ext YA w) (hf:Fr L.tL.fp w w'):
  ∃L',bf w' L' { S with T:=T' }∧L.ext L' w∧Fr (L.own w) w w':=by
 have hF:∀k,k∈L.tL.fp→k<w.heap.size→L.cQ k=(L.id,1,0):=fun k hk _=>h.t1 k hk
 have o:=h.off (P:=(· =(1,0))) hf (fun k hk hl=>⟨_,rfl,hF k hk hl⟩)
 have g:=h.tags (1,0)
 have ea:=he.1
 refine ⟨{ L with tL:=YA,cQ:=L.re w (1,0) },⟨?_,ht,o.hp (by decide),h.io,h.AA,h.Ay,o.ux (by decide),o.rws (by decide),o.uv (by decide),o.xv (by decide),o.tO (by decide),fun n hn=>o.pr n hn (by simp),fun n hn=>o.rr n hn (by simp),
  g.t0,fun k hk=>aQ.mK ((he.2 k hk).imp (fun h1=>⟨h.tr.lt k h1,h.t1 k h1⟩) id),g.t2,g.t3,g.t4,g.t5,g.t6,g.t7,g.t8,g.t9⟩,⟨rfl,rfl,fun k hk e=>aQ.nZ hk e⟩,aQ.gE hf (fun k hk hl=>by rw [hF k hk hl])⟩
 have :=o.obj (by decide)
 simp only [oQ] at this⊢
 rw [ea]
 exact this
theorem bf.heap {w w':World} {L:aQ} {S:Sv} (h:bf w L S) {Wp:fD} {H':Hp} (ht:ct w' Wp H') (he:L.hL.ext Wp w) (hf:Fr L.hL.fp w w'):
  ∃L',bf w' L' { S with H:=H' }∧L.ext L' w∧Fr (L.own w) w w':=by
 have hF:∀k,k∈L.hL.fp→k<w.heap.size→L.cQ k=(L.id,2,0):=fun k hk _=>h.t2 k hk
 have o:=h.off (P:=(· =(2,0))) hf (fun k hk hl=>⟨_,rfl,hF k hk hl⟩)
 have g:=h.tags (2,0)
 have ea:=he.1
 refine ⟨{ L with hL:=Wp,cQ:=L.re w (2,0) },⟨?_,o.tr (by decide),ht,he.2.2 h.io,h.AA,h.Ay,o.ux (by decide),o.rws (by decide),o.uv (by decide),o.xv (by decide),o.tO (by decide),fun n hn=>o.pr n hn (by simp),fun n hn=>o.rr n hn (by simp),
  g.t0,g.t1,fun k hk=>aQ.mK ((he.2.1 k hk).imp (fun h1=>⟨h.hp.lt k h1,h.t2 k h1⟩) id),g.t3,g.t4,g.t5,g.t6,g.t7,g.t8,g.t9⟩,⟨rfl,rfl,fun k hk e=>aQ.nZ hk e⟩,aQ.gE hf (fun k hk hl=>by rw [hF k hk hl])⟩
 have :=o.obj (by decide)
 simp only [oQ] at this⊢
 rw [ea]
 exact this
theorem bf.top {w w':World} {L L':aQ} {S S':Sv} (h:bf w L S) (hf:Fr [L.a] w w') (ho:At w' L.a 84 (oQ L' S'))
  (hL:L'.a=L.a∧L'.tL=L.tL∧L'.hL=L.hL∧L'.cA=L.cA∧L'.cC=L.cC∧L'.wA=L.wA∧L'.wC=L.wC∧L'.pA=L.pA∧L'.pC=L.pC∧L'.mA=L.mA∧L'.mC=L.mC∧L'.oA=L.oA∧L'.oC=L.oC∧L'.cs=L.cs∧L'.ws=L.ws∧L'.id=L.id∧L'.cQ=L.cQ)
  (hS:S'.T=S.T∧S'.H=S.H∧S'.list=S.list∧S'.watch=S.watch∧S'.phase=S.phase∧S'.model=S.model∧S'.core=S.core):bf w' L' S'∧L.ext L' w∧Fr (L.own w) w w':=by
 have hF:∀k,k∈[L.a]→k<w.heap.size→L.cQ k=(L.id,0,0):=fun k hk _=>by simp at hk;subst hk;exact h.t0
 have o:=h.off (P:=(· =(0,0))) hf (fun k hk hl=>⟨_,rfl,hF k hk hl⟩)
 obtain ⟨L1,L2,L3,L4,L5,L6,L7,L8,L9,L10,L11,L12,L13,L14,L15,O5,O4⟩:=hL
 obtain ⟨S1,S2,S3,S4,S5,S6,S7⟩:=hS
 refine ⟨⟨by rw [L1];exact ho,?_,?_,?_,?_,?_,?_,?_,?_,?_,?_,?_,?_,?_,?_,?_,?_,?_,?_,?_,?_,?_,?_⟩,⟨L1,O5,fun k _ e=>by rwa [O4] at e⟩,aQ.gE hf (fun k hk hl=>by rw [hF k hk hl])⟩
 ·rw [L2,S1];exact o.tr (by decide)
 ·rw [L3,S2];exact o.hp (by decide)
 ·rw [L3];exact h.io
 ·rw [L14,S3];exact h.AA
 ·rw [L15,S4];exact h.Ay
 ·rw [L4,L5,L14];exact o.ux (by decide)
 ·rw [L6,L7,L15];exact o.rws (by decide)
 ·rw [L8,L9,S5];exact o.uv (by decide)
 ·rw [L10,L11,S6];exact o.xv (by decide)
 ·rw [L12,L13,S7];exact o.tO (by decide)
 ·rw [L14];exact fun n hn=>o.pr n hn (by simp)
 ·rw [L15];exact fun n hn=>o.rr n hn (by simp)
 ·rw [O4,L1,O5];exact h.t0
 ·rw [O4,L2,O5];exact h.t1
 ·rw [O4,L3,O5];exact h.t2
 ·rw [O4,L4,O5];exact h.t3
 ·rw [O4,L6,O5];exact h.t4
 ·rw [O4,L8,O5];exact h.t5
 ·rw [O4,L10,O5];exact h.t6
 ·rw [O4,L12,O5];exact h.t7
 ·rw [O4,L14,O5];exact h.t8
 ·rw [O4,L15,O5];exact h.t9
theorem kz {α:Type} {l:List α} {i:Nat} {x:α} (h:l[i]? =some x):l.set i x=l:=by
 apply List.ext_getElem?
 intro j
 rw [List.getElem?_set]
 split
 ·rename_i e
  subst e
  split
  ·exact h.symm
  ·rename_i hl
   rw [kt (by omega)]
 ·rfl
theorem dT {α:Type} [Inhabited α] (l:List α) (i j:Nat) (x:α):(l.set i x)[j]! =if i=j∧i<l.length then x else l[j]! :=by
 simp only [aa,List.getElem?_set]
 by_cases h:i=j
 ·subst h
  by_cases h2:i<l.length
  ·simp [h2]
  ·simp [h2]
 ·simp [h]
theorem bf.Tp {w w':World} {L:aQ} {S:Sv} (h:bf w L S) {n:Nat} (hn:n<L.cs.length) {ls:List Int} {F:List Nat} (hi:Ints w' (L.cs[n]!).A (L.cs[n]!).c ls) (hl:ls.length=(L.cs[n]!).lits.length)
  (hf:Fr F w w') (hF:∀k,k∈F→k<w.heap.size→L.cQ k=(L.id,8,n)):∃L',bf w' L' (S.ep n ls)∧L.ext L' w∧Fr (L.own w) w w'∧L'.cs=L.cs.set n { L.cs[n]! with lits:=ls }∧L'.ws=L.ws∧L'.wA=L.wA∧L'.tL=L.tL:=by
 have o:=h.off (P:=(· =(8,n))) hf (fun k hk hl=>⟨_,rfl,hF k hk hl⟩)
 have po:∀j:Nat,(L.cs.set n { L.cs[n]! with lits:=ls })[j]! =if n=j∧n<L.cs.length then { L.cs[n]! with lits:=ls } else L.cs[j]! :=fun j=>dT _ _ _ _
 refine ⟨{ L with cs:=L.cs.set n { L.cs[n]! with lits:=ls } },⟨?_,o.tr (by simp),o.hp (by simp),h.io,?_,h.Ay,?_,o.rws (by simp),o.uv (by simp),o.xv (by simp),o.tO (by simp),?_,fun c hc=>o.rr c hc (by simp),h.t0,h.t1,h.t2,h.t3,h.t4,h.t5,h.t6,h.t7,?_,h.t9⟩,⟨rfl,rfl,fun k _ e=>e⟩,aQ.gE hf (fun k hk hl=>by rw [hF k hk hl]),rfl,rfl,rfl,rfl⟩
 ·have :=o.obj (by simp)
  simp only [oQ,Sv.ep,aw] at this⊢
  exact this
 ·simp only [Sv.ep,Sv.rc]
  rw [←h.AA,List.map_set]
  congr 1
  simp only [Cw.rc,aa,aO,af hn,cu,ay]
 ·have :=o.ux (by simp)
  unfold rM at this⊢
  have e:eS (L.cs.set n { L.cs[n]! with lits:=ls })=eS L.cs:=by
   obtain ⟨g0,g1,g2⟩:=mp L.cs n hn
   rw [←o5 L.cs n _ hn]
   simp only
   have e0:(eS L.cs).set (n*3) (.slice (L.cs[n]!).A ls.length (L.cs[n]!).c)=eS L.cs:=kz (by rw [hl];exact g0)
   rw [e0,kz g1,kz g2]
  simp only [aw,e]
  exact this
 ·intro j hj
  simp only [aw] at hj
  simp only
  rw [po]
  by_cases e:n=j
  ·subst e
   rw [if_pos ⟨rfl,hn⟩]
   exact hi
  ·rw [if_neg (fun x=>e x.1)]
   exact o.pr j hj (by simp;omega)
 ·intro j hj k hk
  simp only [aw] at hj
  simp only at hk
  rw [po] at hk
  by_cases e:n=j
  ·subst e
   rw [if_pos ⟨rfl,hn⟩] at hk
   exact h.t8 n hn k hk
  ·rw [if_neg (fun x=>e x.1)] at hk
   exact h.t8 j hj k hk
theorem bf.lits {w w':World} {L:aQ} {S:Sv} (h:bf w L S) {n:Nat} (hn:n<L.cs.length) {ls:List Int} {F:List Nat} (hi:Ints w' (L.cs[n]!).A (L.cs[n]!).c ls) (hl:ls.length=(L.cs[n]!).lits.length)
  (hf:Fr F w w') (hF:∀k,k∈F→k<w.heap.size→L.cQ k=(L.id,8,n)):∃L',bf w' L' (S.ep n ls)∧L.ext L' w∧Fr (L.own w) w w'∧L'.cs=L.cs.set n { L.cs[n]! with lits:=ls }∧L'.ws=L.ws∧L'.wA=L.wA:=by
 obtain ⟨L',h1,h2,h3,h4,h5,h6,_⟩:=h.Tp hn hi hl hf hF
 exact ⟨L',h1,h2,h3,h4,h5,h6⟩
theorem bf.cd {w w1:World} {L:aQ} {S:Sv} (h:bf w L S) {c:Nat} (hc:c<L.ws.length) {A':Option Addr} {c':Nat} {l':List Nat} {F:List Nat} (hi:Ints w1 A' c' (bR l'))
  (hf:Fr F w w1) (hF:∀k,k∈F→k<w.heap.size→L.cQ k=(L.id,9,c)) (hA:∀k,k∈ap A'→(k<w.heap.size∧L.cQ k=(L.id,9,c))∨w.heap.size≤k):
  ∃gw,L.wA=some ⟨gw,0,none⟩∧gw<w.heap.size∧w1.frozen? ⟨gw,c,none⟩=false∧∃L',bf (w1.setCell ⟨gw,c,none⟩ (.slice A' l'.length c')) L' (S.cd c l')∧L.ext L' w∧Fr (L.own w) w (w1.setCell ⟨gw,c,none⟩ (.slice A' l'.length c'))∧L'={ L with ws:=L.ws.set c ⟨A',c',l'⟩,cQ:=L.re w (9,c) }:=by
 have o1:=h.off (P:=(· =(9,c))) hf (fun k hk hl=>⟨_,rfl,hF k hk hl⟩)
 have r1:=o1.rws (by simp)
 have tW:∃gw,L.wA=some ⟨gw,0,none⟩∧gw<w.heap.size:=by
  rcases h.rws.2 with ⟨_,h2⟩ |⟨g,cap,cur,hv,_,hg,_⟩
  ·omega
  ·simp only [Value.slice.injEq,true_and] at hv
   exact ⟨g,hv.1,At.lt (t:=22) hg⟩
 obtain ⟨gw,hwA,sE⟩:=tW
 have kG:L.cQ gw=(L.id,4,0):=h.t4 gw (by rw [hwA];simp [ap])
 have r1':=r1
 unfold ug at r1
 rw [hwA] at r1
 have mg:=(World.ownsRow.stored r1 c (.slice A' l'.length c')).1
 have bZ:Fr (gw::F) w (w1.setCell ⟨gw,c,none⟩ (.slice A' l'.length c')):=(hf.mono (fun k hk=> .inl (by simp [hk]))).setCell (.inl (by simp)) _
 have Bh:∀k,k∈gw::F→k<w.heap.size→∃t,(t=(9,c)∨t=(4,0))∧L.cQ k=(L.id,t):=by
  intro k hk hl
  rcases av.1 hk with rfl |hk
  ·exact ⟨_, .inr rfl,kG⟩
  ·exact ⟨_, .inl rfl,hF k hk hl⟩
 have o:=h.off (P:=fun t=>t=(9,c)∨t=(4,0)) bZ Bh
 have g:=h.tags (9,c)
 have dI:∀k,k∈ap A'→k≠gw:=by
  rintro k hk rfl
  rcases hA k hk with ⟨_,h2⟩ |h2
  ·rw [kG] at h2;simp at h2
  ·omega
 have po:∀j:Nat,(L.ws.set c ⟨A',c',l'⟩)[j]! =if c=j∧c<L.ws.length then ⟨A',c',l'⟩ else L.ws[j]! :=fun j=>dT _ _ _ _
 refine ⟨gw,hwA,sE,World.ownsRow.frozenAt r1 c,{ L with ws:=L.ws.set c ⟨A',c',l'⟩,cQ:=L.re w (9,c) },⟨?_,o.tr (by simp),o.hp (by simp),h.io,h.AA,?_,o.ux (by simp),?_,o.uv (by simp),o.xv (by simp),o.tO (by simp),fun n hn=>o.pr n hn (by simp),?_,
  g.t0,g.t1,g.t2,g.t3,g.t4,g.t5,g.t6,g.t7,g.t8,?_⟩,⟨rfl,rfl,fun k hk e=>aQ.nZ hk e⟩,aQ.gE bZ (fun k hk hl=>by obtain ⟨t,_,e⟩:=Bh k hk hl;rw [e]),rfl⟩
 ·have :=o.obj (by simp)
  simp only [oQ,Sv.cd,aw] at this⊢
  exact this
 ·simp only [Sv.cd]
  rw [←h.Ay,List.map_set]
 ·unfold ug
  simp only [aw,List.map_set]
  rw [hwA]
  exact mg
 ·intro j hj
  simp only [aw] at hj
  simp only
  rw [po]
  by_cases e:c=j
  ·subst e
   rw [if_pos ⟨rfl,hc⟩]
   exact hi.gh (p:=⟨gw,c,none⟩) (fun hk=>dI _ hk rfl) _
  ·rw [if_neg (fun x=>e x.1)]
   exact o.rr j hj (by simp;omega)
 ·intro j hj k hk
  simp only [aw] at hj
  simp only at hk
  rw [po] at hk
  by_cases e:c=j
  ·subst e
   rw [if_pos ⟨rfl,hc⟩] at hk
   exact aQ.mK (hA k hk)
  ·rw [if_neg (fun x=>e x.1)] at hk
   exact g.t9 j hj k hk
theorem mW (w:World) (l:Int) (h0: -1000000000≤l) (h1:l≤1000000000):
  Calls Tryz.prog 83 #[.int .i64 l] w fun e w'=>e= .returned (.int .i64 (aW l:Nat))∧w=w':=by
 by_cases hn:l<0
 ·have hd:decide (l<0)=true:=decide_eq_true hn
  have hc:al ((aW l:Int)= -2*l+1):=by unfold aW al;rw [if_pos hn];omega
  have hk:al (∀x:Int,x= -2*l+1→Ending.returned (.int .i64 x)= .returned (.int .i64 (aW l:Nat))):=fun x hx=>by rw [hx,hc.o]
  go_enter Tryz.func83,Tryz.ntmps83
  go_wp2
  go_ret
  exact ⟨hk.o _ (by first |rfl |omega | (simp;omega)),rfl⟩
 ·have hd:decide (l<0)=false:=decide_eq_false hn
  have hc:al ((aW l:Int)=2*l):=by unfold aW al;rw [if_neg hn];omega
  have hk:al (∀x:Int,x=2*l→Ending.returned (.int .i64 x)= .returned (.int .i64 (aW l:Nat))):=fun x hx=>by rw [hx,hc.o]
  go_enter Tryz.func83,Tryz.ntmps83
  go_wp2
  go_ret
  exact ⟨hk.o _ (by first |rfl |omega | (simp;omega)),rfl⟩
theorem bf.cells {w:World} {L:aQ} {S:Sv} (h:bf w L S):
  w.cell? ⟨L.a,0,none⟩=some (.pointer (some ⟨L.tL.a,0,none⟩))∧w.cell? ⟨L.a,1,none⟩=some (.pointer (some ⟨L.hL.a,0,none⟩))∧w.cell? ⟨L.a,2,none⟩=some (.int .i64 S.vars)∧w.cell? ⟨L.a,3,none⟩=some (.slice L.cA L.cs.length L.cC)∧
  w.cell? ⟨L.a,4,none⟩=some (.slice L.wA L.ws.length L.wC)∧w.cell? ⟨L.a,5,none⟩=some (.slice L.pA S.phase.length L.pC)∧w.cell? ⟨L.a,6,none⟩=some (.slice L.mA S.model.length L.mC)∧w.cell? ⟨L.a,7,none⟩=some (.slice L.oA S.core.length L.oC)∧
  w.cell? ⟨L.a,8,none⟩=some (.int .i64 S.head)∧w.cell? ⟨L.a,9,none⟩=some (.int .i64 S.used)∧w.cell? ⟨L.a,10,none⟩=some (.int .i64 S.bump)∧w.cell? ⟨L.a,11,none⟩=some (.int .i64 S.many)∧w.cell? ⟨L.a,12,none⟩=some (.int .i64 S.bP)∧
  w.cell? ⟨L.a,13,none⟩=some (.bool S.bad)∧w.cell? ⟨L.a,14,none⟩=some (.bool S.has):=by
 have o:=h.obj
 refine ⟨?_,?_,?_,?_,?_,?_,?_,?_,?_,?_,?_,?_,?_,?_,?_⟩<;>(rw [o.cell];rfl)
theorem vt (w:World) (L:aQ) (S:Sv) (h:bf w L S):
  Calls Tryz.prog 47 #[.pointer (some ⟨L.a,0,none⟩)] w fun e w'=>e= .returned (.bool true)∧w=w':=by
 obtain ⟨c0,-⟩:=h.cells
 clear h
 go_enter Tryz.func47,Tryz.ntmps47
 go_wp2
 go_ret
 exact ⟨rfl,rfl⟩
structure Sv.Ok (S:Sv) (m:Nat):Prop where
 vl:S.vars≤262143
 tr:∃R,TRep S.T S.vars R S.T.levels.length
 hi:HI S.H
 hl:S.H.at_.length=S.vars+1
 ph:S.phase.length=S.vars+1
 wl:S.watch.length=2*S.vars+2
 ll:S.list.length≤2199023255552
 wb:∀c n:Nat,n∈S.watch[c]! →n<S.list.length
 wt:(S.watch.map List.length).sum+m≤2*S.list.length
 lr:∀n:Nat,∀x∈(S.rc n).lits,x≠0∧ -(S.vars:Int)≤x∧x≤S.vars
 ln:∀n:Nat,(S.rc n).lits.length≠1
 lb:∀n:Nat,(S.rc n).lits.length≤1048576
 hd:S.head≤S.T.lits.length
 rs:∀v:Int,0≤S.T.fe v∧S.T.fe v≤S.list.length
theorem Sv.Ok.small {S:Sv} {m:Nat} (ok:S.Ok m):∀v:Int,1≤v→v<S.T.cells.length→ -1≤(S.T.kq v).v∧(S.T.kq v).v≤1:=by
 obtain ⟨R,hR⟩:=ok.tr
 exact hR.small
theorem Sv.Ok.lit {S:Sv} {m:Nat} (ok:S.Ok m) {n k:Nat} (hk:k<(S.rc n).lits.length):(S.rc n).lits[k]! ≠0∧ -(S.vars:Int)≤(S.rc n).lits[k]! ∧(S.rc n).lits[k]! ≤S.vars:=
 ok.lr n _ (by simp only [aa,af hk,ay];exact List.getElem_mem hk)
theorem gH {x:Int} {v:Nat} (h0: -(v:Int)≤x) (h1:x≤v):aW x<2*v+2:=by
 unfold aW
 split<;>omega
theorem GP:∀(l:List Nat) (c:Nat),l[c]! ≤l.sum
 |[],c=>by simp
 |x::r,0=>by simp
 |x::r,c+1=>by have :=GP r c;simp only [List.sum_cons];simp at this⊢;omega
theorem Sv.Ok.room {S:Sv} {m:Nat} (ok:S.Ok m) (c:Nat):(S.watch[c]!).length≤4398046511104:=by
 have h1:=GP (S.watch.map List.length) c
 have h2:=ok.wt
 have h3:=ok.ll
 have e:(S.watch.map List.length)[c]! =(S.watch[c]!).length:=by
  simp only [aa,aO]
  cases S.watch[c]? <;>rfl
 omega
theorem FP {S:Sv} {l:List Int} {f k:Nat} (h:l.length≤k):S.fV l f k=none:=by
 cases f with
 |zero=>rfl
 |succ f=>simp only [Sv.fV];rw [if_neg (by omega)]
theorem OC {S:Sv} {l:List Int} {f k:Nat} (h:k<l.length) (hv:¬0≤S.val l[k]!):S.fV l (f+1) k=S.fV l f (k+1):=by
 simp only [Sv.fV]
 rw [if_pos h,if_neg hv]
theorem Kb {S:Sv} {l:List Int} {f k:Nat} (h:k<l.length) (hv:0≤S.val l[k]!):S.fV l (f+1) k=some k:=by
 simp only [Sv.fV]
 rw [if_pos h,if_pos hv]
theorem bf.pD {w:World} {L:aQ} {S:Sv} (h:bf w L S) {n:Nat} (hn:n<L.cs.length):S.rc n=(L.cs[n]!).rc:=by
 unfold Sv.rc
 rw [←h.AA]
 simp only [aa,aO,af hn,cu,ay]
theorem bf.rX {w:World} {L:aQ} {S:Sv} (h:bf w L S) {c:Nat} (hc:c<L.ws.length):S.fH c=(L.ws[c]!).l:=by
 unfold Sv.fH
 rw [←h.Ay]
 simp only [aa,aO,af hc,cu,ay]
theorem bf.ni {w:World} {L:aQ} {S:Sv} (h:bf w L S):L.cs.length=S.list.length:=by rw [←h.AA,aq]
theorem bf.qX {w:World} {L:aQ} {S:Sv} (h:bf w L S):L.ws.length=S.watch.length:=by rw [←h.Ay,aq]
theorem bf.pB {w:World} {L:aQ} {S:Sv} (h:bf w L S) {n:Nat} (hn:n<L.cs.length):∃g,L.cA=some ⟨g,0,none⟩∧
  w.cell? ⟨g,n*3,none⟩=some (.slice (L.cs[n]!).A (L.cs[n]!).lits.length (L.cs[n]!).c)∧w.cell? ⟨g,n*3+1,none⟩=some (.bool (L.cs[n]!).iY)∧w.cell? ⟨g,n*3+2,none⟩=some (.int .i64 (L.cs[n]!).act):=by
 have r:=h.ux
 unfold rM at r
 obtain ⟨g,hg⟩:∃g,L.cA=some ⟨g,0,none⟩:=by
  rcases r.2 with ⟨_,h2⟩ |⟨g,cap,cur,hv,_,hg,_⟩
  ·omega
  ·simp only [Value.slice.injEq,true_and] at hv
   exact ⟨g,hv.1⟩
 rw [hg] at r
 obtain ⟨g0,g1,g2⟩:=mp L.cs n hn
 have hl:=J9 L.cs
 refine ⟨g,hg,?_,?_,?_⟩
 ·rw [World.ownsRow.cellAt r (n*3) (by omega)];exact g0
 ·rw [World.ownsRow.cellAt r (n*3+1) (by omega)];exact g1
 ·rw [World.ownsRow.cellAt r (n*3+2) (by omega)];exact g2
theorem bf.UI {w:World} {L:aQ} {S:Sv} (h:bf w L S) {c:Nat} (hc:c<L.ws.length):∃g,L.wA=some ⟨g,0,none⟩∧w.cell? ⟨g,c,none⟩=some (.slice (L.ws[c]!).A (L.ws[c]!).l.length (L.ws[c]!).c)∧w.frozen? ⟨g,c,none⟩=false:=by
 have r:=h.rws
 unfold ug at r
 obtain ⟨g,hg⟩:∃g,L.wA=some ⟨g,0,none⟩:=by
  rcases r.2 with ⟨_,h2⟩ |⟨g,cap,cur,hv,_,hg,_⟩
  ·omega
  ·simp only [Value.slice.injEq,true_and] at hv
   exact ⟨g,hv.1⟩
 rw [hg] at r
 refine ⟨g,hg,?_,World.ownsRow.frozenAt r c⟩
 rw [World.ownsRow.cellAt r c (by omega)]
 simp only [aO,af hc,cu,aa,ay,Wl.val]
theorem Fr.bD {w w':World} {F:List Nat} {p:Addr} {v:Value} (h:Fr F w w') (hn:p.block∉F) (hc:w.cell? p=some v):w'.cell? p=some v:=by
 rw [World.cell?_of_block (h.block p.block (bE hc) hn)]
 exact hc
theorem kr (l:List Nat) (n:Nat):bR l++[(n:Int)]=bR (l++[n]):=by simp [bR]
def MvP (MV:Sv×Bool) (L:aQ) (w:World) (e:Ending) (w':World):Prop:=
 (e= .returned (.bool false)∧MV.2=false∧Fr [] w w')∨(e= .returned (.bool true)∧MV.2=true∧∃L',bf w' L' MV.1∧L.ext L' w∧Fr (L.own w) w w')
def oF (r:Value) (S':Sv) (L:aQ) (w:World) (e:Ending) (w':World):Prop:=e= .returned r∧∃L',bf w' L' S'∧L.ext L' w∧Fr (L.own w) w w'
set_option maxRecDepth 100000 in
set_option maxHeartbeats 4000000 in
theorem sX (w:World) (L:aQ) (S:Sv) (h:bf w L S) (m:Nat) (ok:S.Ok m) (n:Nat) (hn:n<S.list.length):
  Calls Tryz.prog 148 #[.pointer (some ⟨L.a,0,none⟩), .int .i64 n] w (MvP (S.di n) L w):=by
 have rR:n<L.cs.length:=by rw [h.ni];exact hn
 have ed:=h.pD rR
 obtain ⟨-,-,-,-⟩:=h.cells
 obtain ⟨gc,i9,x0,-,-⟩:=h.pB rR
 have fJ:=h.pr n rR
 have kG:=h.t8 n rR
 have xB:=ok.lb n
 have jA:=fun k hk=>ok.lit (n:=n) (k:=k) hk
 rw [ed] at xB jA
 simp only [Cw.rc] at xB jA
 obtain ⟨⟨A,c,l,b,ac⟩,hx⟩:∃x,L.cs[n]! =x:=⟨_,rfl⟩
 rw [hx] at ed x0 fJ xB jA kG
 simp only [Cw.rc] at ed x0 fJ xB jA kG
 have mt:=ae fJ
 have HH:=ae h
 have HV:=ae (fun (u:Ext w) (y:Int) (h0: -9223372036854775808≤y) (h1:y≤9223372036854775807)=>dQ u.v L.tL S.T (h.tr.fr u.fr (by simp)) y h0 h1 ok.small)
 have HVL:=ok.vl
 have Gw:=ae jA
 have sD:=ok.ll
 obtain ⟨fk,hfk⟩:∃fk,S.fV l l.length 2=fk:=⟨_,rfl⟩
 have HFK:=ae hfk
 have hmv:S.di n=S.oW n l fk:=by
  simp only [Sv.di,ed,hfk]
 have xo:=ae hmv
 obtain ⟨MV,hMV⟩:∃MV,S.di n=MV:=⟨_,rfl⟩
 rw [hMV] at xo⊢
 have NO:al (fk=none→∀W,Fr [] w W→MvP MV L w (.returned (.bool false)) W):=fun h1 W hW=>by
  subst h1
  rw [xo.o]
  exact .inl ⟨rfl,rfl,hW⟩
 have pP:al (∀k,fk=some k→∀W L',bf W L' ((S.ep n (dg l 1 k)).gP (aW l[k]!) n)→L.ext L' w→Fr (L.own w) w W→MvP MV L w (.returned (.bool true)) W):=fun k h1 W L' g1 g2 g3=>by
  subst h1
  rw [xo.o]
  exact .inr ⟨rfl,rfl,L',g1,g2,g3⟩
 obtain ⟨c0,-,-,c3,c4,-⟩:=h.cells
 rw [i9] at c3
 have uT:=ae c0
 have Hu:=h.ni
 have HX:=ae hx
 have ahF:=ae kG
 have agR:al (L.ws.length=2*S.vars+2):=h.qX.trans ok.wl
 have abM:=ae ok.room
 have agT:=ae (fun c hc=>h.rX (c:=c) hc)
 clear hMV hmv hfk ed fJ jA h hx kG
 go_enter Tryz.func148,Tryz.ntmps148
 go_wp2_with fail
 clear c0 c3 c4 x0
 go_loopg [6] l.length (fun g x6 wr=>∃k:Nat,k+g=l.length+2∧2≤k∧x6= .int .i64 k∧al (S.fV l g k=fk)∧Fr [] w wr)
 case atStart=>exact ⟨2,by omega,by omega,rfl,HFK.o,Fr.refl _ _⟩
 case round=>
  obtain ⟨k,hk,RB,rfl,cH,hf⟩:=hrel
  have HK:=ae hk
  have HF:=ae hf
  have nI:k≤l.length+2:=by omega
  clear hk hf
  by_cases bM:k<l.length
  ·obtain ⟨f,cU⟩:∃f,gk=f+1:=⟨gk-1,by have :=HK.o;omega⟩
   obtain ⟨jJ,im,kS⟩:=Gw.o k bM
   obtain ⟨gb,hA,sE⟩:=mt.o.pos bM
   have cy:=HF.o.aT ((hA▸mt.o:Ints w (some ⟨gb,0,none⟩) c l).cell bM)
   have c0:=HF.o.aT uT.o
   obtain ⟨y,hy⟩:∃y,l[k]! =y:=⟨_,rfl⟩
   rw [hy] at jJ im kS cy
   have HY:=ae hy
   have e0:=Ext.cell c0
   have ey:=Ext.cell cy
   obtain ⟨v,hv⟩:∃v,S.T.kQ y=v:=⟨_,rfl⟩
   have HVY:=ae hv
   have KV:=ae (fun u:Ext wr=>HV.o ⟨u.v,HF.o.aj u.fr⟩ y (by omega) (by omega))
   simp only [hv] at KV
   clear hy hv
   subst hA
   by_cases LB:0≤v
   ·have hd:decide (0≤v)=true:=decide_eq_true LB
    have HKK:al (fk=some k):=by
     have :=cH.o
     rw [cU,Kb bM (by unfold Sv.val;rw [HY.o,HVY.o];exact LB)] at this
     exact this.symm
    go_wp2
    refine ax ?_
    repeat (go_big_quiet_step (exact bk (KV.o _)))
    refine gO ?_
    intro w2 bl
    clear e0 ey c0 cy
    have uo:=ae (HF.o.aj bl.o)
    clear HF bl KV
    have cy:=uo.o.aT (mt.o.cell bM)
    have c1:=uo.o.aT (mt.o.cell (i:=1) (by omega))
    rw [HY.o] at cy
    obtain ⟨z,hz⟩:∃z,l[1]! =z:=⟨_,rfl⟩
    rw [hz] at c1
    have HZ:=ae hz
    clear hz
    have f1:=(mt.o.fr uo.o (by simp)).frozen 1
    have fk':=(mt.o.fr uo.o (by simp)).frozen k
    go_upto_region 6 with fail
    go_region
    go_upto_region 7 with fail
    obtain ⟨W,hW⟩:∃W,((w2.setCell ⟨gb,1,none⟩ (.int .i64 y)).setCell ⟨gb,k,none⟩ (.int .i64 z)).drew=W:=⟨_,rfl⟩
    rw [hW]
    have hIW:Ints W (some ⟨gb,0,none⟩) c (dg l 1 k):=by
     have :=(((mt.o.fr uo.o (by simp)).eo 1 y).eo k z).drew
     rw [hW] at this
     unfold dg
     rw [HY.o,HZ.o]
     exact this
    have hFW:Fr [gb] w2 W:=hW▸(((Fr.refl [gb] w2).setCell (.inl (by simp)) _).setCell (.inl (by simp)) _).drew
    have hlen:(dg l 1 k).length=l.length:=by simp [dg]
    have h2:=HH.o.keep uo.o
    obtain ⟨L1,h1,rT,cU,Aq,Jb,aeL⟩:=h2.lits (n:=n) (by omega) (ls:=dg l 1 k) (F:=[gb]) (by rw [HX.o];exact hIW) (by rw [HX.o];exact hlen) hFW (fun j hj _=>by simp at hj;subst hj;exact ahF.o _ (by simp [ap]))
    have JY:aW y<L1.ws.length:=by
     have :=gH (v:=S.vars) im kS
     rw [Jb,agR.o]
     exact this
    obtain ⟨qz,RV⟩:∃qz,aW y=qz:=⟨_,rfl⟩
    have KC:=ae (fun W'=>mW W' y (by omega) (by omega))
    have Qi:=ae RV
    simp only [RV] at KC
    rw [RV] at JY
    obtain ⟨gw,tW,sw,fw⟩:=h1.UI JY
    have Bb:=h1.rr qz JY
    have LK:=abM.o qz
    have tR:S.fH qz=(L1.ws[qz]!).l:=by rw [Jb];exact agT.o qz (by rw [←Jb];exact JY)
    unfold Sv.fH at tR
    rw [tR] at LK
    have VH:∀j,j∈ap (L1.ws[qz]!).A→L1.cQ j=(L1.id,9,qz):=h1.t9 qz JY
    obtain ⟨⟨A9,c9,l9⟩,EY⟩:∃x,L1.ws[qz]! =x:=⟨_,rfl⟩
    have HX9:=ae EY
    rw [EY] at sw Bb LK tR VH
    simp only at sw Bb LK tR VH
    have HW9:al (S.watch[qz]! =l9):=tR
    obtain ⟨s0,-,-,-,s4,-⟩:=h1.cells
    rw [tW,rT.1,Jb] at s4
    have HN0:al (L.a∉ap A9):=fun hm=>by
     have e1:=VH _ hm
     rw [←rT.1,h1.t0] at e1
     simp at e1
    have tE:al (gb∉ap A9):=fun hm=>by
     have e1:=VH _ hm
     have e2:=h1.t8 n (by rw [Aq];simp;omega) gb (by rw [Aq,dT,if_pos ⟨rfl,by omega⟩,HX.o];simp [ap])
     rw [e2] at e1
     simp at e1
    have jN:al (gw∉ap A9):=fun hm=>by
     have e1:=VH _ hm
     have e2:=h1.t4 gw (by rw [tW];simp [ap])
     rw [e2] at e1
     simp at e1
    have s1:W.cell? ⟨gb,1,none⟩=some (.int .i64 y):=by
     rw [hIW.cell (i:=1) (by omega)]
     unfold dg
     rw [HY.o,HZ.o]
     simp only [aa]
     rw [List.getElem?_set_ne (by omega),List.getElem?_set_self (by omega)]
     rfl
    have D7:=ae s4
    have P9:=ae s1
    have sO:=ae sw
    have Xp:=ae fw
    have Bn:=ae Bb
    have Yi:=ae VH
    have H1:=ae h1
    have eG:=ae (aQ.aX (aQ.co L w) (⟨rT.1,rT.2.1,fun j hj e=>rT.2.2 j (aK hj uo.o.size) e⟩:L.ext L1 w) (au _))
    have dy:=ae (aQ.aR (aQ.co L w) (uo.o.mono (fun j hj=>by cases hj)) cU)
    have Xz:al (qz<L1.ws.length):=JY
    have am8:qz<L.ws.length:=by rw [←Jb];exact JY
    have vQ:(1:Int)<l.length:=by omega
    have aal:l9.length<17592186044416:=by omega
    have Xl:=ae aal
    have ahV:al (Fr (ap A9) W W):=Fr.refl _ _
    have Xo:=ae tW
    clear tW Jb aeL JY
    clear hW hIW hFW hlen h2 rT cU Aq Bb LK tR VH EY s0 s4 s1 sw fw h1 cy c1 f1 fk' RV aal
    refine wp_region_noPanic ?_
    refine bp (fun w':World=>Fr (ap A9) W w') 22 (by kernel_rfl) (ahV.o.drew) (fun db=> ?_)
    refine pf 15 [(0,[]),(1,[]),(2,[]),(3,[3,22]),(4,[]),(5,[]),(6,[6,22]),(8,[]),(9,[]),(10,[]),(11,[11,22]),(12,[]),(13,[]),(14,[14,22]),(18,[])] db (fun w cm=>And.intro (cm.bD HN0.o D7.o) (And.intro (cm.bD tE.o P9.o) (cm.bD jN.o sO.o))) ?_;intro db
    have aH:=db.resolve_left (by decide)
    refine aU (rs:=[7,19]) (by kernel_rfl) (by simp) ?_
    refine bY.cons (o:= ?aea) ?Q9 ?E2 ?_
    case Q9=>rfl
    case E2=>
     intro K hK
     (go_simp;refine (KC.o _).mono ?_;rintro e w5 ⟨rfl,rfl⟩;dsimp only)
     refine hK.out _ _ (.inr ?_) (fun mj=> ?_)
     ·first |exact aH.aj kf |exact aH.alloc _ |exact aH
     clear hK K
     try simp only [Act.put,q5,q6,q7]
     have aH:=mj.resolve_left (by decide)
     refine aU (rs:=[15,19]) (by kernel_rfl) (by simp) ?_
     refine bY.cons (o:= ?ad9) ?Q8 ?E1 ?_
     case Q8=>rfl
     case E1=>
      intro K hK
      (go_simp;refine (KC.o _).mono ?_;rintro e w5 ⟨rfl,rfl⟩;dsimp only)
      refine hK.out _ _ (.inr ?_) (fun gM=> ?_)
      ·first |exact aH.aj kf |exact aH.alloc _ |exact aH
      clear hK K
      try simp only [Act.put,q5,q6,q7]
      refine pf 2 [(16,[]),(17,[17,22])] gM (fun w cm=>And.intro (cm.bD HN0.o D7.o) (And.intro (cm.bD tE.o P9.o) (cm.bD jN.o sO.o))) ?_;intro gM
      refine R2 19 gM fun K hK aH=> ?_
      go_simp
      refine hK.out _ _ (.inr ?_) (fun CY=> ?_)
      ·first |exact aH.aj kf |exact aH.alloc _ |exact aH
      clear hK K
      try simp only [Act.put,q5,q6,q7]
      refine R2 20 CY fun K hK aH=> ?_
      (refine bT rfl _ _ rfl A9 c9 (bR l9) _ rfl (bj l9).symm ?Jk _ 1 n rfl ?Fv (by rw [bj];exact Xl.o) ?_;(case Jk=>first |exact Bn.o.drew.alloc _ |exact Bn.o.alloc _ |exact Bn.o);(case Fv=>simp);intro gA cA wA JR kf JS XP)
      refine hK.out _ _ (.inr ?_) (fun fU=> ?_)
      ·first |exact aH.aj kf |exact aH.alloc _ |exact aH
      clear hK K
      try simp only [Act.put,q5,q6,q7]
      refine TB 1 [(21,[])] fU ?_;intro fU
      refine R2 22 fU fun K hK aH=> ?_
      (have sb:=aH.bD jN.o sO.o;have fb:World.frozen? _ _=_:=(World.frozen?_of_block (aH.block gw (bE sO.o) jN.o)).trans Xp.o;go_simp)
      refine hK.out _ _ (.inl rfl) (fun CX=> ?_)
      clear hK K
      try simp only [Act.put,q5,q6,q7]
      refine fo ?_
      have nq:W.heap.size≤wA.heap.size:=aH.size
      have NV:Ints wA (some ⟨gA,0,none⟩) cA (bR (l9++[n])):=by rw [←kr];exact JR
      obtain ⟨FM,eY,_,_,L2,h2,jp,bZ,_⟩:=H1.o.cd Xz.o NV aH (fun j hj _=>Yi.o j hj) (fun j hj=>by
       simp [ap] at hj
       subst hj
       rcases JS with h5 |h5
       ·exact .inl ⟨(Bn.o.lt _ h5),Yi.o _ h5⟩
       ·right
        rw [h5]
        first |exact au _ | (simp))
      obtain rfl :gw=FM:=by rw [Xo.o] at eY;simpa using eY
      simp only [ai,bF] at h2 bZ
      have Gn:al ((S.ep n (dg l 1 k)).cd qz (l9++[n])=(S.ep n (dg l 1 k)).gP (aW l[k]!) n):=by
       rw [HY.o,Qi.o]
       unfold Sv.gP Sv.fH al
       show _=Sv.cd _ _ (S.watch[qz]! ++[n])
       rw [HW9.o]
      rw [Gn.o] at h2
      have Cq:w.heap.size≤W.heap.size:=dy.o.size
      have mF:=ae (pP.o k HKK.o _ L2 h2 (aQ.aX eG.o jp Cq) (aQ.aR eG.o dy.o bZ))
      go_wp2
      go_ret
      exact mF.o
     refine bY.cons (o:= ?ad8) ?Q7 ?Vk bY.nil
     case Q7=>rfl
     intro K hK
     go_simp
     refine hK.out _ _ (.inr ?_) (fun gM=> ?_)
     ·first |exact aH.aj kf |exact aH.alloc _ |exact aH
     clear hK K
     try simp only [Act.put,q5,q6,q7]
     refine R2 15 gM fun K hK aH=> ?_
     (go_simp;refine (KC.o _).mono ?_;rintro e w5 ⟨rfl,rfl⟩;dsimp only)
     refine hK.out _ _ (.inr ?_) (fun jX=> ?_)
     ·first |exact aH.aj kf |exact aH.alloc _ |exact aH
     clear hK K
     try simp only [Act.put,q5,q6,q7]
     refine pf 2 [(16,[]),(17,[17,22])] jX (fun w cm=>And.intro (cm.bD HN0.o D7.o) (And.intro (cm.bD tE.o P9.o) (cm.bD jN.o sO.o))) ?_;intro jX
     refine R2 20 jX fun K hK aH=> ?_
     (refine bT rfl _ _ rfl A9 c9 (bR l9) _ rfl (bj l9).symm ?Jj _ 1 n rfl ?Fu (by rw [bj];exact Xl.o) ?_;(case Jj=>first |exact Bn.o.drew.alloc _ |exact Bn.o.alloc _ |exact Bn.o);(case Fu=>simp);intro gA cA wA JR kf JS XP)
     refine hK.out _ _ (.inr ?_) (fun fU=> ?_)
     ·first |exact aH.aj kf |exact aH.alloc _ |exact aH
     clear hK K
     try simp only [Act.put,q5,q6,q7]
     refine TB 1 [(21,[])] fU ?_;intro fU
     refine R2 22 fU fun K hK aH=> ?_
     (have sb:=aH.bD jN.o sO.o;have fb:World.frozen? _ _=_:=(World.frozen?_of_block (aH.block gw (bE sO.o) jN.o)).trans Xp.o;go_simp)
     refine hK.out _ _ (.inl rfl) (fun CX=> ?_)
     clear hK K
     try simp only [Act.put,q5,q6,q7]
     refine fo ?_
     have nq:W.heap.size≤wA.heap.size:=aH.size
     have NV:Ints wA (some ⟨gA,0,none⟩) cA (bR (l9++[n])):=by rw [←kr];exact JR
     obtain ⟨FM,eY,_,_,L2,h2,jp,bZ,_⟩:=H1.o.cd Xz.o NV aH (fun j hj _=>Yi.o j hj) (fun j hj=>by
      simp [ap] at hj
      subst hj
      rcases JS with h5 |h5
      ·exact .inl ⟨(Bn.o.lt _ h5),Yi.o _ h5⟩
      ·right
       rw [h5]
       first |exact au _ | (simp))
     obtain rfl :gw=FM:=by rw [Xo.o] at eY;simpa using eY
     simp only [ai,bF] at h2 bZ
     have Gn:al ((S.ep n (dg l 1 k)).cd qz (l9++[n])=(S.ep n (dg l 1 k)).gP (aW l[k]!) n):=by
      rw [HY.o,Qi.o]
      unfold Sv.gP Sv.fH al
      show _=Sv.cd _ _ (S.watch[qz]! ++[n])
      rw [HW9.o]
     rw [Gn.o] at h2
     have Cq:w.heap.size≤W.heap.size:=dy.o.size
     have mF:=ae (pP.o k HKK.o _ L2 h2 (aQ.aX eG.o jp Cq) (aQ.aR eG.o dy.o bZ))
     go_wp2
     go_ret
     exact mF.o
    refine bY.cons (o:= ?ad7) ?Q6 ?Vj bY.nil
    case Q6=>rfl
    intro K hK
    go_simp
    refine hK.out _ _ (.inr ?_) (fun mj=> ?_)
    ·first |exact aH.aj kf |exact aH.alloc _ |exact aH
    clear hK K
    try simp only [Act.put,q5,q6,q7]
    refine R2 7 mj fun K hK aH=> ?_
    (go_simp;refine (KC.o _).mono ?_;rintro e w5 ⟨rfl,rfl⟩;dsimp only)
    refine hK.out _ _ (.inr ?_) (fun gM=> ?_)
    ·first |exact aH.aj kf |exact aH.alloc _ |exact aH
    clear hK K
    try simp only [Act.put,q5,q6,q7]
    refine R2 15 gM fun K hK aH=> ?_
    (go_simp;refine (KC.o _).mono ?_;rintro e w5 ⟨rfl,rfl⟩;dsimp only)
    refine hK.out _ _ (.inr ?_) (fun jX=> ?_)
    ·first |exact aH.aj kf |exact aH.alloc _ |exact aH
    clear hK K
    try simp only [Act.put,q5,q6,q7]
    refine pf 2 [(16,[]),(17,[17,22])] jX (fun w cm=>And.intro (cm.bD HN0.o D7.o) (And.intro (cm.bD tE.o P9.o) (cm.bD jN.o sO.o))) ?_;intro jX
    refine R2 20 jX fun K hK aH=> ?_
    (refine bT rfl _ _ rfl A9 c9 (bR l9) _ rfl (bj l9).symm ?Ji _ 1 n rfl ?Ft (by rw [bj];exact Xl.o) ?_;(case Ji=>first |exact Bn.o.drew.alloc _ |exact Bn.o.alloc _ |exact Bn.o);(case Ft=>simp);intro gA cA wA JR kf JS XP)
    refine hK.out _ _ (.inr ?_) (fun fU=> ?_)
    ·first |exact aH.aj kf |exact aH.alloc _ |exact aH
    clear hK K
    try simp only [Act.put,q5,q6,q7]
    refine TB 1 [(21,[])] fU ?_;intro fU
    refine R2 22 fU fun K hK aH=> ?_
    (have sb:=aH.bD jN.o sO.o;have fb:World.frozen? _ _=_:=(World.frozen?_of_block (aH.block gw (bE sO.o) jN.o)).trans Xp.o;go_simp)
    refine hK.out _ _ (.inl rfl) (fun CX=> ?_)
    clear hK K
    try simp only [Act.put,q5,q6,q7]
    refine fo ?_
    have nq:W.heap.size≤wA.heap.size:=aH.size
    have NV:Ints wA (some ⟨gA,0,none⟩) cA (bR (l9++[n])):=by rw [←kr];exact JR
    obtain ⟨FM,eY,_,_,L2,h2,jp,bZ,_⟩:=H1.o.cd Xz.o NV aH (fun j hj _=>Yi.o j hj) (fun j hj=>by
     simp [ap] at hj
     subst hj
     rcases JS with h5 |h5
     ·exact .inl ⟨(Bn.o.lt _ h5),Yi.o _ h5⟩
     ·right
      rw [h5]
      first |exact au _ | (simp))
    obtain rfl :gw=FM:=by rw [Xo.o] at eY;simpa using eY
    simp only [ai,bF] at h2 bZ
    have Gn:al ((S.ep n (dg l 1 k)).cd qz (l9++[n])=(S.ep n (dg l 1 k)).gP (aW l[k]!) n):=by
     rw [HY.o,Qi.o]
     unfold Sv.gP Sv.fH al
     show _=Sv.cd _ _ (S.watch[qz]! ++[n])
     rw [HW9.o]
    rw [Gn.o] at h2
    have Cq:w.heap.size≤W.heap.size:=dy.o.size
    have mF:=ae (pP.o k HKK.o _ L2 h2 (aQ.aX eG.o jp Cq) (aQ.aR eG.o dy.o bZ))
    go_wp2
    go_ret
    exact mF.o
   ·have hd:decide (0≤v)=false:=decide_eq_false LB
    have D9:al (S.fV l f (k+1)=fk):=by
     have :=cH.o
     rw [cU,OC bM (by unfold Sv.val;rw [HY.o,HVY.o];exact LB)] at this
     exact this
    go_wp2
    refine ax ?_
    repeat (go_big_quiet_step (exact bk (KV.o _)))
    refine gO ?_
    intro w2 bl
    clear e0 ey c0 cy
    go_wp2
    go_roundg f
    case measure=>omega
    case rel=>exact ⟨k+1,by have :=HK.o;omega,by omega,by go_num,D9.o,HF.o.aj bl.o⟩
  ·have D9:al (fk=none):=by
    have :=cH.o
    rw [FP (by omega)] at this
    exact this.symm
   go_wp2
   go_ret
   exact NO.o D9.o _ HF.o
theorem fv (l:List Int) (i j:Nat):(dg l i j).length=l.length:=by simp [dg]
theorem get_mem {l:List Int} {i:Nat} (h:i<l.length):l[i]! ∈l:=by
 simp only [aa,af h,ay];exact List.getElem_mem h
theorem qK {l:List Int} {i j:Nat} (hi:i<l.length) (hj:j<l.length) {x:Int} (h:x∈dg l i j):x∈l:=by
 unfold dg at h
 rcases List.mem_or_eq_of_mem_set h with h |rfl
 ·rcases List.mem_or_eq_of_mem_set h with h |rfl
  ·exact h
  ·exact get_mem hj
 ·exact get_mem hi
theorem lV {l:List Int} {i j k:Nat} (hi:i<l.length) (hj:j<l.length) (hk:k<l.length):(dg l i j)[k]! =if k=j then l[i]! else if k=i then l[j]! else l[k]! :=by
 unfold dg
 rw [dT,dT]
 by_cases h1:k=j
 ·subst h1
  simp [hk]
 ·rw [if_neg (by omega),if_neg h1]
  by_cases h2:k=i
  ·subst h2
   simp [hk]
  ·rw [if_neg (by omega),if_neg h2]
namespace Sv
theorem lj (S:Sv) (n j:Nat) (l:List Int):(S.ep n l).rc j=if n=j∧n<S.list.length then { S.rc n with lits:=l } else S.rc j:=by
 unfold rc ep
 exact dT _ _ _ _
theorem mL {S:Sv} {n:Nat} (h:S.list.length≤n):S.rc n=⟨[],false,0⟩:=by
 unfold rc
 simp only [aa,kt h]
 rfl
theorem Ok.ep {S:Sv} {m:Nat} (ok:S.Ok m) {n:Nat} {l:List Int} (hl:l.length=(S.rc n).lits.length) (hm:∀x∈l,x∈(S.rc n).lits):(S.ep n l).Ok m:=by
 refine ⟨ok.vl,ok.tr,ok.hi,ok.hl,ok.ph,ok.wl,by simpa [Sv.ep] using ok.ll,fun c k h=>by simpa [Sv.ep] using ok.wb c k h,by simpa [Sv.ep] using ok.wt,fun k x hx=> ?_,fun k=> ?_,fun k=> ?_,ok.hd,fun v=>by simpa [Sv.ep] using ok.rs v⟩
 ·rw [lj] at hx
  split at hx
  ·exact ok.lr n x (hm x hx)
  ·exact ok.lr k x hx
 ·rw [lj]
  split
  ·simp only [hl];exact ok.ln n
  ·exact ok.ln k
 ·rw [lj]
  split
  ·simp only [hl];exact ok.lb n
  ·exact ok.lb k
theorem GO:∀(l:List Nat) (c x:Nat),c<l.length→(l.set c x).sum+l[c]! =l.sum+x
 |[],c,x,h=>by simp at h
 |y::r,0,x,h=>by simp;omega
 |y::r,c+1,x,h=>by
  have :=GO r c x (by simpa using h)
  simp only [List.set_cons_succ,List.sum_cons]
  have e:(y::r)[c+1]! =r[c]! :=by simp
  rw [e]
  omega
theorem Yt (S:Sv) (c:Nat) (l:List Nat) (hc:c<S.watch.length):((S.cd c l).watch.map List.length).sum+(S.fH c).length=(S.watch.map List.length).sum+l.length:=by
 have h:=GO (S.watch.map List.length) c l.length (by simpa using hc)
 have e:(S.watch.map List.length)[c]! =(S.fH c).length:=by
  unfold fH
  simp only [aa,aO,af hc,cu,ay]
 rw [e] at h
 simpa [cd,List.map_set] using h
theorem Ok.cd {S:Sv} {m m':Nat} (ok:S.Ok m) {c:Nat} {l:List Nat} (hc:c<S.watch.length) (hl:∀n∈l,n<S.list.length) (hm:l.length+m'≤(S.fH c).length+m):(S.cd c l).Ok m':=by
 have hw:=Yt S c l hc
 have ht:=ok.wt
 refine ⟨ok.vl,ok.tr,ok.hi,ok.hl,ok.ph,by simpa [Sv.cd] using ok.wl,ok.ll,fun k n h=> ?_,?_,ok.lr,ok.ln,ok.lb,ok.hd,ok.rs⟩
 ·unfold Sv.cd at h
  simp only at h
  rw [dT] at h
  split at h
  ·exact hl n h
  ·exact ok.wb k n h
 ·have :(S.cd c l).list=S.list:=rfl
  rw [this]
  omega
theorem Ok.gP {S:Sv} {m:Nat} (ok:S.Ok (m+1)) {c n:Nat} (hc:c<S.watch.length) (hn:n<S.list.length):(S.gP c n).Ok m:=by
 refine ok.cd hc (fun j hj=> ?_) (by simp;omega)
 rcases ag.1 hj with h |h
 ·exact ok.wb c j h
 ·simp at h;omega
theorem Ok.less {S:Sv} {m m':Nat} (ok:S.Ok m) (h:m'≤m):S.Ok m':=⟨ok.vl,ok.tr,ok.hi,ok.hl,ok.ph,ok.wl,ok.ll,ok.wb,by have :=ok.wt;omega,ok.lr,ok.ln,ok.lb,ok.hd,ok.rs⟩
theorem Ok.cG {S:Sv} {m:Nat} (ok:S.Ok m) (n:Nat) (off:Int):(S.cG n off).Ok m:=by
 unfold Sv.cG
 split
 ·by_cases h:(S.rc n).lits.length=0
  ·refine ok.ep (fv _ _ _) (fun x hx=> ?_)
   have :(dg (S.rc n).lits 0 1)=[]:=aJ (by rw [fv];exact h)
   rw [this] at hx
   cases hx
  ·have :=ok.ln n
   exact ok.ep (fv _ _ _) (fun x hx=>qK (by omega) (by omega) hx)
 ·exact ok
theorem rq {S:Sv} {l:List Int}:∀(f k j:Nat),S.fV l f k=some j→k≤j∧j<l.length∧0≤S.val l[j]!
 |0,k,j,h=>by simp [fV] at h
 |f+1,k,j,h=>by
  simp only [fV] at h
  split at h
  ·split at h
   ·rename_i h1 h2
    simp only [Option.some.injEq] at h
    subst h
    exact ⟨au _,h1,h2⟩
   ·have :=rq f (k+1) j h
    exact ⟨by omega,this.2⟩
  ·cases h
theorem Ok.yR {S:Sv} {m:Nat} (ok:S.Ok (m+1)) {n:Nat} (hn:n<S.list.length) (h:(S.di n).2=true):(S.di n).1.Ok m:=by
 unfold Sv.di at h⊢
 cases hk:S.fV (S.rc n).lits (S.rc n).lits.length 2 with
 |none=>rw [hk] at h;cases h
 |some k=>
  obtain ⟨h1,h2,_⟩:=rq _ _ _ hk
  simp only [Sv.oW]
  have o1:=ok.ep (n:=n) (l:=dg (S.rc n).lits 1 k) (fv _ _ _) (fun x hx=>qK (by omega) h2 hx)
  have hl:=ok.lit h2
  have :=gH hl.2.1 hl.2.2
  refine o1.gP (by simp only [Sv.ep];rw [ok.wl];exact this) (by simpa [Sv.ep] using hn)
theorem p8 (S:Sv) (n:Nat):(S.di n).1.T=S.T∧(S.di n).1.vars=S.vars∧(S.di n).1.list.length=S.list.length∧(S.di n).1.head=S.head∧(S.di n).1.H=S.H∧(S.di n).1.watch.length=S.watch.length:=by
 unfold di
 cases S.fV (S.rc n).lits (S.rc n).lits.length 2<;>simp [oW,gP,cd,ep]
theorem nR (S:Sv) (n:Nat) (off:Int):(S.cG n off).T=S.T∧(S.cG n off).vars=S.vars∧(S.cG n off).list.length=S.list.length∧(S.cG n off).head=S.head∧(S.cG n off).H=S.H∧(S.cG n off).watch=S.watch:=by
 unfold cG
 split<;>simp [ep]
theorem Ok.put {S:Sv} {m:Nat} (ok:S.Ok m) {x r:Int} (hr:0≤r∧r≤S.list.length):(S.put x r).Ok m:=by
 by_cases hb:S.T.iI x=true
 ·have e:S.put x r={ S with T:=S.T.n8 x r }:=by unfold Sv.put;rw [if_pos hb]
  rw [e]
  obtain ⟨R,hR⟩:=ok.tr
  have h2:=hR.put x r hb
  refine ⟨ok.vl,⟨_,h2⟩,ok.hi,ok.hl,ok.ph,ok.wl,ok.ll,ok.wb,ok.wt,ok.lr,ok.ln,ok.lb,?_,fun v=> ?_⟩
  ·have :=ok.hd
   simp only [Tr.n8,ai,bF]
   omega
  ·have h3:=h2.fe v
   have h4:=hR.fe v
   have h5:=ok.rs v
   simp only
   rw [h3,Cb]
   cases jL:look R v with
   |none=>
    split
    ·rename_i e
     split at e
     ·simp at e
     ·omega
    ·rename_i e2 e
     split at e
     ·simp only [Option.none_or,Option.some.injEq] at e
      rw [←e]
      exact hr
     ·cases e
   |some e0=>
    rw [jL] at h4
    simp only at h4
    split
    ·omega
    ·rename_i e2 e
     have :e2=e0:=by
      split at e
      ·simpa using e.symm
      ·simpa using e.symm
     rw [this,←h4]
     exact h5
 ·have e:S.put x r=S:=by unfold Sv.put;rw [if_neg hb]
  rw [e]
  exact ok
theorem Ok.visit {S:Sv} {m:Nat} (ok:S.Ok (m+1)) {n:Nat} (hn:n<S.list.length) (off:Int):
  (S.cY n off).1.Ok (if (S.cY n off).2.1=true then m+1 else m)∧(S.cY n off).1.vars=S.vars∧(S.cY n off).1.list.length=S.list.length∧(S.cY n off).1.head=S.head∧(S.cY n off).1.watch.length=S.watch.length:=by
 unfold Sv.cY
 split
 ·exact ⟨ok.less (by simp),rfl,rfl,rfl,rfl⟩
 ·have o1:=ok.cG n off
  obtain ⟨q1,q2,q3,q4,q5,q6⟩:=nR S n off
  generalize S.cG n off=S1 at *
  unfold Sv.fI
  simp only
  split
  ·exact ⟨o1,q2,q3,q4,by rw [q6]⟩
  ·split
   ·rename_i h
    obtain ⟨p1,p2,p3,p4,p5,p6⟩:=p8 S1 n
    exact ⟨o1.yR (by omega) h,by rw [p2,q2],by rw [p3,q3],by rw [p4,q4],by rw [p6,q6]⟩
   ·split
    ·exact ⟨o1,q2,q3,q4,by rw [q6]⟩
    ·exact ⟨o1.put ⟨by omega,by omega⟩,q2,q3,q4,by show S1.watch.length=_;rw [q6]⟩
end Sv
end Go.Proofs.YtdgplmgfkliijaaGreat
