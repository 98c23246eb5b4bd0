/- Parts of a proof. -/
import Derived.Test.YtdgplmgfkliijaaGreatGAN
import Derived.Lib.Hide
set_option linter.unusedVariables false
set_option linter.unusedSimpArgs false
set_option maxHeartbeats 4000000
set_option maxRecDepth 100000
namespace Go.Proofs.YtdgplmgfkliijaaGreat
inductive yt (C:List (List Int)):(Int→Prop)→Prop
 |leaf {l:List Int}:l∈C→yt C (fun x=>x∈l)
 |join {A B:Int→Prop}:yt C A→yt C B→yt C (fun x=>A x∨B x)
 |res {A B:Int→Prop} (v:Int):v≠0→A v→B (-v)→yt C A→yt C B→yt C (fun x=>(A x∧x≠v)∨(B x∧x≠ -v))
structure Wtn (a:Int→Prop):Prop where
 zero:¬a 0
 neg:∀x,x≠0→(a (-x)↔¬a x)
theorem yt.sound {C:List (List Int)} {D:Int→Prop} (h:yt C D) {a:Int→Prop} (ha:Wtn a) (hc:∀c∈C,∃x∈c,a x):∃x,D x∧a x:=by
 induction h with
 |leaf hl=>exact hc _ hl
 |join _ _ i1 i2=>obtain ⟨x,h1,h2⟩:=i1;exact ⟨x, .inl h1,h2⟩
 |res v v0 _ _ _ _ i1 i2=>
  obtain ⟨x,h1,h2⟩:=i1
  obtain ⟨y,h3,h4⟩:=i2
  by_cases e:x=v
  ·by_cases e2:y= -v
   ·rw [e2,ha.neg v v0] at h4
    rw [e] at h2
    exact absurd h2 h4
   ·exact ⟨y, .inr ⟨h3,e2⟩,h4⟩
  ·exact ⟨x, .inl ⟨h1,e⟩,h2⟩
theorem yt.UM {C R:List (List Int)} {D:Int→Prop} (h:yt C D) (b:Int→Bool) (hb:∀x,b (-x)=b x) (hC:∀c∈C,c∈R∨∀x∈c,b x=true):
  (∀x,D x→b x=true)∨yt (R.map fun c=>c.filter fun x=> !b x) (fun x=>D x∧b x=false):=by
 induction h with
 |@leaf l hl=>
  rcases hC l hl with h1 |h1
  ·right
   have :=yt.leaf (ia (f:=fun c:List Int=>c.filter fun x=> !b x) h1)
   have e:(fun x=>x∈l.filter fun x=> !b x)=fun x=>x∈l∧b x=false:=by
    funext x
    rw [cq]
    simp
   rw [e] at this
   exact this
  ·exact .inl h1
 |@join A B _ _ i1 i2=>
  rcases i1 with i1 |i1
  ·rcases i2 with i2 |i2
   ·left
    intro x hx
    rcases hx with hx |hx
    ·exact i1 x hx
    ·exact i2 x hx
   ·right
    have e:(fun x=>(A x∨B x)∧b x=false)=fun x=>B x∧b x=false:=by
     funext x
     refine propext ⟨fun ⟨h1,h2⟩=> ?_,fun ⟨h1,h2⟩=>⟨.inr h1,h2⟩⟩
     rcases h1 with h1 |h1
     ·rw [i1 x h1] at h2;cases h2
     ·exact ⟨h1,h2⟩
    rw [e]
    exact i2
  ·rcases i2 with i2 |i2
   ·right
    have e:(fun x=>(A x∨B x)∧b x=false)=fun x=>A x∧b x=false:=by
     funext x
     refine propext ⟨fun ⟨h1,h2⟩=> ?_,fun ⟨h1,h2⟩=>⟨.inl h1,h2⟩⟩
     rcases h1 with h1 |h1
     ·exact ⟨h1,h2⟩
     ·rw [i2 x h1] at h2;cases h2
    rw [e]
    exact i1
   ·right
    have e:(fun x=>(A x∨B x)∧b x=false)=fun x=>(A x∧b x=false)∨(B x∧b x=false):=by
     funext x
     refine propext ⟨fun ⟨h1,h2⟩=>h1.imp (fun h=>⟨h,h2⟩) (fun h=>⟨h,h2⟩),fun h=> ?_⟩
     rcases h with ⟨h1,h2⟩ |⟨h1,h2⟩
     ·exact ⟨.inl h1,h2⟩
     ·exact ⟨.inr h1,h2⟩
    rw [e]
    exact .join i1 i2
 |@res A B v v0 hA hB _ _ i1 i2=>
  by_cases hv:b v=true
  ·have lK:b (-v)=true:=by rw [hb];exact hv
   have e:(fun x=>((A x∧x≠v)∨(B x∧x≠ -v))∧b x=false)=fun x=>(A x∧b x=false)∨(B x∧b x=false):=by
    funext x
    refine propext ⟨fun ⟨h1,h2⟩=>h1.imp (fun h=>⟨h.1,h2⟩) (fun h=>⟨h.1,h2⟩),fun h=> ?_⟩
    rcases h with ⟨h1,h2⟩ |⟨h1,h2⟩
    ·exact ⟨.inl ⟨h1,fun e=>by rw [e,hv] at h2;cases h2⟩,h2⟩
    ·exact ⟨.inr ⟨h1,fun e=>by rw [e,lK] at h2;cases h2⟩,h2⟩
   rw [e]
   rcases i1 with i1 |i1
   ·rcases i2 with i2 |i2
    ·left
     intro x hx
     rcases hx with hx |hx
     ·exact i1 x hx.1
     ·exact i2 x hx.1
    ·right
     have e:(fun x=>(A x∧b x=false)∨(B x∧b x=false))=fun x=>B x∧b x=false:=by
      funext x
      refine propext ⟨fun h=> ?_, .inr⟩
      rcases h with ⟨h1,h2⟩ |h1
      ·rw [i1 x h1] at h2;cases h2
      ·exact h1
     rw [e]
     exact i2
   ·rcases i2 with i2 |i2
    ·right
     have e:(fun x=>(A x∧b x=false)∨(B x∧b x=false))=fun x=>A x∧b x=false:=by
      funext x
      refine propext ⟨fun h=> ?_, .inl⟩
      rcases h with h1 |⟨h1,h2⟩
      ·exact h1
      ·rw [i2 x h1] at h2;cases h2
     rw [e]
     exact i1
    ·exact .inr (.join i1 i2)
  ·have hv:b v=false:=by simpa using hv
   have lK:b (-v)=false:=by rw [hb];exact hv
   right
   have i1:=i1.resolve_left fun h=>by rw [h v hA] at hv;cases hv
   have i2:=i2.resolve_left fun h=>by rw [h _ hB] at lK;cases lK
   have e:(fun x=>((A x∧x≠v)∨(B x∧x≠ -v))∧b x=false)=fun x=>((A x∧b x=false)∧x≠v)∨((B x∧b x=false)∧x≠ -v):=by
    funext x
    refine propext ⟨fun ⟨h1,h2⟩=>h1.imp (fun h=>⟨⟨h.1,h2⟩,h.2⟩) (fun h=>⟨⟨h.1,h2⟩,h.2⟩),fun h=> ?_⟩
    rcases h with ⟨⟨h1,h2⟩,h3⟩ |⟨⟨h1,h2⟩,h3⟩
    ·exact ⟨.inl ⟨h1,h3⟩,h2⟩
    ·exact ⟨.inr ⟨h1,h3⟩,h2⟩
   rw [e]
   exact .res v v0 ⟨hA,hv⟩ ⟨hB,lK⟩ i1 i2
def parts:List (List Int)→List (List (List Int)×List (List Int))
 |[]=>[([],[])]
 |a::r=>(parts r).map (fun p=>(a::p.1,p.2))++(parts r).map (fun p=>(p.1,a::p.2))
def mM:List (List Int)→List (List (List Int)×List (List Int))
 |[]=>[]
 |a::r=>(parts r).map (fun p=>(a::p.1,p.2))++(mM r).map (fun p=>(p.1,a::p.2))
theorem B0:∀{C:List (List Int)} {p:List (List Int)×List (List Int)},p∈parts C→p.1≠[]→p∈mM C
 |[],p,h,hn=>by
  rw [parts,ah] at h
  rw [h] at hn
  exact absurd rfl hn
 |a::r,p,h,hn=>by
  rw [parts,ag,az,az] at h
  rw [mM,ag,az,az]
  rcases h with h |⟨q,h1,h2⟩
  ·exact .inl h
  ·refine .inr ⟨q,B0 h1 fun e=>hn ?_,h2⟩
   rw [←h2]
   exact e
theorem oV:∀{C:List (List Int)} {p:List (List Int)×List (List Int)},p∈parts C→(∀c,c∈C↔c∈p.1∨c∈p.2)∧p.1.length+p.2.length=C.length
 |[],p,h=>by
  rw [parts,ah] at h
  rw [h]
  simp
 |a::r,p,h=>by
  rw [parts,ag,az,az] at h
  rcases h with ⟨q,h1,h2⟩ |⟨q,h1,h2⟩
  ·obtain ⟨k1,k2⟩:=oV h1
   rw [←h2]
   refine ⟨fun c=> ?_,by simp only [bO];omega⟩
   rw [av,k1 c]
   simp only [av]
   exact or_assoc.symm
  ·obtain ⟨k1,k2⟩:=oV h1
   rw [←h2]
   refine ⟨fun c=> ?_,by simp only [bO];omega⟩
   rw [av,k1 c]
   simp only [av]
   exact or_left_comm
theorem yL:∀C:List (List Int),(C,[])∈parts C
 |[]=>ah.2 rfl
 |a::r=>by
  rw [parts,ag,az]
  exact .inl ⟨_,yL r,rfl⟩
theorem pZ:∀{C:List (List Int)} {p:List (List Int)×List (List Int)} {A B:List (List Int)} {c:List Int},p∈parts C→p.1=A++c::B→∃q∈parts C,q.1=A++B
 |[],p,A,B,c,h,e=>by
  rw [parts,ah] at h
  rw [h] at e
  simp at e
 |a::r,p,A,B,c,h,e=>by
  rw [parts,ag,az,az] at h
  rcases h with ⟨q,h1,h2⟩ |⟨q,h1,h2⟩
  ·rw [←h2] at e
   have e:a::q.1=A++c::B:=e
   cases A with
   |nil=>
    rw [List.nil_append,List.cons.injEq] at e
    refine ⟨(q.1,a::q.2),?_,e.2⟩
    rw [parts,ag]
    exact .inr (ia (f:=fun p:List (List Int)×List (List Int)=>(p.1,a::p.2)) h1)
   |cons x A=>
    rw [List.cons_append,List.cons.injEq] at e
    obtain ⟨t,t1,t2⟩:=pZ h1 e.2
    refine ⟨(a::t.1,t.2),?_,by rw [e.1,t2];rfl⟩
    rw [parts,ag]
    exact .inl (ia (f:=fun p:List (List Int)×List (List Int)=>(a::p.1,p.2)) t1)
  ·rw [←h2] at e
   obtain ⟨t,t1,t2⟩:=pZ h1 (show q.1=A++c::B from e)
   refine ⟨(t.1,a::t.2),?_,t2⟩
   rw [parts,ag]
   exact .inr (ia (f:=fun p:List (List Int)×List (List Int)=>(p.1,a::p.2)) t1)
def G6 (M:List (List Int)) (x:Int):Prop:=(∃c∈M,x∈c)∧∀c∈M,-x∉c
def qG (M:List (List Int)) (x:Int):Bool:=M.any fun c=>c.contains x ||c.contains (-x)
theorem Ml (M:List (List Int)) (x:Int):qG M (-x)=qG M x:=by
 unfold qG
 congr 1
 funext c
 rw [Int.neg_neg,Bool.or_comm]
theorem Bw {M:List (List Int)} {x:Int}:qG M x=true↔∃c∈M,x∈c∨ -x∈c:=by
 unfold qG
 simp
def zO:Nat→List (List Int)→List (Int→Prop)
 |0,_=>[fun _=>False]
 |n+1,C=>(fun _=>False)::(mM C).flatMap fun p=>(zO n (p.2.map fun c=>c.filter fun x=> !qG p.1 x)).map fun E=>fun x=>G6 p.1 x∨E x
def Uns (D:Int→Prop) (M:List (List Int)):Prop:=∀a,Wtn a→(∀x,D x→¬a x)→¬∀c∈M,∃x∈c,a x
theorem least {C:List (List Int)} {P:List (List Int)→Prop} (h:P C):∃p∈parts C,P p.1∧∀q∈parts C,P q.1→p.1.length≤q.1.length:=by
 have key:∀n:Nat,(∃p∈parts C,P p.1∧p.1.length≤n)→∃p∈parts C,P p.1∧∀q∈parts C,P q.1→p.1.length≤q.1.length:=by
  intro n
  induction n with
  |zero=>exact fun ⟨p,h1,h2,h3⟩=>⟨p,h1,h2,fun q _ _=>by omega⟩
  |succ n ih=>
   rintro ⟨p,h1,h2,h3⟩
   by_cases hq:∃q∈parts C,P q.1∧q.1.length≤n
   ·exact ih hq
   ·exact ⟨p,h1,h2,fun q q1 q2=>by
     have :¬q.1.length≤n:=fun h4=>hq ⟨q,q1,q2,h4⟩
     omega⟩
 exact key C.length ⟨_,yL C,h,au _⟩
theorem My:∀(n:Nat) (C:List (List Int)) (D:Int→Prop),C.length≤n→(∀x,D x→¬D (-x))→((∀x,¬D x)∨yt C D)→D∈zO n C:=by
 intro n
 induction n with
 |zero=>
  intro C D hl ht h
  have e:D=fun _=>False:=by
   have hC:C=[]:=aJ (by omega)
   rcases h with h |h
   ·funext x
    exact propext ⟨h x,False.elim⟩
   ·exfalso
    rw [hC] at h
    induction h with
    |leaf hl=>cases hl
    |join _ _ i1 _=>exact i1 (fun x h1 h2=>ht x (.inl h1) (.inl h2))
    |res v v0 hA hB h1 h2 i1 i2=>
     clear ht hl i1 i2 hA hB
     have no:∀{A:Int→Prop},yt [] A→False:=fun h=>by
      induction h with
      |leaf hl=>cases hl
      |join _ _ i1 _=>exact i1
      |res _ _ _ _ _ _ i1 _=>exact i1
     exact no h1
  rw [zO,e]
  exact ah.2 rfl
 |succ n ih=>
  intro C D hl ht h
  rcases h with h |h
  ·rw [zO]
   have e:D=fun _=>False:=by
    funext x
    exact propext ⟨h x,False.elim⟩
   rw [e]
   exact aY
  have d0:¬D 0:=fun h0=>ht 0 h0 (by simpa using h0)
  have hU:Uns D C:=fun a ha hd hc=>by
   obtain ⟨x,h1,h2⟩:=h.sound ha hc
   exact hd x h1 h2
  obtain ⟨p,hp,Z0,xy⟩:=least hU
  obtain ⟨pm,pl⟩:=oV hp
  have dI:p.1≠[]:=fun e=>by
   refine Z0 (fun x=>x≠0∧¬D x∧(D (-x)∨0<x)) ⟨fun h=>h.1 rfl,fun x hx=> ?_⟩ (fun x h1 h2=>h2.2.1 h1) (by rw [e];intro c hc;cases hc)
   constructor
   ·rintro ⟨_,h2,h3⟩ ⟨_,h4,h5⟩
    rw [Int.neg_neg] at h3
    rcases h5 with h5 |h5
    ·exact h2 h5
    ·rcases h3 with h3 |h3
     ·exact h4 h3
     ·omega
   ·intro h1
    rw [Int.neg_neg]
    by_cases h2:D x
    ·exact ⟨by omega,ht x h2, .inl h2⟩
    ·by_cases h3:D (-x)
     ·exact absurd ⟨hx,h2, .inl h3⟩ h1
     ·refine ⟨by omega,h3, .inr ?_⟩
      have :¬0<x:=fun h4=>h1 ⟨hx,h2, .inr h4⟩
      omega
  --an assignment for all of al0 but one
  have but:∀c∈p.1,∃a,Wtn a∧(∀x,D x→¬a x)∧(∃A B,p.1=A++c::B∧∀d∈A++B,∃x∈d,a x)∧∀x∈c,¬a x:=by
   intro c hc
   obtain ⟨A,B,P4⟩:=List.append_of_mem hc
   obtain ⟨q,q1,q2⟩:=pZ hp P4
   have Hq:¬Uns D q.1:=fun hu=>by
    have :=xy q q1 hu
    rw [q2,P4] at this
    simp only [ai,bO] at this
    omega
   unfold Uns at Hq
   have ⟨a,ha⟩:=Classical.not_forall.1 Hq
   have ⟨a1,ha⟩:=Classical.not_imp.1 ha
   have ⟨a2,ha⟩:=Classical.not_imp.1 ha
   have a3:=Classical.not_not.1 ha
   rw [q2] at a3
   refine ⟨a,a1,a2,⟨A,B,P4,a3⟩,fun x hx X2=>Z0 a a1 a2 fun d hd=> ?_⟩
   rw [P4] at hd
   rcases ag.1 hd with h1 |h1
   ·exact a3 d (ak _ h1)
   ·rcases av.1 h1 with h1 |h1
    ·rw [h1]
     exact ⟨x,hx,X2⟩
    ·exact a3 d (aM _ h1)
  have fa:∀c∈p.1,∀x∈c,¬D (-x):=by
   intro c hc x hx hd
   obtain ⟨a,a1,a2,_,a4⟩:=but c hc
   have uE:x≠0:=fun e=>d0 (by rw [e] at hd;simpa using hd)
   have :=a2 _ hd
   rw [a1.neg x uE] at this
   exact this (a4 x hx)
  have fb:∀c∈p.1,∀x∈c,¬D x→∃d∈p.1,-x∈d:=by
   intro c hc x hx hd
   by_cases uE:x=0
   ·exact ⟨c,hc,by rw [uE] at hx⊢;simpa using hx⟩
   apply jF
   intro oq
   obtain ⟨a,a1,a2,⟨A,B,P4,a3⟩,a4⟩:=but c hc
   refine Z0 (fun y=>y=x∨(y≠ -x∧a y)) ⟨?_,fun y hy=> ?_⟩ (fun y h1 h2=> ?_) (fun d hdm=> ?_)
   ·rintro (h1 |h1)
    ·exact uE h1.symm
    ·exact a1.zero h1.2
   ·have :=a1.neg y hy
    constructor
    ·rintro (h1 |⟨h1,h2⟩) (h3 |⟨h3,h4⟩)
     ·omega
     ·exact h3 (by omega)
     ·exact h1 (by omega)
     ·exact this.1 h2 h4
    ·intro h1
     by_cases h2: -y=x
     ·exact .inl h2
     ·refine .inr ⟨fun e=>h1 (.inl (by omega)),this.2 fun h3=>h1 (.inr ⟨fun e=>h2 (by omega),h3⟩)⟩
   ·rcases h2 with h2 |h2
    ·exact hd (h2▸h1)
    ·exact a2 y h1 h2.2
   ·rw [P4] at hdm
    have ke:d∈A++B∨d=c:=by
     rcases ag.1 hdm with h1 |h1
     ·exact .inl (ak _ h1)
     ·rcases av.1 h1 with h1 |h1
      ·exact .inr h1
      ·exact .inl (aM _ h1)
    rcases ke with h1 |h1
    ·obtain ⟨y,y1,y2⟩:=a3 d h1
     refine ⟨y,y1, .inr ⟨fun e=>oq ⟨d,?_,e▸y1⟩,y2⟩⟩
     rw [P4]
     exact hdm
    ·rw [h1]
     exact ⟨x,hx, .inl rfl⟩
  have ZZ:∀x,G6 p.1 x↔D x∧qG p.1 x=true:=by
   intro x
   rw [Bw]
   constructor
   ·rintro ⟨⟨c,hc,hx⟩,h2⟩
    refine ⟨jF fun hn=> ?_,c,hc, .inl hx⟩
    obtain ⟨d,d1,d2⟩:=fb c hc x hx hn
    exact h2 d d1 d2
   ·rintro ⟨hd,c,hc,hx⟩
    have ke:x∈c:=by
     rcases hx with hx |hx
     ·exact hx
     ·exact absurd (by rw [Int.neg_neg];exact hd) (fa c hc _ hx)
    exact ⟨⟨c,hc,ke⟩,fun d hdm hxd=>fa d hdm _ hxd (by rw [Int.neg_neg];exact hd)⟩
  have hE:((fun x=>D x∧qG p.1 x=false)∈zO n (p.2.map fun c=>c.filter fun x=> !qG p.1 x)):=by
   refine ih _ _ ?_ (fun x h1 h2=>ht x h1.1 h2.1) ?_
   ·rw [aq]
    have :0<p.1.length:=List.length_pos_iff.2 dI
    omega
   ·rcases h.UM (R:=p.2) (qG p.1) (Ml p.1) (fun c hc=>((pm c).1 hc).symm.imp id fun h1 x hx=>Bw.2 ⟨c,h1, .inl hx⟩) with h1 |h1
    ·exact .inl fun x h2=>by rw [h1 x h2.1] at h2;cases h2.2
    ·exact .inr h1
  have e:D=fun x=>G6 p.1 x∨(D x∧qG p.1 x=false):=by
   funext x
   rw [ZZ x]
   refine propext ⟨fun h1=> ?_,fun h1=>h1.elim (·.1) (·.1)⟩
   cases h2:qG p.1 x with
   |true=>exact .inl ⟨h1,rfl⟩
   |false=>exact .inr ⟨h1,rfl⟩
  rw [zO]
  refine aP _ (lS.2 ⟨p,B0 hp dI,az.2 ⟨_,hE,e.symm⟩⟩)
def IJ:Nat→(Nat→Nat)→Nat
 |0,g=>g 0
 |r+1,g=>IJ r g+IJ r fun k=>g (k+1)
def GQ:Nat→(Nat→Nat)→Nat
 |0,_=>0
 |r+1,g=>IJ r g+GQ r fun k=>g (k+1)
theorem II {β:Type} (f:List (List Int)×List (List Int)→List β):∀(C:List (List Int)) (g:Nat→Nat),(∀p∈parts C,(f p).length≤g p.2.length)→((parts C).flatMap f).length≤IJ C.length g:=by
 intro C
 induction C generalizing f with
 |nil=>
  intro g h
  have :=h _ (ah.2 rfl)
  simpa [parts,IJ] using this
 |cons a r ih=>
  intro g h
  rw [parts,List.flatMap_append,List.flatMap_map,List.flatMap_map,ai,bO,IJ]
  have h1:=ih (fun p=>f (a::p.1,p.2)) g fun p hp=>h (a::p.1,p.2) (ak _ (ia (f:=fun p:List (List Int)×List (List Int)=>(a::p.1,p.2)) hp))
  have h2:=ih (fun p=>f (p.1,a::p.2)) (fun k=>g (k+1)) fun p hp=>h (p.1,a::p.2) (aM _ (ia (f:=fun p:List (List Int)×List (List Int)=>(p.1,a::p.2)) hp))
  omega
theorem Ej {β:Type} (f:List (List Int)×List (List Int)→List β):∀(C:List (List Int)) (g:Nat→Nat),(∀p∈mM C,(f p).length≤g p.2.length)→((mM C).flatMap f).length≤GQ C.length g:=by
 intro C
 induction C generalizing f with
 |nil=>
  intro g h
  exact bH _
 |cons a r ih=>
  intro g h
  rw [mM,List.flatMap_append,List.flatMap_map,List.flatMap_map,ai,bO,GQ]
  have h1:=II (fun p=>f (a::p.1,p.2)) r g fun p hp=>h (a::p.1,p.2) (ak _ (ia (f:=fun p:List (List Int)×List (List Int)=>(a::p.1,p.2)) hp))
  have h2:=ih (fun p=>f (p.1,a::p.2)) (fun k=>g (k+1)) fun p hp=>h (p.1,a::p.2) (aM _ (ia (f:=fun p:List (List Int)×List (List Int)=>(p.1,a::p.2)) hp))
  omega
theorem vk:∀{C:List (List Int)} {p:List (List Int)×List (List Int)},p∈mM C→p.2.length<C.length
 |[],p,h=>by cases h
 |a::r,p,h=>by
  rw [mM,ag,az,az] at h
  rcases h with ⟨q,h1,h2⟩ |⟨q,h1,h2⟩
  ·have :=(oV h1).2
   rw [←h2]
   simp only [bO]
   omega
  ·have :=vk h1
   rw [←h2]
   simp only [bO]
   omega
def Kk:List Nat:=[1,2,6,26,150,1082,9366,94586,1091670,14174522,204495126]
theorem Sf:∀r:Nat,r≤10→1+GQ r (fun k=>Kk[k]!)=Kk[r]! :=by decide+kernel
theorem Mz:∀(n:Nat) (C:List (List Int)),C.length≤10→(zO n C).length≤Kk[C.length]! :=by
 intro n
 induction n with
 |zero=>
  intro C h
  have :∀r:Nat,r≤10→1≤Kk[r]! :=by decide+kernel
  exact this _ h
 |succ n ih=>
  intro C h
  rw [zO,bO,←Sf _ h]
  have :=Ej (fun p=>(zO n (p.2.map fun c=>c.filter fun x=> !qG p.1 x)).map fun E=>fun x=>G6 p.1 x∨E x) C (fun k=>Kk[k]!) fun p hp=>by
   have hl:=vk hp
   have :=ih (p.2.map fun c=>c.filter fun x=> !qG p.1 x) (by rw [aq];omega)
   rw [aq] at this⊢
   exact this
  omega
theorem yQ {α:Type}:∀{l L:List α},l.Nodup→(∀x∈l,x∈L)→l.length≤L.length
 |[],_,_,_=>bH _
 |a::r,L,hn,h=>by
  rw [eB] at hn
  obtain ⟨A,B,e⟩:=List.append_of_mem (h a aY)
  have :=yQ (l:=r) (L:=A++B) hn.2 fun x hx=>by
   have h1:=h x (aP _ hx)
   rw [e] at h1
   rcases ag.1 h1 with h2 |h2
   ·exact ak _ h2
   ·rcases av.1 h2 with h2 |h2
    ·exact absurd (h2▸hx) hn.1
    ·exact aM _ h2
  rw [e]
  simp only [ai,bO] at this⊢
  omega
theorem Kd {C:List (List Int)} (hC:C.length≤10) {l:List (Int→Prop)} (hn:l.Nodup) (h:∀D∈l,yt C D∧∀x,D x→¬D (-x)):l.length≤204495126:=by
 have h1:=yQ hn fun D hD=>My 10 C D hC (h D hD).2 (.inr (h D hD).1)
 have h2:=Mz 10 C hC
 have h3:∀r:Nat,r≤10→Kk[r]! ≤204495126:=by decide+kernel
 have :=h3 _ hC
 omega
end Go.Proofs.YtdgplmgfkliijaaGreat
namespace Go.Proofs.YtdgplmgfkliijaaGreat
open Go.RowKit
structure UC (C:List (List Int)) (vars:Nat):Prop where
 len:C.length≤10
 vars:vars≤262143
namespace Sv
def eQ (S:Sv) (n:Nat):Bool:=(S.rc n).iY&& !(S.rc n).lits.isEmpty
def LL (S:Sv):List Nat:=(List.range S.list.length).filter S.eQ
theorem jw {S:Sv} {n:Nat}:S.eQ n=true↔(S.rc n).iY=true∧(S.rc n).lits≠[]:=by
 unfold eQ
 simp
structure Gs (C:List (List Int)) (S:Sv) (g:Nat→Int→Prop):Prop where
 ext:∀n,(S.rc n).lits≠[]→yt C (g n)
 sub:∀n,∀x∈(S.rc n).lits,g n x
 sup:∀n,(S.rc n).lits≠[]→∀x,g n x→x∈(S.rc n).lits∨S.F0 x
 nt:∀n,S.eQ n=true→∀x,g n x→¬g n (-x)
 inj:∀n m,S.eQ n=true→S.eQ m=true→g n=g m→n=m
theorem abz {C:List (List Int)} {S:Sv} {g:Nat→Int→Prop} (h:Gs C S g) (hC:C.length≤10):S.LL.length≤204495126:=by
 have hn:(S.LL.map g).Nodup:=by
  unfold List.Nodup
  rw [List.pairwise_map]
  have h0:S.LL.Nodup:=List.Nodup.sublist List.filter_sublist List.nodup_range
  refine List.Pairwise.imp_of_mem ?_ h0
  intro a b ha hb hab e
  exact hab (h.inj a b (cq.1 ha).2 (cq.1 hb).2 e)
 have :=Kd hC hn fun D hD=>by
  obtain ⟨n,hm,rfl⟩:=az.1 hD
  have hl:=(cq.1 hm).2
  exact ⟨h.ext n (jw.1 hl).2,h.nt n hl⟩
 rwa [aq] at this
theorem uB {S S':Sv} (hm:Mo S S') (n:Nat):S'.eQ n=S.eQ n:=by
 have h1:=hm.lits n
 have h2:=hm.iY n
 unfold eQ
 rw [h2]
 congr 1
 cases hq:(S.rc n).lits with
 |nil=>rw [hq] at h1;rw [List.perm_nil.1 h1]
 |cons x r=>
  rw [hq] at h1
  cases hq2:(S'.rc n).lits with
  |nil=>rw [hq2] at h1;exact absurd h1.symm (by simp)
  |cons y r2=>rfl
theorem Ue {S S':Sv} (hm:Mo S S') (hl:S'.list.length=S.list.length):S'.LL=S.LL:=by
 unfold LL
 rw [hl]
 congr 1
 funext n
 exact uB hm n
theorem F0.app {S S':Sv} {Z:List St} (h:S'.R=S.R++Z) {x:Int} (hx:S.F0 x):S'.F0 x:=by
 obtain ⟨e,he,h1,h2⟩:=hx
 exact ⟨e,by rw [h];exact ak _ he,h1,h2⟩
theorem F0.of_eq {S S':Sv} (h:S'.R=S.R) {x:Int} (hx:S.F0 x):S'.F0 x:=F0.app (Z:=[]) (by rw [h,bU]) hx
theorem MR {S:Sv} (h:S.Inv) {l:List Int} {cj:Int} (hl:S.Lrd l cj) {n:Nat} (hn:(S.rc n).lits≠[]):¬∀x∈(S.rc n).lits,x∈l∨S.F0 x:=fun he=>by
 have hlen:=pU h.ok hn
 have N3:∀y,(y∈l∨S.F0 y)→∃e∈S.R,e.x= -y:=fun y hy=>by
  rcases hy with hy |⟨e,he,_,hx⟩
  rotate_left
  ·exact ⟨e,he,hx⟩
  obtain ⟨k,hk,hg⟩:=List.getElem_of_mem hy
  by_cases h0:k=0
  ·obtain ⟨e,he,hx,_⟩:=hl.top
   refine ⟨e,he,?_⟩
   have :l[0]! =y:=by rw [kU (by omega)];simp only [←hg,h0]
   omega
  ·obtain ⟨e,he,hx,_⟩:=hl.tail k (by omega) hk
   refine ⟨e,he,?_⟩
   rw [hx,kU hk,hg]
 have aak:∀y,(y∈l∨S.F0 y)→y≠l[0]! →∃e∈S.R.take S.head,e.x= -y:=fun y hy dI=>by
  rcases hy with hy |⟨e,he,h0,hx⟩
  rotate_left
  ·refine ⟨e,?_,hx⟩
   rw [←List.take_append_drop S.head S.R] at he
   rcases ag.1 he with h3 |h3
   ·exact h3
   ·have :=h.hd e h3
    have :=hl.lt
    omega
  obtain ⟨k,hk,hg⟩:=List.getElem_of_mem hy
  have h0:k≠0:=fun h0=>dI (by rw [kU (by omega)];simp only [←hg,h0])
  obtain ⟨e,he,hx,vQ,jM⟩:=hl.tail k (by omega) hk
  refine ⟨e,?_,by rw [hx,kU hk,hg]⟩
  rw [←List.take_append_drop S.head S.R] at he
  rcases ag.1 he with h3 |h3
  ·exact h3
  ·have :=h.hd e h3
   have :=hl.lt.2
   omega
 have m0:=get_mem (l:=(S.rc n).lits) (i:=0) (by omega)
 have m1:=get_mem (l:=(S.rc n).lits) (i:=1) (by omega)
 have hd:=rm (h.kg n) (i:=0) (j:=1) (by omega) (by omega) (by omega)
 by_cases h0:(S.rc n).lits[0]! =l[0]!
 ·have h1:(S.rc n).lits[1]! ≠l[0]! :=fun e=>hd (by rw [h0,e])
  obtain ⟨e,rT,hx⟩:=aak _ (he _ m1) h1
  obtain ⟨e',dZ,PS,_⟩:=(h.wt n hn e rT).2 hx
  obtain ⟨e2,jp,ix⟩:=N3 _ (he _ m0)
  exact iJ h.ok jp dZ (by rw [ix,PS])
 ·obtain ⟨e,rT,hx⟩:=aak _ (he _ m0) h0
  obtain ⟨e',dZ,PS,_⟩:=(h.wt n hn e rT).1 hx
  obtain ⟨e2,jp,ix⟩:=N3 _ (he _ m1)
  exact iJ h.ok jp dZ (by rw [ix,PS])
def zero (S:Sv):Nat:=(S.R.filter fun e:St=>e.l==0).length
theorem zero_le {S:Sv} {m:Nat} (ok:S.Ok m):S.zero≤S.vars:=by
 have h1:=List.length_filter_le (fun e:St=>e.l==0) S.R
 have h2:=uC ok
 rw [←iT] at h2
 unfold zero
 omega
theorem nM {S S':Sv} {Z:List St} (h:S'.R=S.R++Z):S'.zero=S.zero+(Z.filter fun e:St=>e.l==0).length:=by
 unfold zero
 rw [h,List.filter_append,ai]
theorem rN {S S':Sv} (hl:∀n,(S'.rc n).lits=(S.rc n).lits∧(S'.rc n).iY=(S.rc n).iY) (hn:S'.list.length=S.list.length):S'.LL=S.LL:=by
 unfold LL
 rw [hn]
 congr 1
 funext n
 unfold eQ
 rw [(hl n).1,(hl n).2]
structure pT (few:Prop) (C:List (List Int)) (S:Sv):Prop where
 many:S.many=S.LL.length
 gs:few→∃g,S.Gs C g
variable {few:Prop} {U:List (List Int)}
theorem pT.mo {S S':Sv} (h:S.pT few U) (hm:Mo S S') (hl:S'.list.length=S.list.length) (i8:S'.many=S.many):S'.pT few U:=by
 refine ⟨by rw [i8,Ue hm hl];exact h.many,fun hf=> ?_⟩
 obtain ⟨g,h1,h2,h3,h4,h5⟩:=h.gs hf
 obtain ⟨Z,hZ,_⟩:=hm.pre
 have dI:∀n,(S'.rc n).lits≠[]→(S.rc n).lits≠[]:=fun n hn e=>by
  have hp:=hm.lits n
  rw [e] at hp
  exact hn (List.perm_nil.1 hp)
 refine ⟨g,fun n hn=>h1 n (dI n hn),fun n x hx=>h2 n x ((hm.lits n).mem_iff.1 hx),fun n hn x hx=>(h3 n (dI n hn) x hx).imp (fun k=>(hm.lits n).mem_iff.2 k) (F0.app hZ),fun n hn=>h4 n (by rw [←uB hm];exact hn),fun n m hn pF=>h5 n m (by rw [←uB hm];exact hn) (by rw [←uB hm];exact pF)⟩
theorem pT.same {S S':Sv} (h:S.pT few U) (hl:∀n,(S'.rc n).lits=(S.rc n).lits∧(S'.rc n).iY=(S.rc n).iY) (hn:S'.list.length=S.list.length) (i8:S'.many=S.many) (hF:∀x,S.F0 x→S'.F0 x):S'.pT few U:=by
 refine ⟨by rw [i8,rN hl hn];exact h.many,fun hf=> ?_⟩
 obtain ⟨g,h1,h2,h3,h4,h5⟩:=h.gs hf
 have e:∀n,S'.eQ n=S.eQ n:=fun n=>by unfold eQ;rw [(hl n).1,(hl n).2]
 exact ⟨g,fun n hn=>h1 n (by rw [←(hl n).1];exact hn),fun n x hx=>h2 n x (by rw [←(hl n).1];exact hx),fun n hn x hx=>by rw [(hl n).1] at hn⊢;exact (h3 n hn x hx).imp id (hF x),fun n hn=>h4 n (by rw [←e];exact hn),fun n m hn pF=>h5 n m (by rw [←e];exact hn) (by rw [←e];exact pF)⟩
theorem EN {B:Sv} (h:B.pT few U) (hi:B.Inv) {l:List Int} (hr:B.list.length<2199023255552) (l0:0<l.length) (l1:l.length≤1048576) (hl:∀x∈l,x≠0∧ -(B.vars:Int)≤x∧x≤B.vars) (tU:(l.map tv).Nodup) (hv:B.val l[0]! =0)
  (h1:l.length=1→B.T.levels.length=0) (hlu:∀g,B.Gs U g→∃A,yt U A∧(∀x∈l,A x)∧(∀x,A x→x∈l∨B.F0 x)∧(∀x,A x→¬A (-x))∧∀n,(B.rc n).lits≠[]→g n≠A):
  (B.bt l).bX.pT few U∧B.LL.length+B.zero+1≤(B.bt l).bX.LL.length+(B.bt l).bX.zero:=by
 have rS:=hl _ (get_mem (l:=l) (i:=0) l0)
 have ht:=pw rS.1 rS.2.1 rS.2.2 hi.ok.vl
 by_cases e1:l.length=1
 ·have e:(B.bt l)=B.put l[0]! 0:=by unfold bt;rw [if_pos e1]
  rw [e]
  have hR:(B.put l[0]! 0).bX.R=B.R++[⟨l[0]!,B.T.levels.length,0⟩]:=ng (r:=0) hi.ok (iH hi.ok ht.1 ht.2 hv)
  have hz:=nM hR
  rw [h1 e1] at hz
  have hs:((([⟨l[0]!,((0:Nat):Int),0⟩]:List St).filter fun e:St=>e.l==0)).length=1:=rfl
  rw [hs] at hz
  have sD:(B.put l[0]! 0).bX.LL=B.LL:=rN (fun n=>⟨rfl,rfl⟩) rfl
  exact ⟨h.same (fun n=>⟨rfl,rfl⟩) rfl rfl fun x hx=>F0.app hR hx,by rw [sD,hz];omega⟩
 ·have h2:2≤l.length:=by omega
  obtain ⟨k1,k2,k3⟩:=hi.attach (l:=l) ⟨h2,l1,hl⟩ tU true hr
  have uG:=ch B l true
  obtain ⟨S',uJ⟩:∃S':Sv,(B.bt l).bX=S':=⟨_,rfl⟩
  have e:(B.bt l)={ ((B.attach l true).put l[0]! (B.list.length+1)) with many:=B.many+1 }:=by unfold bt;rw [if_neg e1]
  have tS:S'.rc B.list.length=⟨l,true,B.used⟩:=by rw [←uJ,e];exact k2
  have vK:∀n,n≠B.list.length→S'.rc n=B.rc n:=fun n hn=>by rw [←uJ,e];exact k3 n hn
  have hlen:S'.list.length=B.list.length+1:=by rw [←uJ,e];exact uG.2.2.1
  have i8:S'.many=B.many+1:=by rw [←uJ,e];rfl
  have hb:(B.attach l true).T.iI l[0]! =true:=by
   rw [uG.1]
   exact iH hi.ok ht.1 ht.2 hv
  have hR:S'.R=B.R++[⟨l[0]!,B.T.levels.length,(B.list.length:Int)+1⟩]:=by
   have :=ng (r:=(B.list.length:Int)+1) k1.ok hb
   rw [dp uG.1,uG.1] at this
   rw [←uJ,e]
   exact this
  have hz:=nM hR
  have afj:l≠[]:=fun e=>by rw [e] at l0;simp at l0
  have pG:∀n,n≠B.list.length→S'.eQ n=B.eQ n:=fun n hn=>by unfold eQ;rw [vK n hn]
  have jf:S'.eQ B.list.length=true:=by
   rw [jw,tS]
   exact ⟨rfl,afj⟩
  have J2:S'.LL=B.LL++[B.list.length]:=by
   unfold LL
   rw [hlen,List.range_succ,List.filter_append,List.filter_cons,if_pos jf,List.filter_nil]
   congr 1
   refine List.filter_congr fun n hn=>pG n ?_
   have :=df.1 hn
   omega
  rw [uJ]
  refine ⟨⟨by rw [i8,J2,h.many];simp,fun hf=> ?_⟩,by rw [J2,hz];simp;omega⟩
  obtain ⟨g,hg⟩:=h.gs hf
  obtain ⟨A,a1,a2,a3,a4,a5⟩:=hlu g hg
  obtain ⟨h1,h2,h3,h4,h5⟩:=hg
  refine ⟨fun n=>if n=B.list.length then A else g n,fun n hn=> ?_,fun n x hx=> ?_,fun n hn x hx=> ?_,fun n hn=> ?_,fun n m hn hm he=> ?_⟩
  ·by_cases en:n=B.list.length
   ·simp only [en,if_true]
    exact a1
   ·simp only [en,if_false]
    rw [vK n en] at hn
    exact h1 n hn
  ·by_cases en:n=B.list.length
   ·simp only [en,if_true]
    rw [en,tS] at hx
    exact a2 x hx
   ·simp only [en,if_false]
    rw [vK n en] at hx
    exact h2 n x hx
  ·by_cases en:n=B.list.length
   ·simp only [en,if_true] at hx
    rw [en,tS]
    exact (a3 x hx).imp id (F0.app hR)
   ·simp only [en,if_false] at hx
    rw [vK n en] at hn⊢
    exact (h3 n hn x hx).imp id (F0.app hR)
  ·by_cases en:n=B.list.length
   ·simp only [en,if_true]
    exact a4
   ·simp only [en,if_false]
    rw [pG n en] at hn
    exact h4 n hn
  ·by_cases en:n=B.list.length
   ·by_cases em:m=B.list.length
    ·rw [en,em]
    ·simp only [en,em,if_true,if_false] at he
     rw [pG m em] at hm
     exact absurd he.symm (a5 m (jw.1 hm).2)
   ·rw [pG n en] at hn
    by_cases em:m=B.list.length
    ·simp only [en,em,if_true,if_false] at he
     exact absurd he (a5 n (jw.1 hn).2)
    ·simp only [en,em,if_false] at he
     rw [pG m em] at hm
     exact h5 n m hn hm he
theorem AH {S:Sv} (DY:S.pT few U) (h:S.Inv) {n:Nat} (hc:S.GI n) (hn:(S.rc n).lits≠[]) (hr:S.list.length<2199023255552) (hd:0<S.T.levels.length) {S2:Sv} (he:S.conflict n=some (S2,true)):
  S2.pT few U∧S.LL.length+S.zero+1≤S2.LL.length+S2.zero:=by
 obtain ⟨S1,l,cj,h1,h2,h3⟩:=iM h.ok h.sS h.dec hc hd hn
 obtain ⟨sl,eT,eV,eL,eU,f0,f1,f2,f3,f4⟩:=fR h.ok h1
 have uK:S1.Inv:=h.congr sl eT (congrArg (fun x=>x.2.2.2.2.2.2.1) h2) (fun j=>(j7 h2 j).1) (congrArg (fun x=>x.2.2.1) h2)
 have T5:S1.R=S.R:=dp eT
 have bM:=h3.lt
 have lI:cj.toNat<S1.T.levels.length:=by rw [eT];omega
 obtain ⟨b1,b2,b3,b4,BB,b5,b6,b7⟩:=fj uK.ok lI
 have Wf:=(uK.ok.back cj.toNat).2.1
 have Ia:=uK.back cj.toNat
 have ke:∀e∈(S1.back cj.toNat).R,e∈S.R:=fun e he=>by rw [←T5,b5];exact ak _ he
 obtain ⟨et,het,tY,JT⟩:=h3.top
 have Hz:S2=((S1.back cj.toNat).bt l).bX:=by
  unfold Sv.conflict at he
  rw [if_neg (by omega),h1] at he
  simp only [Option.some.injEq,Prod.mk.injEq] at he
  exact he.1.symm
 have Cy:∀j,((S1.back cj.toNat).rc j).lits=(S.rc j).lits∧((S1.back cj.toNat).rc j).iY=(S.rc j).iY:=fun j=>by
  rw [jn b1]
  exact j7 h2 j
 have hlB:(S1.back cj.toNat).list.length=S.list.length:=by rw [b1,eL]
 have hmB:(S1.back cj.toNat).many=S.many:=by
  rw [(jk S1 cj.toNat).2.2.1]
  exact congrArg (fun x=>x.2.2.2.2.2.2.2.2.2.1) h2
 have hF0:∀x,S.F0 x→(S1.back cj.toNat).F0 x:=fun x ⟨e,he,h0,hx⟩=>by
  refine ⟨e,?_,h0,hx⟩
  rw [←T5,b5] at he
  rcases ag.1 he with h5 |h5
  ·exact h5
  ·have :=b6 e h5
   omega
 have hcB:(S1.back cj.toNat).pT few U:=DY.same Cy hlB hmB hF0
 have hLB:(S1.back cj.toNat).LL=S.LL:=rN Cy hlB
 have hzB:(S1.back cj.toNat).zero=S.zero:=by
  have :S1.zero=S.zero:=by unfold zero;rw [T5]
  rw [←this,nM b5]
  have VE:(BB.filter fun e:St=>e.l==0)=[]:=by
   rw [List.filter_eq_nil_iff]
   intro e he
   have :=b6 e he
   simp
   omega
  rw [VE]
  rfl
 have hv:(S1.back cj.toNat).val l[0]! =0:=by
  rcases gx Ia.ok l[0]! with h5 |h5 |h5
  ·exact h5
  ·exfalso
   obtain ⟨e,he,hx⟩:=(fu Ia.ok l[0]!).1 (by omega)
   exact iJ h.ok (ke e he) het (by rw [hx,tY])
  ·exfalso
   obtain ⟨e,he,hx⟩:=(val_neg Ia.ok).1 (by omega:(S1.back cj.toNat).val l[0]! <0)
   have np:e.x=et.x:=by rw [hx,tY];omega
   have :=jm h.ok (ke e he) het (by rw [np])
   have :=b7 e he
   subst_vars
   omega
 have k:=EN hcB Ia (by rw [hlB];exact hr) f0 f1 (by rw [Wf,eV];exact f2) h3.nd hv (fun k1=>by rw [b3,h3.one k1];rfl) (fun g hg=>by
  have afG:S.DQ fun A=>∃A',yt U A'∧(∀x,A x→A' x)∧∀x,A' x→A x∨S.F0 x:=by
   refine ⟨fun A B x hx hA hB ⟨A',p1,p2,p3⟩ ⟨B',q1,q2,q3⟩=> ?_,fun m hm=>⟨g m,hg.ext m (by rw [(Cy m).1];exact hm),fun x hx=>hg.sub m x (by rw [(Cy m).1];exact hx),fun x hx=> ?_⟩⟩
   ·have :=yt.res (-x) (by omega) (p2 _ hA) (by rw [Int.neg_neg];exact q2 _ hB) p1 q1
    rw [Int.neg_neg] at this
    exact ⟨_,this,fun y hy=>hy.imp (fun h=>⟨p2 y h.1,h.2⟩) (fun h=>⟨q2 y h.1,h.2⟩),fun y hy=>by
     rcases hy with ⟨k1,k2⟩ |⟨k1,k2⟩
     ·exact (p3 y k1).imp (fun h=> .inl ⟨h,k2⟩) id
     ·exact (q3 y k1).imp (fun h=> .inr ⟨h,k2⟩) id⟩
   ·have :=hg.sup m (by rw [(Cy m).1];exact hm) x hx
    rw [(Cy m).1] at this
    refine this.imp id ?_
    rintro ⟨e,he,h0,hx⟩
    exact ⟨e,ke e he,h0,hx⟩
  obtain ⟨A0,⟨A,p1,p2,p3⟩,p4,p5⟩:=h3.ext _ afG
  have hA:∀x,A x→x∈l∨S.F0 x:=fun x hx=>(p3 x hx).elim (p5 x) .inr
  refine ⟨A,p1,fun x hx=>p2 x (p4 x hx),fun x hx=>(hA x hx).imp id (hF0 x),fun x hx ix=> ?_,fun m hm e=> ?_⟩
  ·have N3:∀y,A y→∃e∈S.R,e.x= -y:=fun y hy=>by
    rcases hA y hy with hy |⟨e,he,_,hx⟩
    ·obtain ⟨k,hk,hg⟩:=List.getElem_of_mem hy
     by_cases h0:k=0
     ·obtain ⟨e,he,hx,_⟩:=h3.top
      refine ⟨e,he,?_⟩
      have :l[0]! =y:=by rw [kU (by omega)];simp only [←hg,h0]
      omega
     ·obtain ⟨e,he,hx,_⟩:=h3.tail k (by omega) hk
      refine ⟨e,he,?_⟩
      rw [hx,kU hk,hg]
    ·exact ⟨e,he,hx⟩
   obtain ⟨e,he,h5⟩:=N3 x hx
   obtain ⟨e',dZ,h6⟩:=N3 _ ix
   exact iJ h.ok he dZ (by omega)
  ·rw [(Cy m).1] at hm
   refine MR h h3 hm fun x hx=>hA x ?_
   rw [←e]
   exact hg.sub m x (by rw [(Cy m).1];exact hx))
 rw [hLB,hzB] at k
 rw [Hz]
 exact k
end Sv
theorem pK {n:Nat}:∀{l:List Nat},l.Nodup→n∈l→(l.filter fun j=> !(j==n)).length+1=l.length
 |[],_,h=>by cases h
 |a::r,hd,h=>by
  rw [eB] at hd
  by_cases e:a=n
  ·subst e
   have :r.filter (fun j=> !(j==a))=r:=by
    rw [List.filter_eq_self]
    intro j hj
    have :j≠a:=fun e=>hd.1 (e▸hj)
    simpa using this
   rw [List.filter_cons,if_neg (by simp),this]
   rfl
  ·have hm:n∈r:=by
    rcases av.1 h with h1 |h1
    ·exact absurd h1.symm e
    ·exact h1
   have :=pK hd.2 hm
   rw [List.filter_cons,if_pos (by simpa using e),bO,bO]
   omega
namespace Sv
variable {few:Prop} {U:List (List Int)}
theorem vv {S:Sv} {n:Nat} (hn:n<S.list.length) (j:Nat):(S.bW n).eQ j=(S.eQ j&& !(j==n)):=by
 unfold eQ
 rw [eK]
 by_cases e:n=j
 ·subst e
  rw [if_pos ⟨rfl,hn⟩]
  simp
 ·rw [if_neg (fun h=>e h.1)]
  have :(j==n)=false:=by simpa using fun h=>e h.symm
  rw [this]
  simp
theorem pT.bW {S:Sv} (h:S.pT few U) {n:Nat} (hl:S.eQ n=true):(S.bW n).pT few U:=by
 have hn:n<S.list.length:=lx (jw.1 hl).2
 have lI:=vv (S:=S) hn
 have J2:(S.bW n).LL=S.LL.filter fun j=> !(j==n):=by
  unfold LL
  have e:(S.bW n).list.length=S.list.length:=by simp [Sv.bW]
  rw [e,List.filter_filter]
  refine List.filter_congr fun j _=> ?_
  rw [lI j,Bool.and_comm]
 have tU:S.LL.Nodup:=List.Nodup.sublist List.filter_sublist List.nodup_range
 have hlen:=pK tU (show n∈S.LL from cq.2 ⟨df.2 hn,hl⟩)
 refine ⟨?_,fun hf=> ?_⟩
 ·show S.many-1=_
  rw [J2,h.many]
  omega
 ·obtain ⟨g,h1,h2,h3,h4,h5⟩:=h.gs hf
  refine ⟨g,fun j hj=> ?_,fun j x hx=> ?_,fun j hj x hx=> ?_,fun j hj=> ?_,fun i j hi hj=> ?_⟩
  ·rw [eK] at hj
   split at hj
   ·exact absurd rfl hj
   ·exact h1 j hj
  ·rw [eK] at hx
   split at hx
   ·cases hx
   ·exact h2 j x hx
  ·rw [eK] at hj⊢
   split at hj
   ·exact absurd rfl hj
   ·rename_i dI
    rw [if_neg dI]
    exact h3 j hj x hx
  ·rw [lI,aD] at hj
   exact h4 j hj.1
  ·rw [lI,aD] at hi hj
   exact h5 i j hi.1 hj.1
theorem zh:∀(D:List Nat) (S:Sv),S.pT few U→D.Nodup→(∀n∈D,S.eQ n=true)→(D.foldl Sv.bW S).pT few U
 |[],S,h,_,_=>h
 |n::r,S,h,hn,hd=>by
  rw [eB] at hn
  have h1:=hd n aY
  refine zh r _ (h.bW h1) hn.2 fun m hm=> ?_
  rw [vv (lx (jw.1 h1).2),hd m (aP _ hm)]
  have :m≠n:=fun e=>hn.1 (e▸hm)
  simpa using this
theorem Qx {S S':Sv} (h:S.pT few U) (hr:Gd S S'):S'.pT few U:=by
 obtain ⟨D,h1,h2,h3,rfl⟩:=hr
 refine zh D S h h1 fun n hn=> ?_
 obtain ⟨_,k2,k3,_⟩:=zt (h2 n hn)
 rw [jw]
 exact ⟨k2,fun e=>by rw [e] at k3;simp at k3⟩
def rem:Nat→Nat→Nat
 |0,_=>0
 |f+1,x=>if 204495126≤x then 0 else rem f (x+(x/16+1))+1
def Ch:Nat→Nat→Nat
 |0,x=>x
 |f+1,x=>Ch f (x+(x/16+1))
theorem vF:∀(f:Nat) {x y:Nat},x≤y→Ch f x≤Ch f y
 |0,_,_,h=>h
 |f+1,x,y,h=>vF f (by have :=Nat.div_le_div_right (c:=16) h;omega)
theorem ME:∀f x:Nat,rem f x≤f
 |0,_=>au _
 |f+1,x=>by
  rw [rem]
  split
  ·omega
  ·have :=ME f (x+(x/16+1));omega
theorem GX:∀f x:Nat,204495126≤Ch f x→rem (f+1) x=rem f x
 |0,x,h=>by
  show (if 204495126≤x then 0 else rem 0 (x+(x/16+1))+1)=0
  exact if_pos h
 |f+1,x,h=>by
  show (if 204495126≤x then 0 else rem (f+1) (x+(x/16+1))+1)=(if 204495126≤x then 0 else rem f (x+(x/16+1))+1)
  rw [GX f _ h]
theorem Qw {x:Nat} (h:x<204495126):rem 300 (x+(x/16+1))+1=rem 300 x:=by
 have h0:204495126≤Ch 300 0:=by decide+kernel
 have :=GX 300 x (aF h0 (vF 300 (bH x)))
 rw [←this]
 show _=(if 204495126≤x then 0 else rem 300 (x+(x/16+1))+1)
 rw [if_neg (by omega)]
def xg (S:Sv):Nat:=rem 300 S.bP*204757270+(204757269-(S.LL.length+S.zero))
theorem room {S:Sv} {m:Nat} (ok:S.Ok m) (hc:S.pT few U) (hf:few) (ov:UC U S.vars):S.LL.length≤204495126∧S.zero≤262143:=by
 obtain ⟨g,hg⟩:=hc.gs hf
 exact ⟨abz hg ov.len,aF (zero_le ok) ov.vars⟩
theorem QC {A x:Nat} (h:A≤61427181000):A+(204757269-x)≤69793746944:=by omega
theorem US {A B C x y:Nat} (h4:C≤A) (h5:A+204757270=B):C+(204757269-x)+1≤B+(204757269-y):=by omega
theorem WM (S:Sv):S.xg≤69793746944:=
 QC (aF (Nat.mul_le_mul_right 204757270 (ME 300 S.bP)) (by decide))
theorem OZ {S S2:Sv} {m:Nat} (ok:S2.Ok m) (hc:S2.pT few U) (hf:few) (ov:UC U S2.vars) (hl:S2.bP=S.bP) (h:S.LL.length+S.zero+1≤S2.LL.length+S2.zero):S2.xg+1≤S.xg:=by
 have :=room ok hc hf ov
 unfold xg
 rw [hl]
 omega
theorem Dz {S S2:Sv} (hl:S2.bP=S.bP) (h:S.LL.length+S.zero≤S2.LL.length+S2.zero):S2.xg≤S.xg:=by
 unfold xg
 rw [hl]
 omega
theorem Sz {S S2:Sv} {m:Nat} (ok:S.Ok m) (hc:S.pT few U) (hf:few) (ov:UC U S.vars) (pn:(S.bP:Int)<S.many) (hl:S2.bP=S.bP+(S.bP/16+1)):S2.xg≤S.xg:=by
 have h1:=(room ok hc hf ov).1
 have h2:=hc.many
 have h3:S.bP<204495126:=by omega
 have h4:=Qw h3
 rw [←hl] at h4
 clear h1 h2 h3 pn hl
 unfold xg
 rw [←h4]
 exact Nat.le_of_succ_le (US (au _) (Nat.succ_mul (rem 300 S2.bP) 204757270).symm)
theorem WN {S S':Sv} (h1:S'.bP=S.bP) (h2:S'.LL=S.LL) (h3:S'.zero=S.zero):S'.xg=S.xg:=by
 unfold xg
 rw [h1,h2,h3]
theorem GJ {S S':Sv} {Z:List St} (h:S'.R=S.R++Z):S.zero≤S'.zero:=by
 rw [nM h];omega
theorem ID {S:Sv} {m:Nat} (ok:S.Ok m) (level:Nat):(S.back level).zero=S.zero:=by
 by_cases hl:level<S.T.levels.length
 ·obtain ⟨b1,b2,b3,b4,BB,b5,b6,b7⟩:=fj ok hl
  rw [nM b5]
  have VE:(BB.filter fun e:St=>e.l==0)=[]:=by
   rw [List.filter_eq_nil_iff]
   intro e he
   have :=b6 e he
   simp
   omega
  rw [VE]
  rfl
 ·have :S.back level=S:=by
   unfold Sv.back
   rw [if_pos (by omega)]
  rw [this]
theorem F0.back {S:Sv} {m:Nat} (ok:S.Ok m) (level:Nat) {x:Int} (h:S.F0 x):(S.back level).F0 x:=by
 by_cases hl:level<S.T.levels.length
 ·obtain ⟨b1,b2,b3,b4,BB,b5,b6,b7⟩:=fj ok hl
  obtain ⟨e,he,h0,hx⟩:=h
  refine ⟨e,?_,h0,hx⟩
  rw [b5] at he
  rcases ag.1 he with h5 |h5
  ·exact h5
  ·have :=b6 e h5
   omega
 ·have :S.back level=S:=by
   unfold Sv.back
   rw [if_pos (by omega)]
  rw [this]
  exact h
theorem n9:∀(f:Nat) (S:Sv),(cI f S).1.bump=S.bump∧(cI f S).1.has=S.has
 |0,S=>⟨rfl,rfl⟩
 |f+1,S=>by
  rw [cI]
  split
  ·exact ⟨rfl,rfl⟩
  ·simp only
   split
   ·exact n9 f _
   ·exact ⟨rfl,rfl⟩
theorem kk (S:Sv):S.choose.1.bump=S.bump∧S.choose.2≠2:=by
 unfold choose
 split
 ·exact ⟨(n9 _ S).1,show (1:Int)≠2 by decide⟩
 ·exact ⟨(n9 _ S).1,show (0:Int)≠2 by decide⟩
theorem pN (us:List Int):∀(f:Nat) (S:Sv),(bv us f S).1.bump=S.bump∧((bv us f S).2=2→(bv us f S).1.has=S.has)∧((bv us f S).2≠2→(bv us f S).1.core=S.core)
 |0,S=>⟨(kk S).1,fun h=>absurd h (kk S).2,fun _=>(fZ S).1⟩
 |f+1,S=>by
  rw [bv]
  split
  ·simp only
   split
   ·exact ⟨rfl,fun _=>rfl,fun h=>absurd rfl h⟩
   ·split
    ·exact ⟨rfl,fun h=>(by cases h),fun _=>rfl⟩
    ·exact pN us f S.deep
  ·exact ⟨(kk S).1,fun h=>absurd h (kk S).2,fun _=>(fZ S).1⟩
theorem wy:∀(D:List Nat) (S:Sv),(D.foldl bW S).used=S.used∧(D.foldl bW S).bump=S.bump∧(D.foldl bW S).has=S.has∧(D.foldl bW S).bad=S.bad
 |[],S=>⟨rfl,rfl,rfl,rfl⟩
 |n::r,S=>wy r (S.bW n)
def Ans (us:List Int) (F:(Nat→Bool)→Prop) (vars:Nat) (S:Sv) (r:Int):Prop:=
 (r=1∧S.has=true∧S.core=[]∧S.model.length=vars+1∧∀a:Nat→Bool,(∀v,1≤v→v≤vars→a v=S.model[v]!)→F a∧∀u∈us,pe a u)∨
 (r=2∧S.has=false∧(∀a,F a→¬∀u∈S.core,pe a u)∧(∀u∈S.core,u∈us)∧S.core.Pairwise (fun x y=>us.idxOf x<us.idxOf y))
theorem EC {vars:Nat} {x:Int} (hv:vars≤262143) (h0:x≠0) (h1: -(vars:Int)≤x) (h2:x≤vars):iw vars x=false:=by
 have :=pw h0 h1 h2 hv
 unfold iw
 simp only [dL,decide_eq_false_iff_not]
 omega
end Sv
namespace Sv
variable {few:Prop} {W:List (List Int)}
def Lw (u:Nat) (T:Tr):Prop:=(∀i:Nat,i<T.levels.length→(i:Int)≤u+T.levels[i]!)∧(T.levels.length:Int)≤u+T.lits.length
theorem Lw.mono {u:Nat} {T T':Tr} (h:Lw u T) (h1:T'.levels=T.levels) (h2:T.lits.length≤T'.lits.length):Lw u T':=⟨by rw [h1];exact h.1,by rw [h1];have :=h.2;omega⟩
theorem Lw.cV {u:Nat} {T:Tr} (h:Lw u T) (m:Nat):Lw u (T.cV m):=by
 unfold Tr.cV
 split
 ·rename_i hm
  have hl:(T.levels.take m).length=m:=by rw [aV];omega
  refine ⟨fun i hi=> ?_,?_⟩
  ·have hi:i<(T.levels.take m).length:=hi
   rw [hl] at hi
   have :=h.1 i (by omega)
   have e:(T.levels.take m)[i]! =T.levels[i]! :=by
    simp only [aa,List.getElem?_take]
    rw [if_pos hi]
   show (i:Int)≤u+(T.levels.take m)[i]!
   rw [e]
   exact this
  ·show ((T.levels.take m).length:Int)≤u+((T.lits.take (T.levels[m]!).toNat).length:Nat)
   rw [hl,aV]
   have h1:=h.1 m hm
   have h2:=h.2
   omega
 ·exact h
theorem Lw.back {u:Nat} {S:Sv} (h:Lw u S.T) {m:Nat} (ok:S.Ok m) (level:Nat):Lw u (S.back level).T:=by
 unfold Sv.back
 split
 ·exact h
 ·show Lw u ((dM level S.T.lits.reverse S).T.cV level)
  rw [(jl (level:Int) S.T.lits.reverse S m ok).2.1]
  exact h.cV level
theorem Im (level:Int):∀(r:List Int) (S:Sv),(dM level r S).T=S.T
 |[],S=>rfl
 |l::r,S=>by
  rw [dM]
  split
  ·rfl
  ·exact Im level r _
theorem I8 {u:Nat} {B:Sv} (h:Lw u B.T) (l:List Int):Lw u (B.bt l).bX.T:=by
 have key:(B.bt l).bX.T.levels=B.T.levels∧B.T.lits.length≤(B.bt l).bX.T.lits.length:=by
  unfold bt
  split
  ·exact ⟨dF B _ _,vg B _ _⟩
  ·have hs:=(ch B l true).1
   refine ⟨(dF (B.attach l true) _ _).trans (congrArg (fun T:Tr=>T.levels) hs),?_⟩
   have :=vg (B.attach l true) l[0]! ((B.list.length:Int)+1)
   have e:(B.attach l true).T.lits=B.T.lits:=congrArg (fun T:Tr=>T.lits) hs
   rw [e] at this
   exact this
 exact h.mono key.1 key.2
theorem G7:∀(f:Nat) (S:Sv),(cI f S).1.T=S.T
 |0,S=>rfl
 |f+1,S=>by
  rw [cI]
  split
  ·rfl
  ·simp only
   split
   ·exact G7 f _
   ·rfl
theorem wS (S:Sv) (h:S.choose.2=0):S.choose.1.T.levels=S.T.levels++[(S.T.lits.length:Int)]:=by
 have hp:S.pick.1.T=S.T:=G7 _ S
 unfold choose at h⊢
 by_cases h0:S.pick.2=0
 ·rw [if_pos h0] at h
  cases h
 ·rw [if_neg h0]
  show (S.pick.1.deep.put S.pick.2 0).T.levels=_
  rw [dF]
  show S.pick.1.T.levels++[(S.pick.1.T.lits.length:Int)]=_
  rw [hp]
theorem tu (us:List Int):∀(f:Nat) (S:Sv),(bv us f S).2=0→∃k:Nat,(bv us f S).1.T.levels=S.T.levels++List.replicate k (S.T.lits.length:Int)∧S.T.levels.length+k≤max us.length S.T.levels.length+1
 |0,S,h=>⟨1,wS S h,by omega⟩
 |f+1,S,h=>by
  rw [bv] at h⊢
  split at h
  ·rename_i hd
   rw [if_pos hd]
   simp only at h⊢
   split at h
   ·cases h
   ·rename_i h1
    rw [if_neg h1]
    split at h
    ·rename_i h2
     rw [if_pos h2]
     refine ⟨1,?_,by omega⟩
     show (S.deep.put _ 0).T.levels=_
     rw [dF]
     rfl
    ·rename_i h2
     rw [if_neg h2]
     obtain ⟨k,k1,k2⟩:=tu us f S.deep h
     refine ⟨k+1,?_,?_⟩
     ·rw [k1]
      show (S.T.levels++[(S.T.lits.length:Int)])++List.replicate k (S.T.lits.length:Int)=_
      rw [js]
      rfl
     ·rw [dG] at k2
      omega
  ·rename_i hd
   rw [if_neg hd]
   exact ⟨1,wS S h,by omega⟩
theorem Ki {us:List Int} {S:Sv} (h:Lw us.length S.T) (hq:(S.aS us).2=0) (hl:(S.aS us).1.T.lits.length=S.T.lits.length+1):Lw us.length (S.aS us).1.T:=by
 obtain ⟨k,k1,k2⟩:=tu us (us.length+1) S hq
 change (S.aS us).1.T.levels=_ at k1
 have h2:=h.2
 refine ⟨fun i hi=> ?_,?_⟩
 ·rw [k1] at hi⊢
  rw [ai,bh] at hi
  by_cases ns:i<S.T.levels.length
  ·have e:(S.T.levels++List.replicate k (S.T.lits.length:Int))[i]! =S.T.levels[i]! :=by
    simp only [aa,cW ns]
   rw [e]
   exact h.1 i ns
  ·have e:(S.T.levels++List.replicate k (S.T.lits.length:Int))[i]! =(S.T.lits.length:Int):=by
    simp only [aa,gm (by omega:S.T.levels.length≤i),List.getElem?_replicate]
    rw [if_pos (by omega)]
    rfl
   rw [e]
   omega
 ·rw [k1,ai,bh,hl]
  omega
structure Gx (few:Prop) (W:List (List Int)) (us:List Int) (F:(Nat→Bool)→Prop) (vars U V c p:Nat) (S:Sv):Prop where
 inv:S.Inv
 hc:S.Hc
 kn:S.cJ F
 Ya:As us S
 dc:Dc us S
 iz:S.pT few W
 vars:S.vars=vars
 core:S.core=[]
 has:S.has=false
 used:S.used+c≤U
 list:S.list.length+c≤V
 bump:S.bump≤1073741824
 lim:S.bP≤401+V+V/16
 bad:S.bad=false
 lw:Lw us.length S.T
 UT:few→S.xg+10≤p
structure Tx (few:Prop) (W:List (List Int)) (us:List Int) (F:(Nat→Bool)→Prop) (vars U V:Nat) (S:Sv) (r:Int):Prop where
 inv:S.Inv
 hc:S.Hc
 kn:S.cJ F
 iz:S.pT few W
 vars:S.vars=vars
 used:S.used≤U
 list:S.list.length≤V
 bump:S.bump≤1073741824
 lim:S.bP≤401+V+V/16
 core:S.core.length≤us.length
 ans:(r=0∧S.has=false∧¬few)∨(r=1∧SA us S∧S.core=[]∧S.bad=false)∨(r=2∧S.has=false∧(Sp us S∨(S.core=[]∧∀a,¬F a)))
theorem O3 (S:Sv):S.LL.length≤S.list.length:=by
 unfold LL
 have :=List.length_filter_le S.eQ (List.range S.list.length)
 rwa [cX] at this
theorem Gx.small {us:List Int} {F:(Nat→Bool)→Prop} {vars U V c:Nat} {p:Nat} {S:Sv} (h:Gx few W us F vars U V c p S) (hU:U≤2199023255000) (hV:V≤1200000000000) (xS:us.length≤1099511627776):S.Small:=by
 have h1:=h.used
 have h2:=h.list
 have h3:=h.iz.many
 have h4:=O3 S
 have h5:=h.lim
 have h6:=h.lw.2
 have h7:=uC h.inv.ok
 have h8:=h.inv.ok.vl
 exact ⟨by omega,by omega,h.bump,by omega,by omega,by omega,by omega,h.core⟩
theorem Gx.cE {us:List Int} {F:(Nat→Bool)→Prop} {vars U V c:Nat} {S:Sv} (h:Gx few W us F vars U V (c+1) (c+1) S):Gx few W us F vars U V c (c+1) S.cE:=
 ⟨h.inv.cE,⟨h.hc.all,h.hc.pos⟩,h.kn.cE,h.Ya,h.dc,h.iz.same (fun n=>⟨rfl,rfl⟩) rfl rfl (fun _ h=>h),h.vars,h.core,h.has,by have :=h.used;show S.used+1+c≤_;omega,by have :=h.list;show S.list.length+c≤_;omega,h.bump,h.lim,h.bad,h.lw,fun hf=>by have :=h.UT hf;exact this⟩
theorem Gx.back {us:List Int} {F:(Nat→Bool)→Prop} {vars U V c:Nat} {S:Sv} (h:Gx few W us F vars U V c c S) (level:Nat):Gx few W us F vars U V c c (S.back level):=by
 have ok:=h.inv.ok
 have hb:=jk S level
 have hk:=ok.back level
 have ed:∀n,((S.back level).rc n).lits=(S.rc n).lits∧((S.back level).rc n).iY=(S.rc n).iY:=fun n=>by rw [jn hk.2.2];exact ⟨rfl,rfl⟩
 exact ⟨h.inv.back level,h.hc.back ok level,h.kn.back h.inv level,h.Ya.back ok level,h.dc.back ok level,h.iz.same ed (by rw [hk.2.2]) hb.2.2.1 (fun _ h=>F0.back ok level h),hk.2.1.trans h.vars,hb.1.trans h.core,(wX S level).1.trans h.has,by rw [hb.2.1];exact h.used,by rw [hk.2.2];exact h.list,by rw [hb.2.2.2.2.2.2];exact h.bump,by rw [hb.2.2.2.1];exact h.lim,hb.2.2.2.2.1.trans h.bad,h.lw.back ok level,fun hf=>by
  rw [WN hb.2.2.2.1 (rN ed (by rw [hk.2.2])) (ID ok level)]
  exact h.UT hf⟩
theorem Gx.follow {us:List Int} {F:(Nat→Bool)→Prop} {vars U V c:Nat} {S:Sv} (h:Gx few W us F vars U V c c S):Gx few W us F vars U V c c S.follow.1:=by
 obtain ⟨f1,f2,f3,f4⟩:=tt h.inv
 have TL:=(Ok.follow h.inv.ok).2.1
 have jU:=TL
 unfold Sv.rest at jU
 simp only [Prod.mk.injEq] at jU
 obtain ⟨r1,r2,r3,r4,r5,r6,r7,r8,r9,YL,r11,r12,r13⟩:=jU
 obtain ⟨Z,hZ,_⟩:=f2.pre
 have N0:S.T.lits.length≤S.follow.1.T.lits.length:=by
  rw [←iT,←iT,hZ]
  simp
 exact ⟨f1,h.hc.rest h.inv.ok f1.ok f2 TL,h.kn.mo f2 f1 YL,h.Ya.mo f2 (by rw [r12]),h.dc.mo f2,h.iz.mo f2 r13 r8,r2.trans h.vars,r5.trans h.core,r11.trans h.has,by rw [r6];exact h.used,by rw [r13];exact h.list,by rw [r7];exact h.bump,by rw [r9];exact h.lim,YL.trans h.bad,h.lw.mono r12 N0,fun hf=>by
  have hP:S.follow.1.xg≤S.xg:=Dz r9 (by rw [Ue f2 r13];have :=GJ hZ;omega)
  have :=h.UT hf
  omega⟩
theorem Gx.conflict {us:List Int} {F:(Nat→Bool)→Prop} {vars U V c:Nat} {S:Sv} (h:Gx few W us F vars U V (c+1) (c+1) S) (ov:few→UC W vars) (hV:V≤1200000000000) {n:Nat} (hc:S.GI n) (hn:(S.rc n).lits≠[]) (hd:0<S.T.levels.length):
  ∃S2,S.cE.conflict n=some (S2,true)∧Gx few W us F vars U V c c S2:=by
 have h1:=h.cE
 have hl:S.cE.list.length<2199023255552:=by have :=h1.list;omega
 obtain ⟨S2,l,cj,c1,c2,c3,c4,S1,c5,c6⟩:=ya h1.inv (n:=n) hc hn hl hd
 obtain ⟨a1,a2⟩:=yb h1.inv h1.Ya h1.dc (n:=n) hc hn hd c2
 obtain ⟨n1,n2⟩:=AH h1.iz h1.inv (n:=n) hc hn hl hd c2
 have afs:S2.has=false:=by
  rw [c6,EM,(wX S1 cj.toNat).1]
  have :S1.has=S.cE.has:=congrArg (fun x=>x.2.2.2.2.2.2.2.2.2.2.2.2.1) c5
  rw [this]
  exact h.has
 have hT1:S1.T=S.T:=congrArg (fun x=>x.1) c5
 have Rv:Lw us.length S2.T:=by
  rw [c6]
  refine I8 ?_ l
  unfold Sv.back
  split
  ·rw [hT1];exact h.lw
  ·show Lw us.length ((dM cj.toNat S1.T.lits.reverse S1).T.cV cj.toNat)
   rw [Im,hT1]
   exact h.lw.cV _
 refine ⟨S2,c2,⟨c3,h1.hc.conflict h1.inv (n:=n) hc hn hl hd c2,h1.kn.conflict h1.inv (n:=n) hc hn hl hd c2,a1,a2,n1,c4.vars.trans h.vars,c4.core.trans h.core,afs,?_,?_,c4.bump,by rw [c4.bP];exact h.lim,c4.bad.trans h.bad,Rv,fun hf=> ?_⟩⟩
 ·have :=h.used
  rw [c4.used]
  show S.used+1+c≤U
  omega
 ·have :=h.list
  have :=c4.Ts
  have e:S.cE.list.length=S.list.length:=rfl
  omega
 ·have lK:S2.vars=vars:=c4.vars.trans h.vars
  have hP:=OZ c3.ok n1 hf (by rw [lK];exact ov hf) c4.bP n2
  have hP1:S.cE.xg=S.xg:=rfl
  have :=h.UT hf
  omega
theorem Gx.UF {us:List Int} {F:(Nat→Bool)→Prop} {vars U V c:Nat} {S:Sv} (h:Gx few W us F vars U V (c+1) (c+1) S) {n:Nat} (hc:S.GI n) (hn:(S.rc n).lits≠[]) (hd:S.T.levels.length=0):
  S.cE.conflict n=some ({ S.cE with bad:=true },false)∧Tx few W us F vars U V { S.cE with bad:=true } 2:=by
 have h1:=h.cE
 refine ⟨by unfold Sv.conflict;rw [if_pos (show S.cE.T.levels.length=0 from hd)],⟨h1.inv.congr (h1.inv.ok.zP true) rfl rfl (fun _=>rfl) rfl,⟨h.hc.all,h.hc.pos⟩,h1.kn.zero h1.inv (n:=n) hc hn hd,h.iz.same (fun n=>⟨rfl,rfl⟩) rfl rfl (fun _ h=>h),h.vars,by have :=h1.used;show S.used+1≤U;have e:S.cE.used=S.used+1:=rfl;omega,by have :=h.list;show S.list.length≤V;omega,h.bump,h.lim,by show S.core.length≤_;rw [h.core];exact bH _, .inr (.inr ⟨rfl,h.has, .inr ⟨h.core,fun a ha=>(h.kn.sound a ha).Dt h.inv hc hn hd⟩⟩)⟩⟩
theorem Gx.stop {us:List Int} {F:(Nat→Bool)→Prop} {vars U V c:Nat} {S:Sv} (h:Gx few W us F vars U V c c S) (hc:c≤9):Tx few W us F vars U V S 0:=
 ⟨h.inv,h.hc,h.kn,h.iz,h.vars,by have :=h.used;omega,by have :=h.list;omega,h.bump,h.lim,by rw [h.core];exact bH _, .inl ⟨rfl,h.has,fun hf=>by have :=h.UT hf;omega⟩⟩
theorem Gx.red {us:List Int} {F:(Nat→Bool)→Prop} {vars U V c:Nat} {S:Sv} (h:Gx few W us F vars U V c c S) (ov:few→UC W vars) (pn:(S.bP:Int)<S.many) {S':Sv} (hr:Gd S S'):Gx few W us F vars U V c c S'.fy∧S'.fy.T=S.T∧S'.fy.head=S.head:=by
 obtain ⟨k1,k2,k3,k4,k5⟩:=MF h.inv hr
 have DY:=Qx h.iz hr
 obtain ⟨D,d1,d2,d3,rfl⟩:=hr
 have hs:=kI D S
 have hm:=wy D S
 have hI:(D.foldl bW S).fy.Inv:=k1.congr k1.ok.fy rfl rfl (fun _=>rfl) rfl
 have i8:=h.iz.many
 have sD:=O3 S
 have ajh:=h.list
 refine ⟨⟨hI,h.hc.mono h.inv.ok hI.ok hs.2.1 (fun y=>by show y∈(D.foldl bW S).H.items↔_;rw [k3]) (fun e he=>by rw [dp (show (D.foldl bW S).fy.T=S.T from k2)];exact he),(k5 F h.kn).congr rfl rfl rfl,h.Ya.congr k2,h.dc.congr k2,DY.same (fun n=>⟨rfl,rfl⟩) rfl rfl (fun _ h=>h),hs.2.1.trans h.vars,hs.2.2.2.1.trans h.core,hm.2.2.1.trans h.has,?_,?_,?_,?_,hm.2.2.2.trans h.bad,by show Lw us.length (D.foldl bW S).T;rw [k2];exact h.lw,fun hf=> ?_⟩,k2,k4⟩
 ·show (D.foldl bW S).used+_≤U
  rw [hm.1]
  exact h.used
 ·show (D.foldl bW S).list.length+_≤V
  rw [hs.2.2.1]
  exact h.list
 ·show (D.foldl bW S).bump≤_
  rw [hm.2.1];exact h.bump
 ·show (D.foldl bW S).bP+((D.foldl bW S).bP/16+1)≤_
  rw [hs.2.2.2.2.1]
  omega
 ·have hP:(D.foldl bW S).fy.xg≤S.xg:=Sz h.inv.ok h.iz hf (by rw [h.vars];exact ov hf) pn (by show (D.foldl bW S).bP+_=_;rw [hs.2.2.2.2.1])
  have :=h.UT hf
  omega
theorem Gx.decide {us:List Int} {F:(Nat→Bool)→Prop} {vars U V c:Nat} {S:Sv} (h:Gx few W us F vars U V c c S) (hf:S.head=S.T.lits.length) (hu:∀y∈us,y≠0∧ -(vars:Int)≤y∧y≤vars):
  ((S.aS us).2=0→Gx few W us F vars U V c c (S.aS us).1∧(S.aS us).1.T.lits.length=S.T.lits.length+1)∧
  ((S.aS us).2≠0→Tx few W us F vars U V (S.aS us).1 (S.aS us).2):=by
 have yZ:∀y∈us,y≠0∧ -(S.vars:Int)≤y∧y≤S.vars:=by rw [h.vars];exact hu
 obtain ⟨d1,d2⟩:=De h.inv hf yZ
 obtain ⟨e1,e2⟩:=tw (us.length+1) S h.inv hf yZ h.has h.core
 obtain ⟨t1,t2,t3,t4,t5,t6⟩:=pM (us.length+1) S h.inv hf yZ h.Ya h.dc h.hc h.core (by omega)
 have dk:=Ok.aS h.inv.ok us
 have dm:=rA us (us.length+1) S
 have dm2:=pN us (us.length+1) S
 have dl:(S.aS us).2=0→Lw us.length (S.aS us).1.T:=fun hq=>Ki h.lw hq (d2 hq)
 change Fin us (S.aS us).1 at e1
 change (S.aS us).2=0→(S.aS us).1.has=false at e2
 change (S.aS us).2=0∨(S.aS us).2=1∨(S.aS us).2=2 at t1
 change Up S (S.aS us).1 at t2
 change (S.aS us).2=0→As us (S.aS us).1∧Dc us (S.aS us).1 at t3
 change (S.aS us).1.Hc at t4
 change (S.aS us).2=1→SA us (S.aS us).1 at t5
 change (S.aS us).2=2→Sp us (S.aS us).1 at t6
 change ((S.aS us).2=0→(S.aS us).1.core=S.core)∧(S.aS us).1.used=S.used∧(S.aS us).1.many=S.many∧(S.aS us).1.bP=S.bP∧(S.aS us).1.bad=S.bad at dm
 change (S.aS us).1.bump=S.bump∧((S.aS us).2=2→(S.aS us).1.has=S.has)∧((S.aS us).2≠2→(S.aS us).1.core=S.core) at dm2
 generalize S.aS us=q at *
 have ed:=jn t2.list
 have DY:q.1.pT few W:=h.iz.same (fun n=>by rw [ed];exact ⟨rfl,rfl⟩) (by rw [t2.list]) dm.2.2.1 fun x hx=>by
  obtain ⟨Z,hZ,_⟩:=t2.R
  exact F0.app hZ hx
 have amp:=h.used
 have jK:=h.list
 refine ⟨fun hq=>⟨⟨d1,t4,t2.Tt h.kn,(t3 hq).1,(t3 hq).2,DY,t2.vars.trans h.vars,(dm.1 hq).trans h.core,e2 hq,by rw [dm.2.1];omega,by rw [t2.list];omega,by rw [dm2.1];exact h.bump,by rw [dm.2.2.2.1];exact h.lim,dm.2.2.2.2.trans h.bad,dl hq,fun hf=>by
  obtain ⟨Z,hZ,_⟩:=t2.R
  have hP:q.1.xg≤S.xg:=Dz dm.2.2.2.1 (by rw [rN (fun n=>by rw [ed];exact ⟨rfl,rfl⟩) (by rw [t2.list])];have :=GJ hZ;omega)
  have :=h.UT hf
  omega⟩,d2 hq⟩,fun hq=>⟨d1,t4,t2.Tt h.kn,DY,t2.vars.trans h.vars,by rw [dm.2.1];omega,by rw [t2.list];omega,by rw [dm2.1];exact h.bump,by rw [dm.2.2.2.1];exact h.lim,e1.core,?_⟩⟩
 rcases t1 with h0 |h0 |h0
 ·exact absurd h0 hq
 ·exact .inr (.inl ⟨h0,t5 h0,(dm2.2.2 (by omega)).trans h.core,dm.2.2.2.2.trans h.bad⟩)
 ·exact .inr (.inr ⟨h0,(dm2.2.1 h0).trans h.has, .inl (t6 h0)⟩)
end Sv
namespace Sv
variable {few:Prop} {W:List (List Int)}
theorem zR {red:Bool} {budget:Int} {us:List Int} {D:Nat}:∀(Q Q':Sv→Int→Prop),(∀S r,Q S r→Q' S r)→∀c next n S,eJ red budget us Q D c next n S→eJ red budget us Q' D c next n S:=by
 intro Q Q' hQ c
 induction c with
 |zero=>intro next n S h;exact h
 |succ c ih=>
  intro next n S hh
  rw [eJ] at hh⊢
  revert hh
  generalize hK:eJ red budget us Q D c=K
  generalize hK':eJ red budget us Q' D c=K'
  rw [hK,hK'] at ih
  clear hK hK'
  generalize D=d
  induction d generalizing next n S with
  |zero=>exact fun h=>h
  |succ d ihd=>
   intro hh
   rw [ib] at hh⊢
   obtain ⟨m1,m2,m3,m4⟩:=hh
   refine ⟨m1,m2,m3,?_⟩
   cases hf:S.follow.2 with
   |some cc=>
    rw [hf] at m4
    simp only at m4⊢
    revert m4
    cases S.follow.1.cE.conflict cc with
    |none=>exact fun h=>h
    |some q=>
     obtain ⟨S2,b⟩:=q
     cases b with
     |false=>exact hQ _ _
     |true=>
      show (if _ then _ else _)→(if _ then _ else _)
      split
      ·exact hQ _ _
      ·exact ih _ _ _
   |none=>
    rw [hf] at m4
    simp only at m4⊢
    unfold yB at m4⊢
    have TG:∀S3:Sv,(if (S3.aS us).2=0 then ib red budget us Q K d (if next ≤n then n+64 else next) n (S3.aS us).1 else Q (S3.aS us).1 (S3.aS us).2)→(if (S3.aS us).2=0 then ib red budget us Q' K' d (if next ≤n then n+64 else next) n (S3.aS us).1 else Q' (S3.aS us).1 (S3.aS us).2):=by
     intro S3
     split
     ·exact ihd _ _ _
     ·exact hQ _ _
    by_cases pn:((S.follow.1.de n next).bP:Int)<(S.follow.1.de n next).many
    ·rw [if_pos pn] at m4⊢
     by_cases Cv:red=true
     ·rw [if_pos Cv] at m4⊢
      exact fun S' uJ=>TG _ (m4 S' uJ)
     ·rw [if_neg Cv] at m4
      exact absurd m4 id
    ·rw [if_neg pn] at m4
     rw [if_neg pn]
     exact TG _ m4
theorem Qu {us:List Int} {F:(Nat→Bool)→Prop} {vars U V c n:Nat} {budget:Int} {K:Nat→Nat→Sv→Prop} (ov:few→UC W vars) (hu:∀y∈us,y≠0∧ -(vars:Int)≤y∧y≤vars) (hU:U≤2199023255000) (hV:V≤1200000000000) (xS:us.length≤1099511627776) (hn:n<2199023255000) (rR:n+(c+1)=budget.toNat+2)
  (hK:∀next S,Gx few W us F vars U V c c S→next ≤n+64→¬budget<((n+1:Nat):Int)→K next (n+1) S):
  ∀(d next :Nat) (S:Sv),Gx few W us F vars U V (c+1) (c+1) S→next ≤n+64→mu S next n<d→ib true budget us (Tx few W us F vars U V) K d next n S:=by
 intro d
 induction d with
 |zero=>
  intro next S h hx hm
  exact absurd hm (aI _)
 |succ d ih=>
  intro next S h hx hm
  rw [ib]
  refine ⟨h.small hU hV xS,by omega,by omega,?_⟩
  obtain ⟨f1,f2,f3,f4⟩:=tt h.inv
  have g:=h.follow
  have N0:S.T.lits.length≤S.follow.1.T.lits.length:=by
   obtain ⟨Z,hZ,_⟩:=f2.pre
   rw [←iT,←iT,hZ]
   simp
  generalize S.follow=q at *
  obtain ⟨SF,o⟩:=q
  simp only at f1 f2 f3 f4 g N0⊢
  have hSv:=h.vars
  have hgv:=g.vars
  cases o with
  |some m=>
   simp only
   obtain ⟨k1,k2⟩:=f4 m rfl
   by_cases hd:SF.T.levels.length=0
   ·obtain ⟨z1,z2⟩:=g.UF k1 k2 hd
    rw [z1]
    exact z2
   ·obtain ⟨S2,c1,c2⟩:=g.conflict ov hV k1 k2 (by omega)
    rw [c1]
    show if budget<((n+1:Nat):Int) then _ else K next (n+1) S2
    by_cases hb:budget<((n+1:Nat):Int)
    ·rw [if_pos hb]
     exact c2.stop (by omega)
    ·rw [if_neg hb]
     exact hK next S2 c2 hx hb
  |none=>
   simp only
   obtain ⟨r1,r2⟩:=BT f1 (f3 rfl) n next
   have LQ:Gx few W us F vars U V (c+1) (c+1) (SF.de n next):=by
    unfold Sv.de
    split
    ·exact g.back 0
    ·exact g
   have xV:¬next ≤n→(SF.de n next).T.lits.length=SF.T.lits.length:=fun y9=>by
    unfold Sv.de
    rw [if_neg y9]
   generalize SF.de n next =SR at *
   have fin:∀S3:Sv,Gx few W us F vars U V (c+1) (c+1) S3→S3.T=SR.T→S3.head=SR.head→(if (S3.aS us).2=0 then ib true budget us (Tx few W us F vars U V) K d (if next ≤n then n+64 else next) n (S3.aS us).1 else Tx few W us F vars U V (S3.aS us).1 (S3.aS us).2):=by
    intro S3 t1 t4 t5
    obtain ⟨e1,e2⟩:=t1.decide (by rw [t5,r2,t4]) hu
    generalize S3.aS us=p at *
    by_cases hq:p.2=0
    ·rw [if_pos hq]
     obtain ⟨e3,e5⟩:=e1 hq
     have jM:=uC e3.inv.ok
     have lK:=e3.vars
     refine ih _ p.1 e3 (by split<;>omega) ?_
     rw [t4] at e5
     unfold mu at hm⊢
     by_cases Fg:next ≤n
     ·rw [if_pos Fg] at hm⊢
      rw [if_neg (by omega)]
      omega
     ·rw [if_neg Fg] at hm⊢
      rw [if_neg Fg]
      have :=xV Fg
      omega
    ·rw [if_neg hq]
     exact e2 hq
   unfold yB
   by_cases pn:(SR.bP:Int)<SR.many
   ·rw [if_pos pn,if_pos rfl]
    intro S' Fe
    obtain ⟨w1,w3,w4⟩:=LQ.red ov pn Fe
    exact fin S'.fy w1 w3 w4
   ·rw [if_neg pn]
    exact fin SR LQ rfl rfl
theorem MB {us:List Int} {F:(Nat→Bool)→Prop} {vars U V D:Nat} {budget:Int} (ov:few→UC W vars) (hD:2*vars+3≤D) (hu:∀y∈us,y≠0∧ -(vars:Int)≤y∧y≤vars) (hU:U≤2199023255000) (hV:V≤1200000000000) (xS:us.length≤1099511627776):
  ∀(c next n:Nat) (S:Sv),Gx few W us F vars U V c c S→next ≤n+64→n+c<2199023255000→(n:Int)≤budget→n+c=budget.toNat+2→eJ true budget us (Tx few W us F vars U V) D c next n S:=by
 intro c
 induction c with
 |zero=>
  intro next n S h hx hc h1 h2
  omega
 |succ c ih=>
  intro next n S h hx hc h1 h2
  rw [eJ]
  refine Qu (c:=c) ov hu hU hV xS (by omega) (by omega) (fun nx S2 k1 k2 k3=>ih nx (n+1) S2 k1 (by omega) (by omega) (by omega) (by omega)) D next S h hx ?_
  have :=h.vars
  unfold mu
  split<;>omega
structure iq (few:Prop) (W:List (List Int)) (F:(Nat→Bool)→Prop) (vars U V:Nat) (S:Sv):Prop where
 inv:S.Inv
 cj:S.T.levels.length=0
 hc:S.Hc
 kn:S.cJ F
 iz:S.pT few W
 vars:S.vars=vars
 used:S.used≤U
 list:S.list.length≤V
 bump:S.bump≤1073741824
 lim:S.bP≤401+V+V/16
theorem iq.go {F:(Nat→Bool)→Prop} {vars U V:Nat} {S:Sv} (h:iq few W F vars U V S) (hb:S.bad=false) (us:List Int) (c:Nat) (hp:few→69793746954≤c):Gx few W us F vars (U+1+c) (V+c) c c S.bw.cE:=
 ⟨h.inv.bw.cE,⟨h.hc.all,h.hc.pos⟩,h.kn.bw.cE,fun i h1=>by
   have h1:i<S.T.levels.length:=h1
   have :=h.cj;omega,fun e he h0 h1 h2=>by
   have :=(fm h.inv.ok (show e∈S.R from he)).2.2.2
   have :=h.cj
   omega,h.iz.same (fun n=>⟨rfl,rfl⟩) rfl rfl (fun _ h=>h),h.vars,rfl,rfl,by have :=h.used;show S.used+1+c≤_;omega,by have :=h.list;show S.list.length+c≤_;omega,h.bump,by have :=h.lim;show S.bP≤_;omega,hb,
   ⟨fun i hi=>by
    have hi:i<S.T.levels.length:=hi
    have :=h.cj;omega,by show ((S.T.levels.length:Nat):Int)≤_;rw [h.cj];omega⟩,fun hf=>by have :=hp hf;have :=WM S;show S.xg+10≤c;omega⟩
def Th (few:Prop) (us:List Int) (F:(Nat→Bool)→Prop) (vars:Nat) (S:Sv) (r:Int):Prop:=(r=0∧S.has=false∧¬few)∨Ans us F vars S r
theorem Tx.done {us:List Int} {F:(Nat→Bool)→Prop} {vars U V:Nat} {S:Sv} {r:Int} (h:Tx few W us F vars U V S r):iq few W F vars U V (S.back 0)∧Th few us F vars (S.back 0) r:=by
 have ok:=h.inv.ok
 have hb:=jk S 0
 have hk:=ok.back 0
 have hh:=wX S 0
 have ed:∀n,((S.back 0).rc n).lits=(S.rc n).lits∧((S.back 0).rc n).iY=(S.rc n).iY:=fun n=>by rw [jn hk.2.2];exact ⟨rfl,rfl⟩
 have Fl:(S.back 0).T.levels.length=0:=by
  by_cases hl:0<S.T.levels.length
  ·exact (fj ok hl).2.2.1
  ·have :S.back 0=S:=by
    unfold Sv.back
    rw [if_pos (by omega)]
   rw [this]
   omega
 refine ⟨⟨h.inv.back 0,Fl,h.hc.back ok 0,h.kn.back h.inv 0,h.iz.same ed (by rw [hk.2.2]) hb.2.2.1 (fun _ h=>F0.back ok 0 h),hk.2.1.trans h.vars,by rw [hb.2.1];exact h.used,by rw [hk.2.2];exact h.list,by rw [hb.2.2.2.2.2.2];exact h.bump,by rw [hb.2.2.2.1];exact h.lim⟩,?_⟩
 unfold Th Ans
 rw [hh.1,hh.2,hb.1]
 rcases h.ans with h0 |⟨r1,o,c0,nb⟩ |⟨r2,n0,ht⟩
 ·exact .inl h0
 ·refine .inr (.inl ⟨r1,o.has,c0,by rw [o.model,←h.vars];simp,fun a ha=> ?_⟩)
  have hm:=MU h.inv o.full o.set a (fun v v1 v2=>by
   rw [ha v v1 (by rw [←h.vars];exact v2),o.model]
   simp only [aa,aO,List.getElem?_range (show v<S.vars+1 by omega),cu,ay])
  refine ⟨h.kn.full nb a ⟨fun n _ hn=>hm.2 n hn,fun e he _=>hm.1 e he⟩,fun u hu=> ?_⟩
  obtain ⟨e,he,hx⟩:=o.us u hu
  rw [←hx]
  exact hm.1 e he
 ·refine .inr (.inr ⟨r2,n0,?_⟩)
  rcases ht with ht |⟨ht,oq⟩
  ·exact ⟨fun a ha=>ht.no a (h.kn.sound a ha),ht.sub,ht.ord⟩
  ·rw [ht]
   exact ⟨fun a ha=>absurd ha (oq a),(fun u hu=>by cases hu),List.Pairwise.nil⟩
def aij (few:Prop) (W:List (List Int)) (us:List Int) (F:(Nat→Bool)→Prop) (vars U V:Nat) (S:Sv) (r:Int):Prop:=iq few W F vars U V S∧Th few us F vars S r
theorem Qq {us:List Int} {F:(Nat→Bool)→Prop} {vars U V:Nat} {S:Sv} (h:iq few W F vars U V S) (ov:few→UC W vars) (hU:U≤1000000000000) (hV:V≤8388608) (hu:∀y∈us,y≠0∧ -(vars:Int)≤y∧y≤vars) (xS:us.length≤1099511627776):
  S.lE true 1099511627776 us (2*S.vars+3) 1099511627778 (aij few W us F vars (U+1+1099511627778) (V+1099511627778)):=by
 have nF:=h.inv.ok.vl
 have Vd:=h.vars
 unfold lE
 have ho:us.any (iw S.vars)=false:=by
  cases h4:us.any (iw S.vars) with
  |false=>rfl
  |true=>
   obtain ⟨x,hx,h5⟩:=bI.1 h4
   obtain ⟨y0,y1,y2⟩:=hu x hx
   rw [←Vd] at y1 y2
   rw [EC nF y0 y1 y2] at h5
   cases h5
 have hd:(decide ((1099511627776:Int)<1) ||us.any (iw S.vars))=false:=by rw [ho];rfl
 rw [hd,if_neg (by decide)]
 by_cases hb:S.bad=true
 ·rw [if_pos hb]
  exact ⟨⟨h.inv.bw.cE,h.cj,⟨h.hc.all,h.hc.pos⟩,h.kn.bw.cE,h.iz.same (fun n=>⟨rfl,rfl⟩) rfl rfl (fun _ h=>h),h.vars,by have :=h.used;show S.used+1≤_;omega,by have :=h.list;show S.list.length≤_;omega,h.bump,by have :=h.lim;show S.bP≤_;omega⟩, .inr (.inr ⟨rfl,rfl,fun a ha=>absurd ha (h.kn.bad hb a),(fun u hu=>by cases hu),List.Pairwise.nil⟩)⟩
 ·rw [if_neg hb]
  have hb:S.bad=false:=by simpa using hb
  have hg:=h.go hb us 1099511627778 (fun _=>by decide)
  have hs:=MB (budget:=1099511627776) (D:=2*S.vars+3) ov (by omega) hu (by omega:U+1+1099511627778≤2199023255000) (by omega:V+1099511627778≤1200000000000) xS 1099511627778 64 0 S.bw.cE hg (by omega) (by omega) (by omega) (by decide)
  exact zR _ _ (fun S' r k2=>k2.done) _ _ _ _ hs
end Sv
theorem vh:∀(n:Nat) (v:Int) (H:Hp),HI H→1≤v→v+n≤H.at_.length→(∀y∈H.items,y∈(Sv.ie n v H).items)∧(∀x:Int,v≤x→x<v+n→x∈(Sv.ie n v H).items)∧∀y∈(Sv.ie n v H).items,y∈H.items∨v≤y
 |0,v,H,h,h1,h2=>⟨fun y hy=>hy,fun x h3 h4=>by omega,fun y hy=> .inl hy⟩
 |n+1,v,H,h,h1,h2=>by
  have hk:=h.ff v
  obtain ⟨g1,g2,g3⟩:=vh n (v+1) (Sv.ff H v) hk.1 (by omega) (by rw [hk.2];omega)
  rw [Sv.ie]
  refine ⟨fun y hy=>g1 y (sU h v hy),fun x h3 h4=> ?_,fun y hy=> ?_⟩
  ·by_cases e:x=v
   ·rw [e]
    exact g1 v (BW h (by omega) (by omega))
   ·exact g2 x (by omega) (by omega)
  ·rcases g3 y hy with h5 |h5
   ·rcases yJ h v y h5 with h6 |h6
    ·exact .inl h6
    ·exact .inr (by omega)
   ·exact .inr (by omega)
namespace Sv
theorem WK {S:Sv} (ok:S.Ok 0) (n:Nat) (hb:S.vars+n≤262143):(S.grow n).R=S.R∧(S.grow n).T.levels.length=S.T.levels.length:=by
 have h:=ok.rep.grow n (by omega)
 exact ⟨Su (S:=S.grow n) h,h.dep⟩
theorem Mn {S:Sv} (ok:S.Ok 0) (n:Nat) (hb:S.vars+n≤262143) (x:Int):(S.grow n).val x=S.val x:=by
 have h1:=(ok.grow n hb).rep
 have h2:=ok.rep
 rw [(WK ok n hb).1] at h1
 unfold val
 rw [h1.kQ,h2.kQ]
theorem Hc.grow {S:Sv} (h:S.Hc) (ok:S.Ok 0) (n:Nat) (hb:S.vars+n≤262143):(S.grow n).Hc:=by
 have hg:HI (S.H.dS n)∧(S.H.dS n).at_.length=S.vars+n+1:=by
  rw [o4 ok.hl hb]
  refine ⟨ok.hi.grow n,?_⟩
  have :=ok.hl
  simp only [Hp.growBy,ai,bh]
  omega
 have hit:(S.H.dS n).items=S.H.items:=by rw [o4 ok.hl hb];rfl
 obtain ⟨g1,g2,g3⟩:=vh n ((S.vars:Int)+1) (S.H.dS n) hg.1 (by omega) (by rw [hg.2];omega)
 rw [hit] at g1 g3
 refine ⟨fun v h1 h2 h3=> ?_,fun x hx=> ?_⟩
 ·rw [Mn ok n hb] at h3
  have h2:v≤((S.vars+n:Nat):Int):=h2
  by_cases e:v≤S.vars
  ·exact g1 v (h.all v h1 e h3)
  ·exact g2 v (by omega) (by omega)
 ·rcases g3 x hx with h4 |h4
  ·exact h.pos x h4
  ·omega
variable {few:Prop} {W:List (List Int)}
theorem cJ.iff {S:Sv} {F G:(Nat→Bool)→Prop} (h:S.cJ F) (hi:∀a,F a↔G a):S.cJ G:=
 ⟨fun a ha=>h.sound a ((hi a).2 ha),fun hb a ha=>h.bad hb a ((hi a).2 ha),fun hb a ha=>(hi a).1 (h.full hb a ha)⟩
theorem iq.iff {S:Sv} {F G:(Nat→Bool)→Prop} {vars U V:Nat} (h:iq few W F vars U V S) (hi:∀a,F a↔G a):iq few W G vars U V S:=
 ⟨h.inv,h.cj,h.hc,h.kn.iff hi,h.iz,h.vars,h.used,h.list,h.bump,h.lim⟩
theorem iq.new (V:Nat) (hV:V≤262143):iq few W (fun _=>True) V 0 0 (Sv.new (V:Int)):=by
 obtain ⟨i1,i2,i3,i4,i5,i6,i7⟩:=Inv.new (V:Int)
 have hv:=(Sv.Ok.new (V:Int)).2
 have QX:(Sv.new (V:Int)).vars=V:=by rw [hv];omega
 have hR:(Sv.new (V:Int)).R=[]:=rfl
 have ed:∀n,(Sv.new (V:Int)).rc n=⟨[],false,0⟩:=fun n=>mL (bH _)
 have J2:(Sv.new (V:Int)).LL=[]:=rfl
 have LE:bare.Ok 0:=by
  have :=(Sv.Ok.new 0).1
  exact this
 have mR:bare.Hc:=⟨fun v h1 h2=>by
  have h2:v≤((0:Nat):Int):=h2
  omega,fun x hx=>by cases hx⟩
 refine ⟨i1,i2,mR.grow LE _ (by show 0+_≤_;omega),cJ.new _,⟨by rw [i3,J2];rfl,fun _=>⟨fun _ _=>False,(fun n hn=>absurd (show ((Sv.new (V:Int)).rc n).lits=[] by rw [ed]) hn),(fun n x hx=>by rw [ed] at hx;cases hx),(fun n hn x hx=>hx.elim),(fun n _ x hx=>hx.elim),(fun n m h1=>by
  rw [jw,ed] at h1
  exact absurd h1.1 (by simp))⟩⟩,QX,by rw [i6];omega,by rw [i5];exact au _,by rw [i7];decide,by rw [i4];decide⟩
def acC (W:List (List Int)) (S:Sv) (l:List Int):Prop:=∃A,yt W A∧(∀x∈l,A x)∧∀x,A x→x∈l∨S.F0 x
theorem pT.attach {S:Sv} (h:S.pT few W) (hi:S.Inv) {l:List Int} (hf:S.Fits l) (hd:(l.map tv).Nodup) (hr:S.list.length<2199023255552) (Rv:few→acC W S l):(S.attach l false).pT few W∧(S.attach l false).LL=S.LL:=by
 obtain ⟨k1,k2,k3⟩:=hi.attach hf hd false hr
 have hlen:(S.attach l false).list.length=S.list.length+1:=(ch S l false).2.2.1
 have hR:(S.attach l false).R=S.R:=dp (ch S l false).1
 have pG:∀n,n≠S.list.length→(S.attach l false).eQ n=S.eQ n:=fun n hn=>by unfold eQ;rw [k3 n hn]
 have jf:(S.attach l false).eQ S.list.length=false:=by unfold eQ;rw [k2];rfl
 have J2:(S.attach l false).LL=S.LL:=by
  unfold LL
  rw [hlen,List.range_succ,List.filter_append,List.filter_cons,jf,List.filter_nil]
  simp only [dt,if_false,bU]
  refine List.filter_congr fun n hn=>pG n ?_
  have :=df.1 hn
  omega
 refine ⟨⟨by rw [J2];exact h.many,fun hf=> ?_⟩,J2⟩
 obtain ⟨g,h1,h2,h3,h4,h5⟩:=h.gs hf
 obtain ⟨A,a1,a2,a3⟩:=Rv hf
 refine ⟨fun n=>if n=S.list.length then A else g n,fun n hn=> ?_,fun n x hx=> ?_,fun n hn x hx=> ?_,fun n hn=> ?_,fun n m hn hm he=> ?_⟩
 ·by_cases en:n=S.list.length
  ·simp only [en,if_true]
   exact a1
  ·simp only [en,if_false]
   rw [k3 n en] at hn
   exact h1 n hn
 ·by_cases en:n=S.list.length
  ·simp only [en,if_true]
   rw [en,k2] at hx
   exact a2 x hx
  ·simp only [en,if_false]
   rw [k3 n en] at hx
   exact h2 n x hx
 ·by_cases en:n=S.list.length
  ·simp only [en,if_true] at hx
   rw [en,k2]
   exact (a3 x hx).imp id (F0.of_eq hR)
  ·simp only [en,if_false] at hx
   rw [k3 n en] at hn⊢
   exact (h3 n hn x hx).imp id (F0.of_eq hR)
 ·have en:n≠S.list.length:=fun e=>by rw [e,jf] at hn;cases hn
  simp only [en,if_false]
  rw [pG n en] at hn
  exact h4 n hn
 ·have en:n≠S.list.length:=fun e=>by rw [e,jf] at hn;cases hn
  have em:m≠S.list.length:=fun e=>by rw [e,jf] at hm;cases hm
  simp only [en,em,if_false] at he
  rw [pG n en] at hn
  rw [pG m em] at hm
  exact h5 n m hn hm he
structure AdS (few:Prop) (W:List (List Int)) (S S':Sv):Prop where
 H:S'.H=S.H
 R:∃Z,S'.R=S.R++Z
 LL:S'.LL=S.LL
 iz:S'.pT few W
theorem AdS.YI {S:Sv} (h:S.pT few W):AdS few W S S.bw:=⟨rfl,⟨[],by rw [bU];rfl⟩,rfl,h.same (fun n=>⟨rfl,rfl⟩) rfl rfl fun _ h=>h⟩
theorem F9 {S:Sv} (h:S.Inv) (hc:S.pT few W) {out:List Int} (h1:out.length≤1048576) (hl:∀x∈out,x≠0∧ -(S.vars:Int)≤x∧x≤S.vars) (hd:(out.map tv).Nodup) (Rv:few→acC W S out) (hv:∀x∈out,S.val x=0) (hr:S.list.length<2199023255552):AdS few W S (S.ge out):=by
 unfold Sv.ge
 by_cases e0:out.length=0
 ·rw [if_pos e0]
  exact ⟨rfl,⟨[],by rw [bU];rfl⟩,rfl,hc.same (fun n=>⟨rfl,rfl⟩) rfl rfl fun _ h=>h⟩
 ·rw [if_neg e0]
  have hm:=get_mem (l:=out) (i:=0) (by omega)
  by_cases e1:out.length=1
  ·rw [if_pos e1]
   have ht:=pw (hl _ hm).1 (hl _ hm).2.1 (hl _ hm).2.2 h.ok.vl
   have hR:=ng (r:=0) h.ok (iH h.ok ht.1 ht.2 (hv _ hm))
   exact ⟨rfl,⟨_,hR⟩,rfl,hc.same (fun n=>⟨rfl,rfl⟩) rfl rfl fun _ h=>F0.app hR h⟩
  ·rw [if_neg e1]
   obtain ⟨k1,k2⟩:=hc.attach h ⟨by omega,h1,hl⟩ hd hr Rv
   have hs:=ch S out false
   exact ⟨hs.2.2.2.2.2,⟨[],by rw [bU];exact dp hs.1⟩,k2,k1⟩
theorem Ku {S:Sv} (h:S.Inv) (h0:S.T.levels.length=0) (hc:S.pT few W) {l:List Int} (lM:Ra l) (hr:S.list.length<2199023255552) (D0:fK S.vars l=0) (Rv:few→l∈W):AdS few W S (S.fl l).1:=by
 unfold Sv.fl
 rw [if_pos D0]
 by_cases hs:S.lX (nrm l)=true
 ·rw [if_pos hs]
  exact AdS.YI hc
 ·rw [if_neg hs]
  obtain ⟨h1,h2⟩:=ol (S:=S) lM D0
  have hs:S.lX (nrm l)=false:=by simpa using hs
  unfold lX at hs
  rw [dL] at hs
  have sJ:=o6 lM D0
  have hd:=vn (l:=l) (v:=S.vars) (fun x hx=>(sJ.2 x (lp hx).1).2) h.ok.vl hs.1
  have k:=F9 (S:=S.bw) h.bw (hc.same (fun n=>⟨rfl,rfl⟩) rfl rfl fun _ h=>h) (out:=S.leftOf (nrm l)) (by omega) h2 (by
   unfold leftOf
   exact hd.sublist (List.Sublist.map tv (List.filter_sublist))) (fun hf=>⟨fun x=>x∈l, .leaf (Rv hf),fun x hx=>by
   unfold leftOf at hx
   exact (lp (cq.1 hx).1).1,fun x hx=>by
   have hn:=G9 hx (sJ.2 x hx).1
   by_cases h3:S.val x<0
   ·obtain ⟨e,he,h4⟩:=(val_neg h.ok).1 h3
    have :=fm h.ok he
    exact .inr ⟨e,he,by omega,h4⟩
   ·left
    unfold leftOf
    exact cq.2 ⟨hn,by simpa using h3⟩⟩) (fun x hx=>by
   unfold leftOf at hx
   rw [cq] at hx
   have h3:¬S.val x<0:=by simpa using hx.2
   have h4:¬0<S.val x:=fun h5=>by
    have :(nrm l).any (fun x=>decide (0<S.val x))=true:=bI.2 ⟨x,hx.1,by simpa using h5⟩
    rw [this] at hs
    cases hs.2
   show S.val x=0
   omega) hr
  exact ⟨k.H,k.R,k.LL,k.iz⟩
theorem iq.fl {S:Sv} {F:(Nat→Bool)→Prop} {vars U V:Nat} (h:iq few W F vars U V S) {l:List Int} (lM:Ra l) (hr:S.list.length<2199023255552) (D0:fK S.vars l=0) (Rv:few→l∈W):iq few W (fun a=>F a∧kV a l) vars U (V+1) (S.fl l).1:=by
 obtain ⟨k1,k2⟩:=h.inv.fl h.cj lM hr
 obtain ⟨m1,m2,m3,m4,m5⟩:=zn S l
 have hv:=(h.inv.ok.fl lM hr).2
 have hs:=Ku h.inv h.cj h.iz lM hr D0 Rv
 obtain ⟨Z,hZ⟩:=hs.R
 have h2:=h.list
 have h3:=h.lim
 exact ⟨k1,k2,h.hc.mono h.inv.ok k1.ok hv (fun y=>by rw [hs.H]) (fun e he=>by rw [hZ];exact ak _ he),h.kn.fl h.inv h.cj lM hr D0,hs.iz,hv.trans h.vars,by rw [m1];exact h.used,by omega,by rw [m2];exact h.bump,by rw [m4];omega⟩
end Sv
theorem adV (W:World) (g:Nat) (A:Option Addr) (n c:Nat) (hc:W.cell? ⟨g,2,none⟩=some (.slice A n c)) (C:Pc) (hn:n=C.bi.length) (h:Ls) (hk:uh W h):
  Calls Tryz.prog 23 #[h.val, .pointer (some ⟨g,0,none⟩)] W fun e w'=>e= .returned (.bool (yA C h.l))∧Fr [] W w':=by
 subst hn
 obtain ⟨B,d,l⟩:=h
 have KL:=ae (gX W (C.bi.length:Int) B d l hk.1 hk.2.1)
 show Calls Tryz.prog 23 #[.slice B l.length d, .pointer (some ⟨g,0,none⟩)] W fun e w'=>e= .returned (.bool (yA C l))∧Fr [] W w'
 obtain ⟨k,VX⟩:∃k,fK (C.bi.length:Int) l=k:=⟨_,rfl⟩
 rw [VX] at KL
 have hu:yA C l=(k !=0):=by unfold yA;rw [VX];rfl
 rw [hu]
 clear hk VX hu
 go_enter Tryz.func23,Tryz.ntmps23
 go_wp2_with fail
 refine KL.o.mono ?_
 rintro e w2 ⟨rfl,hf⟩
 have HF:=ae hf
 clear hf
 go_wp2
 go_ret
 exact ⟨rfl,HF.o⟩
theorem C4:∀args w,(callFunc 23 args).run Tryz.prog w= .ok (.enter 23 args) w:=enters_of Tryz.func23 (by kernel_rfl) rfl
noncomputable def dz (q:Qn) (l:List (List Int)):Int:=
 if ¬uY q=0 then uY q else if 1024<(l.length:Int) then 3 else if (l.any (yA q.C))=true then 23 else 0
theorem Bq.UO (w:World) (H:Qh) (q:Qn):Fr [] w (w.alloc (.cells (jR H q) 30))∧At (w.alloc (.cells (jR H q) 30)) w.heap.size 30 (jR H q):=⟨aN _ _,At.new w _ _⟩
theorem rC (w:World) (H:Qh) (q:Qn) (h:m8 w H q) (A:Option Addr) (c:Nat) (hs:List Ls) (hr:iS w A hs) (hl:hs.length≤17592186044416):
  Calls Tryz.prog 11 #[jv H q, .slice A hs.length c] w fun e w'=>e= .returned (.int .i64 (dz q (hs.map (·.l))))∧Fr [] w w':=by
 obtain ⟨w1,dO⟩:∃W,w.alloc (.cells (jR H q) 30)=W:=⟨_,rfl⟩
 have hb:=Bq.UO w H q
 rw [dO] at hb
 have dy:=ae hb.1
 have lQ:=ae hb.2
 have KU:=ae (zx w1 H q (h.keep hb.1))
 have KC:al (∀W,Fr [] w1 W→Calls Tryz.prog 22 #[.slice A hs.length c, .func (.func 23) #[] #[.pointer (some ⟨w.heap.size,0,none⟩)]] W fun e w'=>e= .returned (.bool (hs.any fun h=>yA q.C h.l))∧Fr [] W w'):=
  fun W hW=>kK W A c hs 23 #[.pointer (some ⟨w.heap.size,0,none⟩)] (yA q.C) C4 ((hr.keep dy.o).keep hW) hl (fun W' Oj h _ ok=>adV W' _ H.H.lA q.C.bi.length H.H.lC ((hW.aj Oj).aT (by rw [hb.2.cell];rfl)) q.C rfl h ok)
 obtain ⟨r,XQ⟩:∃r,dz q (hs.map (·.l))=r:=⟨_,rfl⟩
 rw [XQ]
 obtain ⟨u,hu⟩:∃u,uY q=u:=⟨_,rfl⟩
 obtain ⟨t,ht⟩:∃t,(hs.any fun h=>yA q.C h.l)=t:=⟨_,rfl⟩
 have HR:al (r=if ¬u=0 then u else if 1024<(hs.length:Int) then 3 else if t=true then 23 else 0):=by
  show _=_
  rw [←XQ]
  unfold dz
  rw [hu,aq,List.any_map,←ht]
  rfl
 rw [hu] at KU
 rw [ht] at KC
 clear XQ hu ht hb
 obtain ⟨⟨mx,ins,bi,outs,a8,aZ,aG,b8⟩,am,ls,ks,bad,dep,xG⟩:=q
 obtain ⟨⟨iA,iC,lA,lC,oA,oC,bA,bC,vA,vC,gA,gC,nA,nC⟩,aA,aC,mA,mC,kA,kC⟩:=H
 simp only [jv,jR] at *
 have q0:=lQ.o.cell 0
 have q1:=lQ.o.cell 1
 have q2:=lQ.o.cell 2
 have q3:=lQ.o.cell 3
 have q4:=lQ.o.cell 4
 have q5:=lQ.o.cell 5
 have q6:=lQ.o.cell 6
 have q7:=lQ.o.cell 7
 have q8:=lQ.o.cell 8
 have q9:=lQ.o.cell 9
 have jo:=lQ.o.cell 10
 have jI:=lQ.o.cell 11
 have jH:=lQ.o.cell 12
 have jG:=lQ.o.cell 13
 simp at q0 q1 q2 q3 q4 q5 q6 q7 q8 q9 jo jI jH jG
 clear h hr
 go_enter Tryz.func11,Tryz.ntmps11
 go_wp2_with fail
 refine KU.o.mono ?_
 clear KU q0 q1 q2 q3 q4 q5 q6 q7 q8 q9 jo jI jH jG dO
 rintro e w3 ⟨rfl,dD⟩
 have cZ:=ae dD
 have qs:=ae (dy.o.aj dD)
 clear dD
 by_cases h0:u=0
 ·subst h0
  have uj:al (r=if 1024<(hs.length:Int) then 3 else if t=true then 23 else 0):=by have :=HR.o;rw [if_neg (by simp)] at this;exact this
  clear HR
  by_cases h1:1024<(hs.length:Int)
  ·have d1:decide (1024<(hs.length:Int))=true:=decide_eq_true h1
   have kd:r=3:=by have :=uj.o;rw [if_pos h1] at this;exact this
   subst kd
   clear h1
   go_wp2
   go_ret
   exact ⟨rfl,qs.o⟩
  ·have d1:decide (1024<(hs.length:Int))=false:=decide_eq_false h1
   have Qb:al (r=if t=true then 23 else 0):=by have :=uj.o;rw [if_neg h1] at this;exact this
   have Uj:=ae (KC.o w3 cZ.o)
   clear h1 uj KC
   go_wp2_with fail
   refine Uj.o.mono ?_
   rintro e w4 ⟨rfl,eW⟩
   have fM:=ae (qs.o.aj eW)
   clear eW
   cases t with
   |true=>
    have kd:r=23:=Qb.o
    subst kd
    go_wp2
    go_ret
    exact ⟨rfl,fM.o⟩
   |false=>
    have kd:r=0:=Qb.o
    subst kd
    go_wp2
    go_ret
    exact ⟨rfl,fM.o⟩
 ·have d0:(u==(0:Int))=false:=by simp [h0]
  have kd:r=u:=by have :=HR.o;rw [if_pos h0] at this;exact this
  subst kd
  clear h0
  go_wp2
  go_ret
  exact ⟨rfl,qs.o⟩
def pL (H:Qh) (q:Qn) (a:Nat):Array Value:=
 #[.int .i64 q.C.mx, .slice H.H.iA q.C.ins.length H.H.iC, .slice H.H.lA q.C.bi.length H.H.lC, .slice H.H.oA q.C.outs.length H.H.oC, .slice H.H.bA q.C.a8.length H.H.bC, .slice H.H.vA q.C.aZ.length H.H.vC, .slice H.H.gA q.C.aG.length H.H.gC, .slice H.H.nA q.C.b8.length H.H.nC,
  .slice H.aA q.am.length H.aC, .slice H.lA q.ls.length H.lC, .slice H.kA q.ks.length H.kC, .int .i64 q.bad, .int .i64 q.dep, .int .i64 q.xG, .pointer (some ⟨a,0,none⟩)]
theorem OK {w:World} {g a:Nat} {H:Qh} {q:Qn} (h:At w g 63 (pL H q a)):
  w.cell? ⟨g,0,none⟩=some (.int .i64 q.C.mx)∧w.cell? ⟨g,1,none⟩=some (.slice H.H.iA q.C.ins.length H.H.iC)∧w.cell? ⟨g,2,none⟩=some (.slice H.H.lA q.C.bi.length H.H.lC)∧w.cell? ⟨g,3,none⟩=some (.slice H.H.oA q.C.outs.length H.H.oC)∧
  w.cell? ⟨g,4,none⟩=some (.slice H.H.bA q.C.a8.length H.H.bC)∧w.cell? ⟨g,5,none⟩=some (.slice H.H.vA q.C.aZ.length H.H.vC)∧w.cell? ⟨g,6,none⟩=some (.slice H.H.gA q.C.aG.length H.H.gC)∧w.cell? ⟨g,7,none⟩=some (.slice H.H.nA q.C.b8.length H.H.nC)∧w.cell? ⟨g,14,none⟩=some (.pointer (some ⟨a,0,none⟩)):=by
 refine ⟨?_,?_,?_,?_,?_,?_,?_,?_,?_⟩<;>(rw [h.cell];rfl)
def fC (C:Pc) (l:List Int):Prop:=l.length≤1024∧∀n∈l,n≠0∧ -(C.bi.length:Int)≤n∧n≤C.bi.length
theorem FS (w:World) (g a:Nat) (H:Qh) (q:Qn) (hd:At w g 63 (pL H q a)) (h:iy w H.H q.C) (hv:Valid q.C) (f:Int) (hf:0≤f∧f≤80) (A:Option Addr) (c:Nat) (l:List Int) (hr:Rd w A l) (hl:fC q.C l):
  Calls Tryz.prog 28 #[.pointer (some ⟨g,0,none⟩), .slice A l.length c, .int .i64 f] w fun e w'=>∃A' c',e= .returned (.slice A' l.length c')∧Ints w' A' c' (l.map (iN q.C f))∧(∀k,k∈ap A'→w.heap.size≤k)∧Fr [] w w':=by
 have KL:=ae (fun W (hW:Fr [] w W) n hn=>zy W H.H q.C (h.keep hW) hv f hf n hn)
 have HDK:=ae hd
 have HH:=ae hr
 have HR:=ae hl.2
 have vQ:=hl.1
 have yq:=ae (fun n hn=>uD hv (f:=f) (n:=n) (by omega) hn)
 have lI:=hv.l
 have nv:al (Ra l):=(dW (p:=dY)).2 fun x hx=>by
  have :=hl.2 x hx
  exact ⟨by omega,by omega⟩
 clear hd h hv hr hl
 go_enter Tryz.func28,Tryz.ntmps28
 go_wp2_with fail
 go_loopg [7,12] l.length (fun gk x7 UH wr=>∃(k:Nat) (A':Option Addr) (c':Nat) (ys:List Int),k+gk=l.length∧x7= .slice A' ys.length c'∧UH= .int .i64 k∧al (Ints wr A' c' ys)∧al (ys=(l.take k).map (iN q.C f))∧al (∀k,k∈ap A'→w.heap.size≤k)∧al (Fr [] w wr))
 case atStart=>exact ⟨0,none,0,[],by omega,rfl,rfl,World.ownsRow_nil _ 0 _ 1,rfl,fun k hk=>by simp [ap] at hk,Fr.refl _ _⟩
 case round=>
  obtain ⟨k,A',c',ys,hk,rfl,rfl,HI,HY,HN,HF⟩:=hrel
  have HK:=ae hk
  have ly:k≤l.length:=by omega
  have hyl:ys.length≤k:=by
   rw [HY.o,aq,aV]
   omega
  clear hk
  by_cases bM:k<l.length
  ·obtain ⟨ab,o,x,hA,he,cx,ij,ix⟩:=(HH.o.keep HF.o).one nv.o bM
   subst hA
   have oI:=ae (qV (iN q.C f) bM)
   rw [he.o] at oI
   have xw:=HR.o x (by rw [←he.o];exact bu bM)
   have SD:=KL.o wr HF.o x xw
   have vI:=yq.o x xw
   obtain ⟨v,lK⟩:∃v,iN q.C f x=v:=⟨_,rfl⟩
   rw [lK] at SD vI oI
   have SD:=ae SD
   clear xw lK
   obtain ⟨d0,d1,d2,d3,d4,d5,d6,d7,d14⟩:=OK (HDK.o.keep HF.o)
   have nJ:al (eX H.H q.C= .agg #[.int .i64 q.C.mx, .slice H.H.iA q.C.ins.length H.H.iC, .slice H.H.lA q.C.bi.length H.H.lC, .slice H.H.oA q.C.outs.length H.H.oC, .slice H.H.bA q.C.a8.length H.H.bC, .slice H.H.vA q.C.aZ.length H.H.vC, .slice H.H.gA q.C.aG.length H.H.gC, .slice H.H.nA q.C.b8.length H.H.nC]):=(rfl :_=_)
   go_wp2_with fail
   rw [nJ.o] at SD
   refine SD.o.mono ?_
   rintro e w3 ⟨rfl,dD⟩
   have cZ:=ae dD
   clear dD SD d0 d1 d2 d3 d4 d5 d6 d7 d14
   obtain ⟨wb,eR⟩:∃W,w3.alloc (.cells #[.int .i64 v] 3)=W:=⟨_,rfl⟩
   have fE:al (Fr [] w3 wb):=eR▸aN _ _
   have j3:wb.cell? ⟨w3.heap.size,0,none⟩=some (.int .i64 v):=by
    rw [←eR]
    exact (At.new w3 3 #[.int .i64 v]).cell 0
   go_wp2_with (at_builtin;(refine cT _ rfl _ _ rfl A' c' ys ys.length rfl rfl (HI.o.fr (cZ.o.aj fE.o) (fun _ _ hm=>by cases hm)) ⟨w3.heap.size,0,none⟩ 1 v rfl j3 (by omega) ?_;intro g cap w4 fJ qe hg PW;have Pi:=ae fJ;have fM:al (Fr [] w w4):=((HF.o.aj cZ.o).aj fE.o).trans qe (fun x hx=> .inr (HN.o x hx));have Pw:al (w.heap.size≤g):=(by rcases hg with h1 |h1;(exact HN.o g h1);(have :=HF.o.size;have :=cZ.o.size;have :=fE.o.size;omega):w.heap.size≤g);clear j3 fJ qe hg PW))
   clear eR
   go_roundg (gk-1)
   case measure=>have :=HK.o;omega
   case rel=>exact ⟨k+1,some ⟨g,0,none⟩,cap,ys++[v],by have :=HK.o;omega,by simp,by go_num,Pi.o,(by rw [oI.o,HY.o]:ys++[v]=(l.take (k+1)).map (iN q.C f)),fun j hj=>by simp [ap] at hj;subst hj;exact Pw.o,fM.o⟩
  ·obtain rfl :k=l.length:=by omega
   have hy:ys=l.map (iN q.C f):=by rw [HY.o,eD]
   have Na:ys.length=l.length:=by rw [hy,aq]
   have HY2:=ae hy
   rw [Na]
   clear HK hy HY
   go_wp2
   go_ret
   exact ⟨A',c',rfl,by rw [←HY2.o];exact HI.o,HN.o,HF.o⟩
theorem sL (w:World) (g a:Nat) (H:Qh) (q:Qn) (hd:At w g 63 (pL H q a)) (h:iy w H.H q.C) (hv:Valid q.C) (f:Int) (hf:0≤f∧f≤80) (A:Option Addr) (c:Nat) (ls:List Ls) (hr:iS w A ls) (hl:∀x∈ls,fC q.C x.l) (hn:ls.length≤1024):
  Calls Tryz.prog 15 #[.pointer (some ⟨g,0,none⟩), .slice A ls.length c, .int .i64 f] w fun e w'=>∃A' c' hs,e= .returned (.slice A' hs.length c')∧NwLs w' w.heap.size A' c' hs∧hs.map (·.l)=(ls.map (·.l)).map (fun l=>l.map (iN q.C f))∧Fr [] w w':=by
 have KO:=ae (fun W (hW:Fr [] w W) A c l hr hl=>FS W g a H q (hd.keep hW) (h.keep hW) hv f hf A c l hr hl)
 have yq:=ae (fun n hn=>uD hv (f:=f) (n:=n) (by omega) hn)
 have HR:=ae hr
 have Xq:=ae hl
 clear hd h hv hr hl
 go_enter Tryz.func15,Tryz.ntmps15
 go_wp2_with fail
 go_loopg [7,12] ls.length (fun gk x7 UH wr=>∃(k:Nat) (A':Option Addr) (c':Nat) (hs:List Ls),k+gk=ls.length∧x7= .slice A' hs.length c'∧UH= .int .i64 k∧al (NwLs wr w.heap.size A' c' hs)∧al (hs.map (·.l)=((ls.map (·.l)).take k).map (fun l=>l.map (iN q.C f)))∧al (Fr [] w wr))
 case atStart=>exact ⟨0,none,0,[],by omega,rfl,rfl,NwLs.nil _ _,rfl,Fr.refl _ _⟩
 case round=>
  obtain ⟨k,A',c',hs,hk,rfl,rfl,HN,HE,HF⟩:=hrel
  have HK:=ae hk
  have ly:k≤ls.length:=by omega
  have DT:hs.length≤k:=by
   have :=HN.o.fQ HE.o
   rw [aq,aV,aq] at this
   omega
  clear hk
  by_cases bM:k<ls.length
  ·obtain ⟨ab,o,B1,d1,l1,hA,he,vU,vN⟩:=(HR.o.keep HF.o).one bM
   subst hA
   have Ai:k<(ls.map (·.l)).length:=by rw [aq];exact bM
   have D8:=ae (sr (fun l:List Int=>l.map (iN q.C f)) Ai)
   have Bd:(ls.map (·.l))[k]! =l1:=by
    have :=he.o
    rw [aa,af bM] at this
    simp only [ay] at this
    rw [aa,aO,af bM]
    simp [this]
   rw [Bd] at D8
   have LR:fC q.C l1:=by
    have :=Xq.o (ls[k]!) (bu bM)
    rw [he.o] at this
    exact this
   have vQ:l1.length≤1024:=LR.1
   have Qf:=ae LR
   have Uh:=ae (KO.o wr HF.o B1 d1 l1 vN.1 LR)
   clear Ai Bd vN LR
   go_wp2_with fail
   refine Uh.o.mono ?_
   rintro e w3 ⟨B2,d2,rfl,ns,ot,bZ⟩
   have mw:=ae ns
   have jN:=ae ot
   have cH:=ae bZ
   clear ns ot bZ Uh
   obtain ⟨wb,eR⟩:∃W,w3.alloc (.cells #[.slice B2 l1.length d2] 22)=W:=⟨_,rfl⟩
   have fE:al (Fr [] w3 wb):=eR▸aN _ _
   have lR:=ae (mw.o.fr fE.o (fun _ _ hm=>by cases hm))
   have mR:wb.cell? ⟨w3.heap.size,0,none⟩=some (.slice B2 l1.length d2):=by
    have :=(At.new w3 22 #[.slice B2 l1.length d2]).cell 0
    rw [eR] at this
    simpa using this
   have xq:=ae mR
   have pQ:al (w.heap.size≤wr.heap.size):=HF.o.size
   have qr:al ((l1.map (iN q.C f)).length=l1.length):=(aq .. :_=_)
   have DE:al (Ra (l1.map (iN q.C f))):=(dW (p:=dY)).2 fun x hx=>by
    obtain ⟨y,hy,rfl⟩:=az.1 hx
    have :=yq.o y (Qf.o.2 y hy)
    exact ⟨by omega,by omega⟩
   clear mR
   go_wp2_with (at_builtin;(refine gq _ rfl _ _ rfl A' c' hs (HN.o.keep cH.o) fE.o (aF pQ.o (aF cH.o.size fE.o.size)) hs.length rfl rfl ⟨w3.heap.size,0,none⟩ 1 1 [⟨B2,d2,l1.map (iN q.C f)⟩] rfl rfl (fun j hj=>by (have :j=0:=by simpa using hj);subst this;rw [dJ];show _=some (Value.slice B2 (l1.map (iN q.C f)).length d2);rw [qr.o];exact xq.o) (fun h hh=>by (have :=ah.1 hh);subst this;exact ⟨lR.o,DE.o,by show (l1.map (iN q.C f)).length≤_;rw [qr.o];omega,fun k hk=>aF pQ.o (jN.o k hk)⟩) (by simp;omega) ?_;intro A4 c4 w4 tV eW;have um:=ae tV;have fM:=ae (((HF.o.aj cH.o).aj fE.o).trans eW (fun k hk=> .inr (HN.o.new k hk)));clear tV eW))
   clear eR
   go_roundg (gk-1)
   case measure=>have :=HK.o;omega
   case rel=>exact ⟨k+1,A4,c4,hs++[(⟨B2,d2,l1.map (iN q.C f)⟩:Ls)],by have :=HK.o;omega,by simp,by go_num,um.o,(by rw [bJ,HE.o,D8.o];rfl :_=_),fM.o⟩
  ·obtain rfl :k=ls.length:=by omega
   have dx:al (hs.map (·.l)=(ls.map (·.l)).map (fun l=>l.map (iN q.C f))):=by
    have :=HE.o
    rw [dn (by rw [aq];exact au _)] at this
    exact this
   clear HK HE
   go_wp2
   go_ret
   exact ⟨A',c',hs,rfl,HN.o,by rw [dx.o,List.map_map],HF.o⟩
theorem FT (w:World) (A:Option Addr) (c:Nat) (l:List Int) (h:Rd w A l) (hr:∀x∈l,-1000000≤x∧x≤1000000) (hl:l.length≤1048576):
  Calls Tryz.prog 31 #[.slice A l.length c] w fun e w'=>∃A' c',e= .returned (.slice A' l.length c')∧Ints w' A' c' (l.map fun x=> -x)∧(∀k,k∈ap A'→w.heap.size≤k)∧Fr [] w w':=by
 have HH:=ae h
 have HR:=ae hr
 have nv:al (Ra l):=(dW (p:=dY)).2 fun x hx=>by
  have :=hr x hx
  exact ⟨by omega,by omega⟩
 have HM:=ae (Ca w l.length (by unfold maxLen;omega))
 have LH:=qN w l.length (by omega)
 have xH:al (Fr [] w (w.alloc (.cells (madeCells #[.int .i64 0] l.length) 3))):=aN _ _
 obtain ⟨w1,dO⟩:∃W,w.alloc (.cells (madeCells #[.int .i64 0] l.length) 3)=W:=⟨_,rfl⟩
 rw [dO] at HM xH LH
 clear h hr
 go_enter Tryz.func31,Tryz.ntmps31
 go_wp2_with fail
 clear LH dO
 go_loopg [3,11] l.length (fun g x6 x16 wr=>∃(k:Nat) (A':Option Addr) (c':Nat) (ys:List Int),k+g=l.length∧x6= .slice A' ys.length c'∧x16= .int .i64 k∧al (Ints wr A' c' ys)∧al (ys=(l.take k).map fun x=> -x)∧al (∀j,j∈ap A'→w.heap.size≤j)∧al (Fr [] w wr))
 case atStart=>exact ⟨0,_,_,[],by omega,rfl,rfl,HM.o,by show _=_;simp,fun j hj=>by simp [ap] at hj;omega,xH.o⟩
 case round=>
  obtain ⟨k,A',c',ys,hk,rfl,rfl,HI,HY,HN,HF⟩:=hrel
  have HK:=ae hk
  have ly:k≤l.length:=by omega
  have hyl:ys.length≤k:=by
   rw [HY.o,aq,aV]
   omega
  clear hk
  by_cases bM:k<l.length
  ·obtain ⟨ab,o,x,hA,he,cx,ij,ix⟩:=(HH.o.keep HF.o).one nv.o bM
   subst hA
   have oI:=ae (qV (fun x:Int=> -x) bM)
   rw [he.o] at oI
   have xw:=HR.o x (by rw [←he.o];exact bu bM)
   have dO:IntKind.i64.wrap (-x)= -x:=IntWalk.i64_in _ (by omega)
   obtain ⟨wb,eR⟩:∃W,wr.alloc (.cells #[.int .i64 (-x)] 3)=W:=⟨_,rfl⟩
   have fE:al (Fr [] wr wb):=eR▸aN _ _
   have j3:wb.cell? ⟨wr.heap.size,0,none⟩=some (.int .i64 (-x)):=by
    rw [←eR]
    exact (At.new wr 3 #[.int .i64 (-x)]).cell 0
   go_wp2_with (at_builtin;(refine cT _ rfl _ _ rfl A' c' ys ys.length rfl rfl (HI.o.fr fE.o (fun _ _ hm=>by cases hm)) ⟨wr.heap.size,0,none⟩ 1 (-x) rfl j3 (by omega) ?_;intro g cap w4 fJ qe hg PW;have Pi:=ae fJ;have fM:al (Fr [] w w4):=(HF.o.aj fE.o).trans qe (fun x hx=> .inr (HN.o x hx));have Pw:al (w.heap.size≤g):=(by rcases hg with h1 |h1;(exact HN.o g h1);(have :=HF.o.size;have :=fE.o.size;omega):w.heap.size≤g);clear j3 fJ qe hg PW))
   clear eR
   go_roundg (gk-1)
   case measure=>have :=HK.o;omega
   case rel=>exact ⟨k+1,some ⟨g,0,none⟩,cap,ys++[-x],by have :=HK.o;omega,by simp,by go_num,Pi.o,(by rw [oI.o,HY.o]:ys++[-x]=(l.take (k+1)).map fun x=> -x),fun j hj=>by simp [ap] at hj;subst hj;exact Pw.o,fM.o⟩
  ·obtain rfl :k=l.length:=by omega
   have hy:ys=l.map fun x=> -x:=by rw [HY.o,eD]
   have Na:ys.length=l.length:=by rw [hy,aq]
   have HY2:=ae hy
   rw [Na]
   clear HK hy HY
   go_wp2
   go_ret
   exact ⟨A',c',rfl,by rw [←HY2.o];exact HI.o,HN.o,HF.o⟩
end Go.Proofs.YtdgplmgfkliijaaGreat
