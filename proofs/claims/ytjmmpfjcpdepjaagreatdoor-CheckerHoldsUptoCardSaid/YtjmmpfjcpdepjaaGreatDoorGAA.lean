/- The steps of a region that draws, in short words. -/
import Derived.Test.YtjmmpfjcpdepjaaGreatDoorRows
import Derived.WalkKit
import Derived.WalkSpells
import Derived.WalkLawsBesides
import Derived.Maps.AppendAt
import Derived.Deep.Draws
import Derived.Deep.QuietTactic
import Derived.BigQuiet
import Derived.Lib.Hide
import Derived.Deep.RegionLaw
import Derived.Deep.RegionHeld3
import Derived.OrdersHeld
import Derived.Deep.RegionHeld
import Derived.Deep.LoopGhost
set_option linter.unusedVariables false
set_option linter.unusedSimpArgs false
set_option maxHeartbeats 4000000
set_option maxRecDepth 100000
namespace Go.Proofs.YtjmmpfjcpdepjaaGreatDoor
section
open Go.RowKit
theorem aac.{u}:∀{c:Prop} {h:Decidable c},¬c->∀{α:Sort u} {t e:α},(if c then t else e)=e:=@if_neg
theorem aae.{u}:∀{c:Prop} {h:Decidable c},c->∀{α:Sort u} {t e:α},(if c then t else e)=t:=@if_pos
theorem aah:∀{p:Prop} [inst:Decidable p],¬p->decide p=false:=@decide_eq_false
theorem aai:∀{p:Prop} [inst:Decidable p],p->decide p=true:=@decide_eq_true
theorem aak:∀{P:Program} {ops:Array Oper} {C:World->Prop} {Q:Act->Prop} {a:Act},Q a->wpQuiet P ops C Q [] a:=@wpQuiet_nil
theorem aal:∀{p:Prop} [inst:Decidable p],(decide p=true)=p:=@decide_eq_true_eq
theorem aam:∀{P:Program} {id:Nat} {ops:Array Oper} {b:Bool} {Q:Exit->Act->World->Prop} {a:Act} {w:World},Code.wp P (Code.region id ops b) (NoPanic Q) a w->Code.wp P (Code.region id ops b) Q a w:=@wp_region_noPanic
theorem aao.{u,v}:∀{α:Sort u} {β:Sort v} {a₁ a₂:α} (f:α->β),a₁=a₂->f a₁=f a₂:=@congrArg
theorem aar.{u_1}:∀{α:Type u_1} [inst:BEq α] [LawfulBEq α] {a b:α},(a==b)=false↔a≠b:=@beq_eq_false_iff_ne
theorem aa:∀{p:Prop},p->RowKit.Hid p:=@Lib.hid
theorem ae.{u_1}:∀{α:Type u_1} [inst:Inhabited α] {l:List α} {i:Nat},l[i]! =l[i]?.getD default:=@List.getElem!_eq_getElem?_getD
theorem af.{u_1}:∀{α:Type u_1} {l:List α} {i:Nat} (h:i<l.length),l[i]? =some l[i]:=@List.getElem?_eq_getElem
theorem ah.{u_1}:∀{α:Type u_1} {a:α} {s t:List α},a∈s++t↔a∈s\/a∈t:=@List.mem_append
theorem ai.{u_1}:∀{α:Type u_1} {a b:α},a∈[b]↔a=b:=@List.mem_singleton
theorem aj.{u}:∀{α:Type u} {«as» bs:List α},(«as» ++bs).length= «as».length+bs.length:=@List.length_append
theorem an.{u}:∀{α:Type u} {a:α} {«as» :List α} (bs:List α),a∈ «as» ->a∈ «as» ++bs:=@List.mem_append_left
theorem ao.{u}:∀{α:Type u} {«as» :List α} {i:Nat} {a:α},(«as».set i a).length= «as».length:=@List.length_set
theorem ap:∀(n:Nat),n<=n:=@Nat.le_refl
theorem aq.{u_1,u_2}:∀{α:Type u_1} {β:Type u_2} {«as» :List α} (f:α->β),(List.map f «as»).length= «as».length:=@List.length_map
theorem av.{u_1}:∀{α:Type u_1} {b:α} {l:List α} {a:α},a∈b::l↔a=b\/a∈l:=@List.mem_cons
theorem ax:∀(a b:Bool),((a&&b)=true)=(a=true/\b=true):=@Bool.and_eq_true
theorem ay.{u_1}:∀{α:Type u_1} {a b:α},(some a).getD b=a:=@Option.getD_some
theorem aE:∀{n m k:Nat},n<=m->m<=k->n<=k:=@Nat.le_trans
theorem aF.{u_1}:∀{α:Type u_1} (a:α) (l:List α),a::l≠[]:=@List.cons_ne_nil
theorem aG.{u_1,u_2}:∀{α:Type u_1} {β:Type u_2} {b:β} {f:α->β} {l:List α},b∈List.map f l↔∃a,a∈l/\f a=b:=@List.mem_map
theorem aI:∀(n:Nat),¬n<0:=@Nat.not_lt_zero
theorem aJ.{u_1,u_2}:∀{α:Type u_1} {β:Type u_2} {f:α->β} {l:List α} {i:Nat},(List.map f l)[i]? =Option.map f l[i]? :=@List.getElem?_map
theorem aK:∀{n m k:Nat},n<m->m<=k->n<k:=@Nat.lt_of_lt_of_le
theorem aP.{u_1}:∀{α:Type u_1} {l:List α},l.length=0->l=[]:=@List.eq_nil_of_length_eq_zero
theorem aW.{u}:∀{α:Type u} {n:Nat} {a:α},(List.replicate n a).length=n:=@List.length_replicate
theorem aY.{u_1}:∀{α:Type u_1} (y:α) {a:α} {l:List α},a∈l->a∈y::l:=@List.mem_cons_of_mem
theorem bk.{u}:∀{α:Type u} {b:α} («as» :List α) {bs:List α},b∈bs->b∈ «as» ++bs:=@List.mem_append_right
theorem bp.{u_1}:∀{α:Type u_1} {i:Nat} {l:List α},(List.take i l).length=min i l.length:=@List.length_take
theorem bv:∀(n m:Nat),n<m\/n≥m:=@Nat.lt_or_ge
theorem bD.{u_1}:∀{α:Type u_1} {a:α} {l:List α},a∈a::l:=@List.mem_cons_self
theorem bH.{u_1,u_2}:∀{α:Type u_1} {β:Type u_2} {f:α->β} {l₁ l₂:List α},List.map f (l₁++l₂)=List.map f l₁++List.map f l₂:=@List.map_append
theorem bN.{u}:∀{α:Type u} {a:α},[a].length=1:=@List.length_singleton
theorem bR:∀(n:Nat),0<=n:=@Nat.zero_le
theorem bZ.{u}:∀{α:Type u} («as» :List α), «as» ++[]= «as» :=@List.append_nil
theorem cd.{u_1}:∀{α:Type u_1} {a:α},¬a∈[]:=@List.not_mem_nil
theorem cj.{u,v}:∀{α:Type u} {β:Type v} {f:α->β} {a:α} {l:List α},List.map f (a::l)=f a::List.map f l:=@List.map_cons
theorem co.{u_1}:∀{α:Type u_1} {a:α} {l:List α},(a::l)[0]? =some a:=@List.getElem?_cons_zero
theorem cq.{u_1}:∀{α:Type u_1} {p:α->Bool} {l:List α},l.any p=true↔∃x,x∈l/\p x=true:=@List.any_eq_true
theorem cu:∀{n:Nat},(List.range n).length=n:=@List.length_range
theorem cD.{u_1,u_2}:∀{α:Type u_1} {β:Type u_2} (a:α) (f:α->β),Option.map f (some a)=some (f a):=@Option.map_some
theorem cH:∀{m n:Nat},m∈List.range n↔m<n:=@List.mem_range
theorem cJ.{u_1}:∀{α:Type u_1} {l₁ l₂:List α} {i:Nat},i<l₁.length->(l₁++l₂)[i]? =l₁[i]? :=@List.getElem?_append_left
theorem cM.{u_1}:∀{α:Type u_1} {a:α} {i:Nat} {l:List α},(a::l)[i+1]? =l[i]? :=@List.getElem?_cons_succ
theorem cN.{u_1}:∀{α:Type u_1} {l:List α},List.take l.length l=l:=@List.take_length
theorem cU.{u}:∀{α:Type u} {xs:List α} {i:Nat},xs.toArray[i]? =xs[i]? :=@List.getElem?_toArray
theorem cW.{u}:∀{α:Type u} {a:α} {«as» :List α},(a:: «as»).length= «as».length+1:=@List.length_cons
theorem da:∀(n:Nat),0+n=n:=@Nat.zero_add
theorem dv.{u,v}:∀{α:Type u} {β:Type v} {f:α->β},List.map f []=[]:=@List.map_nil
theorem dx.{u_1}:∀{α:Type u_1} {p:α->Bool} {«as» :List α} {x:α},x∈List.filter p «as» ↔x∈ «as» /\p x=true:=@List.mem_filter
theorem dy.{u_1}:∀{α:Type u_1} (l:List α),l.Perm l:=@List.Perm.refl
theorem dC.{u_1}:∀{α:Type u_1} {i:Nat} {l:List α},l.length<=i->List.take i l=l:=@List.take_of_length_le
theorem dD:(false=true)=False:=@Bool.false_eq_true
theorem dK.{u_1}:∀{α:Type u_1} {x:α} {«as» :List α},x∈ «as».reverse↔x∈ «as» :=@List.mem_reverse
theorem dX:∀{x y:Bool},(x ||y)=false↔x=false/\y=false:=@Bool.or_eq_false_iff
theorem ep.{u_1}:∀{α:Type u_1} {p:α->Bool} {l:List α},l.all p=true↔∀(x:α),x∈l->p x=true:=@List.all_eq_true
theorem eO.{u_1}:∀{α:Type u_1} {l₁ l₂:List α} {i:Nat},l₁.length<=i->(l₁++l₂)[i]? =l₂[i-l₁.length]? :=@List.getElem?_append_right
theorem fl:∀(n m:Nat),n+m-m=n:=@Nat.add_sub_cancel
theorem fv.{u_1,u_2}:∀{α:Type u_1} {β:Type u_2} {f:α->List β} {b:β} {l:List α},b∈List.flatMap f l↔∃a,a∈l/\b∈f a:=@List.mem_flatMap
theorem fG.{u_1}:∀{α:Type u_1} {a:α} {l:List α},(a::l).Nodup↔¬a∈l/\l.Nodup:=@List.nodup_cons
theorem fI.{u_1}:∀{α:Type u_1} (a:α),(some a).toList=[a]:=@Option.toList_some
theorem fX:∀(b:Bool),(true&&b)=b:=@Bool.true_and
theorem gf.{u_1}:∀{α:Type u_1} {i:Nat} {xs:Array α},xs.size<=i->xs[i]? =none:=@Array.getElem?_eq_none
theorem jt:∀(a b:Bool),((a ||b)=true)=(a=true\/b=true):=@Bool.or_eq_true
theorem jP.{u}:∀{α:Type u} («as» bs cs:List α), «as» ++bs++cs= «as» ++(bs++cs):=@List.append_assoc
theorem j4:∀{a b:Nat},a<=b->min a b=a:=@Nat.min_eq_left
theorem j5.{u_1}:∀{α:Type u_1} {l:List α} {n:Nat} (h:n<l.length),l[n]∈l:=@List.getElem_mem
theorem j6:∀(b:Bool),((!b)=true)=(b=false):=@Bool.not_eq_true'
theorem ku:∀(n:Nat),n*1=n:=@Nat.mul_one
theorem lH.{u_1}:∀{α:Type u_1} {i:Nat} {a:α} {l:List α},l[i]? =some a↔∃h,l[i]=a:=@List.getElem?_eq_some_iff
theorem my:∀(a:Int),a<=a:=@Int.le_refl
theorem mY.{u_1}:∀{α:Type u_1} {l₁ l₂:List α} {i:Nat},i<=l₁.length->List.take i (l₁++l₂)=List.take i l₁:=@List.take_append_of_le_length
theorem nc:∀{i n:Nat},i<n->(List.range n)[i]? =some i:=@List.getElem?_range
theorem nf:∀{b:Bool},b=false↔b≠true:=@Bool.eq_false_iff
def At (w:World) (g:Nat) (t:TypeId) (cs:Array Value):Prop:=w.heap[g]? =some (.cells cs t (0,0))
structure Fr (S:List Nat) (w w':World):Prop where
 os:w'.os=w.os
 tape:w'.tape=w.tape
 output:w'.output=w.output
 size:w.heap.size<=w'.heap.size
 block:∀k,k<w.heap.size->k∉S->w'.heap[k]? =w.heap[k]?
namespace Fr
variable {S T:List Nat} {w w' a b c:World}
theorem refl (S:List Nat) (w:World):Fr S w w:=⟨rfl,rfl,rfl,ap _,fun _ _ _=>rfl⟩
theorem mono (h:Fr S w w') (hs:∀k,k∈S->k∈T\/w.heap.size<=k):Fr T w w':=
 ⟨h.os,h.tape,h.output,h.size,fun k hk hn=>h.block k hk fun hm=>(hs k hm).elim hn (by omega)⟩
theorem trans (h:Fr S a b) (k:Fr T b c) (hs:∀x,x∈T->x∈S\/a.heap.size<=x):Fr S a c:=
 ⟨k.os.trans h.os,k.tape.trans h.tape,k.output.trans h.output,aE h.size k.size,fun i hi hn=>
  (k.block i (aK hi h.size) fun hm=>(hs i hm).elim hn (by omega)).trans (h.block i hi hn)⟩
theorem ag (h:Fr S a b) (k:Fr S b c):Fr S a c:=h.trans k fun _ hx=> .inl hx
theorem drew (h:Fr S w w'):Fr S w w'.drew:=⟨h.os,h.tape,h.output,h.size,h.block⟩
theorem drewN (h:Fr S w w') (n:Nat):Fr S w (w'.drewN n):=⟨h.os,h.tape,h.output,h.size,h.block⟩
theorem alloc (h:Fr S w w') (o:Obj):Fr S w (w'.alloc o):=
 h.ag ⟨rfl,rfl,rfl,by simp,fun k hk _=>Below.heap_alloc _ _ _ hk⟩
theorem setCell (h:Fr S w w') {p:Addr} (hp:p.block∈S\/w.heap.size<=p.block) (u:Value):Fr S w (w'.setCell p u):=
 ⟨h.os,h.tape,h.output,by simpa[World.setCell]using h.size,fun k hk hn=>(Below.heap_setCell _ _ _ _ (by
  rintro rfl;rcases hp with hp |hp
  ·exact hn hp
  ·omega)).trans (h.block k hk hn)⟩
theorem grown (h:Fr S w w') {row:Option Nat} {yx:World} (hg:w'.grownBy yx row) (hr:∀k,row=some k->k∈S\/w.heap.size<=k):Fr S w yx:=
 ⟨hg.os.trans h.os,hg.tape.trans h.tape,hg.output.trans h.output,aE h.size hg.size,fun k hk hn=>
  (hg.block k (aK hk h.size) fun e=>(hr k e.symm).elim hn (by omega)).trans (h.block k hk hn)⟩
theorem DJ (h:Below w.heap.size w w'):Fr S w w':=⟨h.os,h.tape,h.output,h.size,fun k hk _=>h.block k hk⟩
theorem below (h:Fr [] w w'):Below w.heap.size w w':=⟨h.os,h.tape,h.output,h.size,fun k hk=>h.block k hk (by simp)⟩
theorem at_ (h:Fr S w w') {g:Nat} {t:TypeId} {cs:Array Value} (hg:At w g t cs) (hn:g∉S):At w' g t cs:=
 (h.block g (by
  rcases bv g w.heap.size with hl |hl
  ·exact hl
  ·unfold At at hg;rw[gf hl]at hg;cases hg) hn).trans hg
theorem own (h:Fr S w w') {base:Nat} {e:TypeId} {size n:Nat} {v:Value} {xs:List Value} (ho:w.ownsRow base e size v n xs) (hn:∀k,v.ownBlock=some k->k∉S):w'.ownsRow base e size v n xs:=by
 refine⟨ho.1,?_⟩;rcases ho.2 with h0 |⟨g,cap,cur,hv,hb,hg,r⟩
 ·exact .inl h0
 ·exact .inr ⟨g,cap,cur,hv,hb,h.at_ (t:=e) hg (hn g (by rw[hv];rfl)),r⟩
end Fr
namespace At
variable {w w':World} {g:Nat} {t:TypeId} {cs:Array Value}
theorem lt (h:At w g t cs):g<w.heap.size:=by
 rcases bv g w.heap.size with hl |hl
 ·exact hl
 ·unfold At at h;rw[gf hl]at h;cases h
theorem cell (h:At w g t cs) (i:Nat):w.cell? ⟨g,i,none⟩=cs[i]? :=cell_of_row w g i cs t (0,0) h
theorem frozen (h:At w g t cs) (i:Nat):w.frozen? ⟨g,i,none⟩=false:=by unfold At at h;simp[World.frozen?,h]
theorem new (w:World) (t:TypeId) (cs:Array Value):At (w.alloc (.cells cs t)) w.heap.size t cs:=heap_alloc_new w _
theorem drew (h:At w g t cs):At w.drew g t cs:=h
theorem alloc (h:At w g t cs) (o:Obj):At (w.alloc o) g t cs:=(Below.heap_alloc w o g h.lt).trans h
theorem eu (h:At w g t cs) (i:Nat) (u:Value):At (w.setCell ⟨g,i,none⟩ u) g t (cs.setIfInBounds i u):=by unfold At at h⊢;simp[World.setCell,Array.getElem?_modify,h]
theorem gN (h:At w g t cs) {p:Addr} (hp:g≠p.block) (u:Value):At (w.setCell p u) g t cs:=(Below.heap_setCell w p u g hp).trans h
end At
def Ints (w:World) (A:Option Addr) (c:Nat) (xs:List Int):Prop:=w.ownsRow 0 3 1 (.slice A xs.length c) xs.length (xs.map (Value.int .i64))
def ak (A:Option Addr):List Nat:=(A.map (·.block)).toList
namespace Ints
variable {w w':World} {A:Option Addr} {c:Nat} {xs:List Int}
theorem form (h:Ints w A c xs):(A=none/\c=0/\xs=[])\/∃g,A=some ⟨g,0,none⟩/\g<w.heap.size/\xs.length<=c/\c<=maxLen:=by
 rcases h.2 with⟨h1,h2⟩ |⟨g,cap,cur,hv,_,hg,hn,hm,_⟩
 ·simp only[Value.slice.injEq]at h1;exact .inl ⟨h1.1,h1.2.2,aP h2⟩
 ·simp only[Value.slice.injEq,true_and]at hv;obtain⟨rfl,rfl⟩:=hv;exact .inr ⟨g,rfl,At.lt (t:=3) hg,hn,hm⟩
theorem pos {i:Nat} (h:Ints w A c xs) (hi:i<xs.length):∃g,A=some ⟨g,0,none⟩/\g<w.heap.size:=by
 rcases h.form with⟨_,_,rfl⟩ |⟨g,h1,h2,_⟩
 ·simp at hi
 ·exact⟨g,h1,h2⟩
theorem len (h:Ints w A c xs):xs.length<=maxLen:=by
 rcases h.form with⟨_,_,rfl⟩ |⟨g,_,_,h1,h2⟩
 ·simp[maxLen]
 ·omega
theorem cell {g:Nat} (h:Ints w (some ⟨g,0,none⟩) c xs) {i:Nat} (hi:i<xs.length):w.cell? ⟨g,i,none⟩=some (.int .i64 (xs[i]!)):=by rw[World.ownsRow.cellAt h i (by omega)];simp[hi]
theorem frozen {g:Nat} (h:Ints w (some ⟨g,0,none⟩) c xs) (i:Nat):w.frozen? ⟨g,i,none⟩=false:=World.ownsRow.frozenAt h i
theorem eu {g:Nat} (h:Ints w (some ⟨g,0,none⟩) c xs) (i:Nat) (x:Int):Ints (w.setCell ⟨g,i,none⟩ (.int .i64 x)) (some ⟨g,0,none⟩) c (xs.set i x):=by have :=(World.ownsRow.stored h i (.int .i64 x)).1;unfold Ints;rw[ao,List.map_set];exact this
theorem gN (h:Ints w A c xs) {p:Addr} (hp:p.block∉ak A) (u:Value):Ints (w.setCell p u) A c xs:=
 Fr.own (S:=[p.block]) ((Fr.refl [p.block] w).setCell (.inl (by simp)) u) h (fun k hk=>by
  rcases A with _ |ad
  ·simp[Value.ownBlock]at hk
  ·simp only[Value.ownBlock,Option.some.injEq]at hk;subst hk;simp only[ak,cD,fI,ai]at hp⊢;exact fun e=>hp e.symm)
theorem fr {S:List Nat} (h:Ints w A c xs) (hf:Fr S w w') (hd:∀k,k∈ak A->k∉S):Ints w' A c xs:=
 hf.own h (fun k hk=>hd k (by
  rcases A with _ |ad
  ·simp[Value.ownBlock]at hk
  ·simp only[Value.ownBlock,Option.some.injEq]at hk;subst hk;simp[ak]))
theorem qw (h:Ints w A c xs) (k:Nat):Ints w A c (xs.take k):=by
 refine⟨by simp,?_⟩;rcases h.2 with⟨h1,h2⟩ |⟨g,cap,cur,hv,hb,hg,hn,hm,hs,ht⟩
 ·have :xs=[]:=aP h2;subst this;simp only[Value.slice.injEq,List.length_nil,true_and]at h1;exact .inl ⟨by simp[h1.1,h1.2],by simp⟩
 ·simp only[Value.slice.injEq,true_and]at hv;obtain⟨rfl,rfl⟩:=hv;refine .inr ⟨g,c,cur,rfl,hb,hg,by simp;omega,hm,hs,?_⟩;simp only[ku]at ht⊢;rw[List.map_take,<-ht,List.take_take,bp]
theorem drew (h:Ints w A c xs):Ints w.drew A c xs:=h
theorem alloc (h:Ints w A c xs) (o:Obj):Ints (w.alloc o) A c xs:=World.ownsRow.alloc h o
theorem nil (w:World):Ints w none 0 []:=World.ownsRow_nil w 0 _ 1
theorem lt (h:Ints w A c xs):∀k,k∈ak A->k<w.heap.size:=by
 rcases h.form with⟨rfl,_⟩ |⟨g,rfl,h1,_⟩
 ·simp[ak]
 ·simpa[ak]using h1
end Ints
theorem JU {P:Program} {f:FuncId} {args:Array Value} {w:World} {n:Nat} {v:Value}
  (h:Calls P f args (w.drewN n) fun e w'=>e= .returned v/\∃m,(w.drewN n).drewN m=w'):Calls P f args (w.drewN n) fun e yx=>e= .returned v/\∃m,yx=w.drewN m:=
 h.mono fun _ _ ⟨he,m,hm⟩=>⟨he,n+m,by rw[<-hm,World.drewN_drewN]⟩
structure Hp where
 items:List Int
 at_:List Int
 score:List Int
structure fW where
 a:Nat
 A1:Option Addr
 c1:Nat
 A2:Option Addr
 c2:Nat
 A3:Option Addr
 c3:Nat
def fW.fp (L:fW):List Nat:=L.a::(ak L.A1++(ak L.A2++ak L.A3))
structure cI (w:World) (L:fW) (H:Hp):Prop where
 obj:At w L.a 155 #[.slice L.A1 H.items.length L.c1, .slice L.A2 H.at_.length L.c2, .slice L.A3 H.score.length L.c3]
 items:Ints w L.A1 L.c1 H.items
 at_:Ints w L.A2 L.c2 H.at_
 score:Ints w L.A3 L.c3 H.score
 nodup:L.fp.Nodup
 same:H.at_.length=H.score.length
def Hp.sc (H:Hp) (x:Int):Int:=H.score[x.toNat]!
def Hp.pl (H:Hp) (x:Int):Int:=H.at_[x.toNat]!
def Hp.it (H:Hp) (i:Int):Int:=H.items[i.toNat]!
def Hp.jq (H:Hp) (x:Int):Bool:=decide (0<=x)&&decide (x<H.at_.length)
def Hp.bF (H:Hp) (x y:Int):Bool:=decide (H.sc y<H.sc x) || (decide (H.sc x=H.sc y)&&decide (x<y))
theorem kY {a b:Bool} (h:a=b):Ending.returned (.bool a)= .returned (.bool b):=by rw[h]
theorem Bu {k:IntKind} {a b:Int} (h:a=b):Ending.returned (.int k a)= .returned (.int k b):=by rw[h]
theorem VA (w:World) (L:fW) (H:Hp) (h:cI w L H) (x:Int):
  Calls Tryz.prog 147 #[.pointer (some ⟨L.a,0,none⟩), .int .i64 x] w fun e w'=>e= .returned (.bool (H.jq x))/\w=w':=by
 have c1:=h.obj.cell 1;simp at c1;unfold Hp.jq;by_cases h0:0<=x
 ·by_cases h1:x<H.at_.length
  ·go_enter Tryz.func147,Tryz.ntmps147;go_wp2;go_ret;exact⟨kY (by simp[h0,h1]),rfl⟩
  ·go_enter Tryz.func147,Tryz.ntmps147;go_wp2;go_ret;exact⟨kY (by simp[h1]),rfl⟩
 ·go_enter Tryz.func147,Tryz.ntmps147;go_wp2;go_ret;exact⟨kY (by simp;omega),rfl⟩
theorem cI.aN {w:World} {L:fW} {H:Hp} (h:cI w L H) {x:Int} (h0:0<=x) (h1:x<H.at_.length):
  ∃g,L.A3=some ⟨g,0,none⟩/\w.cell? ⟨g,x.toNat,none⟩=some (.int .i64 (H.sc x)):=by
 have hs:=h.same;obtain⟨g,hg,_⟩:=h.score.pos (i:=x.toNat) (by omega);refine⟨g,hg,?_⟩;have :=h.score;rw[hg]at this;exact this.cell (by omega)
theorem heap_ahead (w:World) (L:fW) (H:Hp) (h:cI w L H) (x y:Int) (D8:0<=x) (fN:x<H.at_.length) (jX:0<=y) (iP:y<H.at_.length):
  Calls Tryz.prog 176 #[.pointer (some ⟨L.a,0,none⟩), .int .i64 x, .int .i64 y] w fun e w'=>e= .returned (.bool (H.bF x y))/\∃n,w.drewN n=w':=by
 have hs:=h.same;have c1:=h.obj.cell 2;simp at c1;obtain⟨g,hg,cx⟩:=h.aN D8 fN;obtain⟨g',pU,cy⟩:=h.aN jX iP;rw[hg]at pU c1;cases pU;have gd:x<H.score.length:=by omega
 have lE:y<H.score.length:=by omega
 unfold Hp.bF;clear h hs fN iP;generalize H.sc x=sx at cx⊢;generalize H.sc y=sy at cy⊢;by_cases h1:sy<sx
 ·go_enter Tryz.func176,Tryz.ntmps176;go_wp2_with fail
  go_quiet (fail)
  go_wp2;go_ret;exact⟨kY (by simp[h1]),_,rfl⟩
 ·have yK:decide (sy<sx)=false:=aah h1;by_cases h2:sx=sy
  ·subst h2;by_cases h3:x<y
   ·go_enter Tryz.func176,Tryz.ntmps176;go_wp2_with fail
    go_quiet (fail)
    go_wp2;go_ret;exact⟨kY (by simp[h3]),_,rfl⟩
   ·go_enter Tryz.func176,Tryz.ntmps176;go_wp2_with fail
    go_quiet (fail)
    go_wp2;go_ret;exact⟨kY (by simp),_,rfl⟩
  ·have h2':(sx==sy)=false:=aar.2 h2;go_enter Tryz.func176,Tryz.ntmps176;go_wp2_with fail
   go_quiet (fail)
   go_wp2;go_ret;exact⟨kY (by simp[yK,h2]),_,rfl⟩
def Hp.put (H:Hp) (i x:Int):Hp:={ H with items:=H.items.set i.toNat x,at_:=H.at_.set x.toNat i }
theorem iI {a:Nat} {x y z:List Nat} (h:(a::(x++(y++z))).Nodup):
  (∀k,k∈x->k≠a/\k∉y/\k∉z)/\(∀k,k∈y->k≠a/\k∉x/\k∉z)/\(∀k,k∈z->k≠a/\k∉x/\k∉y):=by
 simp only[fG,ah,List.nodup_append]at h;obtain⟨h1,h2,⟨h3,h4,h5⟩,h6⟩:=h;refine⟨fun k hk=>⟨?_,?_,?_⟩,fun k hk=>⟨?_,?_,?_⟩,fun k hk=>⟨?_,?_,?_⟩⟩
 ·rintro rfl;exact h1 (.inl hk)
 ·exact fun hy=>h6 k hk k (.inl hy) rfl
 ·exact fun hz=>h6 k hk k (.inr hz) rfl
 ·rintro rfl;exact h1 (.inr (.inl hk))
 ·exact fun hx=>h6 k hx k (.inl hk) rfl
 ·exact fun hz=>h5 k hk k hz rfl
 ·rintro rfl;exact h1 (.inr (.inr hk))
 ·exact fun hx=>h6 k hx k (.inr hk) rfl
 ·exact fun hy=>h5 k hy k hk rfl
theorem cI.jT {w:World} {L:fW} {H:Hp} (h:cI w L H) {i:Int} (h0:0<=i) (h1:i<H.items.length):
  ∃g,L.A1=some ⟨g,0,none⟩/\w.cell? ⟨g,i.toNat,none⟩=some (.int .i64 (H.it i))/\w.frozen? ⟨g,i.toNat,none⟩=false:=by
 obtain⟨g,hg,_⟩:=h.items.pos (i:=i.toNat) (by omega);refine⟨g,hg,?_⟩;have :=h.items;rw[hg]at this;exact⟨this.cell (by omega),this.frozen _⟩
theorem cI.yh {w:World} {L:fW} {H:Hp} (h:cI w L H) {i:Int} (h0:0<=i) (h1:i<H.at_.length):
  ∃g,L.A2=some ⟨g,0,none⟩/\w.cell? ⟨g,i.toNat,none⟩=some (.int .i64 (H.pl i))/\w.frozen? ⟨g,i.toNat,none⟩=false:=by
 obtain⟨g,hg,_⟩:=h.at_.pos (i:=i.toNat) (by omega);refine⟨g,hg,?_⟩;have :=h.at_;rw[hg]at this;exact⟨this.cell (by omega),this.frozen _⟩
theorem cI.aiQ {w:World} {L:fW} {H:Hp} (h:cI w L H) {g:Nat} (hg:L.A1=some ⟨g,0,none⟩) (i:Nat) (x:Int):
  cI (w.setCell ⟨g,i,none⟩ (.int .i64 x)) L { H with items:=H.items.set i x }:=by
 obtain⟨h1,h2,h3⟩:=iI h.nodup;have hm:g∈ak L.A1:=by simp[hg,ak]
 refine⟨?_,?_,?_,?_,h.nodup,h.same⟩
 ·have :=h.obj.gN (p:=⟨g,i,none⟩) (fun e=>(h1 g hm).1 e.symm) (.int .i64 x);simpa using this
 ·have :=h.items;rw[hg]at this⊢;exact this.eu i x
 ·exact h.at_.gN (fun hk=>(h1 g hm).2.1 hk) _
 ·exact h.score.gN (fun hk=>(h1 g hm).2.2 hk) _
theorem cI.Yy {w:World} {L:fW} {H:Hp} (h:cI w L H) {g:Nat} (hg:L.A2=some ⟨g,0,none⟩) (i:Nat) (x:Int):
  cI (w.setCell ⟨g,i,none⟩ (.int .i64 x)) L { H with at_:=H.at_.set i x }:=by
 obtain⟨h1,h2,h3⟩:=iI h.nodup;have hm:g∈ak L.A2:=by simp[hg,ak]
 refine⟨?_,?_,?_,?_,h.nodup,by simpa using h.same⟩
 ·have :=h.obj.gN (p:=⟨g,i,none⟩) (fun e=>(h2 g hm).1 e.symm) (.int .i64 x);simpa using this
 ·exact h.items.gN (fun hk=>(h2 g hm).2.1 hk) _
 ·have :=h.at_;rw[hg]at this⊢;exact this.eu i x
 ·exact h.score.gN (fun hk=>(h2 g hm).2.2 hk) _
theorem cI.drewN {w:World} {L:fW} {H:Hp} (h:cI w L H) (n:Nat):cI (w.drewN n) L H:=⟨h.obj,h.items,h.at_,h.score,h.nodup,h.same⟩
theorem cI.drew {w:World} {L:fW} {H:Hp} (h:cI w L H):cI w.drew L H:=⟨h.obj,h.items,h.at_,h.score,h.nodup,h.same⟩
theorem gz (w:World) (L:fW) (H:Hp) (h:cI w L H) (i x:Int) (Vr:0<=i) (Ie:i<H.items.length) (D8:0<=x) (fN:x<H.at_.length):
  Calls Tryz.prog 177 #[.pointer (some ⟨L.a,0,none⟩), .int .i64 i, .int .i64 x] w fun e w'=>e= .returned (.tuple #[])/\cI w' L (H.put i x)/\Fr L.fp w w':=by
 have o0:=h.obj.cell 0;have o1:=h.obj.cell 1;simp at o0 o1;obtain⟨g,hg,ci,fi⟩:=h.jT Vr Ie;obtain⟨g',pU,cx,fx⟩:=h.yh D8 fN;have dS:g≠g':=fun e=>((iI h.nodup).1 g (by simp[hg,ak])).2.1 (by simp[pU,ak,e]);rw[hg]at o0;rw[pU]at o1;have fin:=(h.aiQ hg i.toNat x).Yy pU x.toNat i;have fr:Fr L.fp w ((w.setCell ⟨g,i.toNat,none⟩ (.int .i64 x)).setCell ⟨g',x.toNat,none⟩ (.int .i64 i)):=
  ((Fr.refl L.fp w).setCell (.inl (by simp[fW.fp,hg,ak])) _).setCell (.inl (by simp[fW.fp,pU,ak])) _
 clear h;go_enter Tryz.func177,Tryz.ntmps177;go_wp2;go_region;go_wp2;go_end0;exact⟨rfl,fin.drew,fr.drew⟩
theorem dN (w:World) (L:fW) (H:Hp) (h:cI w L H) (x y:Int) (b:Bool) (hb:H.bF x y=b) (hx:0<=x/\x<H.at_.length) (hy:0<=y/\y<H.at_.length):
  Calls Tryz.prog 176 #[.pointer (some ⟨L.a,0,none⟩), .int .i64 x, .int .i64 y] w fun e w'=>e= .returned (.bool b)/\∃n,w.drewN n=w':=
 (heap_ahead w L H h x y hx.1 hx.2 hy.1 hy.2).mono fun _ _ ⟨he,hw⟩=>⟨by rw[he,hb],hw⟩
theorem Hp.eo (H:Hp) (i x:Int):(H.put i x).items.length=H.items.length:=by simp[Hp.put]
theorem Hp.tu (H:Hp) (i x:Int):(H.put i x).at_.length=H.at_.length:=by simp[Hp.put]
def Hp.I9 (H:Hp):Prop:=∀j:Nat,j<H.items.length->0<=H.items[j]! /\H.items[j]! <H.at_.length
theorem Hp.I9.it {H:Hp} (h:H.I9) {i:Int} (h0:0<=i) (h1:i<H.items.length):0<=H.it i/\H.it i<H.at_.length:=h i.toNat (by omega)
theorem Hp.I9.put {H:Hp} (h:H.I9) {i x:Int} (D8:0<=x) (fN:x<H.at_.length):(H.put i x).I9:=by
 intro j hj;have ZY:j<H.items.length:=by simpa[Hp.put]using hj
 have :=h j ZY;simp only[Hp.put,ao];by_cases e:i.toNat=j
 ·subst e;simp[ZY];omega
 ·have :(H.items.set i.toNat x)[j]! =H.items[j]! :=by simp[ae,e]
  rw[this];assumption
def Hp.qs (x:Int):Nat->Hp->Nat->Hp
 |0,H,i=>H.put i x
 |f+1,H,i=>if 0<i/\H.bF x (H.it (((i-1)/2:Nat):Int))=true then qs x f (H.put i (H.it (((i-1)/2:Nat):Int))) ((i-1)/2)else H.put i x
theorem Hp.Yt {x:Int} {f:Nat} {H:Hp} {i:Nat} (hi:0<i) (ha:H.bF x (H.it (((i-1)/2:Nat):Int))=true) (hf:i<f):
  Hp.qs x f H i=Hp.qs x (f-1) (H.put i (H.it (((i-1)/2:Nat):Int))) ((i-1)/2):=by
 obtain⟨f,rfl⟩:∃g,f=g+1:=⟨f-1,by omega⟩
 simp only[Hp.qs,fl];rw[aae ⟨hi,ha⟩]
theorem Hp.C7 {x:Int} {f:Nat} {H:Hp} {i:Nat} (h:¬(0<i/\H.bF x (H.it (((i-1)/2:Nat):Int))=true)):Hp.qs x f H i=H.put i x:=by
 cases f with
 |zero=>rfl
 |succ f=>simp only[Hp.qs];rw[aac h]
theorem Kj (w:World) (L:fW) (H:Hp) (h:cI w L H) (hr:H.I9) (i:Nat) (Ie:i<H.items.length):
  Calls Tryz.prog 148 #[.pointer (some ⟨L.a,0,none⟩), .int .i64 i] w fun e w'=>e= .returned (.tuple #[])/\cI w' L (Hp.qs (H.it i) (i+1) H i)/\Fr L.fp w w':=by
 have o0:=h.obj.cell 0;simp at o0;have hm:=h.items.len;unfold maxLen at hm;obtain⟨g,hg,ci,fi⟩:=h.jT (i:=i) (by omega) (by omega);rw[hg]at o0;have hx:=hr.it (i:=i) (by omega) (by omega);obtain⟨x,qg⟩:∃x,H.it i=x:=⟨_,rfl⟩
 rw[qg]at ci hx⊢;have ci':w.cell? ⟨g,i,none⟩=some (.int .i64 x):=by simpa using ci
 clear ci fi qg;have pt:(i:Int)<H.items.length:=by omega
 go_enter Tryz.func148,Tryz.ntmps148;go_wp2
 go_loopw [1] (fun iv wr=>∃(k f:Nat) (K:Hp),iv= .int .i64 k/\cI wr L K/\K.I9/\K.items.length=H.items.length/\K.at_.length=H.at_.length/\k<H.items.length/\k<f/\
   Hid (Hp.qs x (i+1) H i=Hp.qs x f K k)/\Fr L.fp w wr) (fun iv _=>(intOf iv).toNat)
 case atStart=>exact⟨i,i+1,H,rfl,h,hr,rfl,rfl,Ie,by omega,rfl,Fr.refl _ _⟩
 case round=>
  obtain⟨k,f,K,rfl,hK,XO,l1,l2,hk,hkf,HE,ro⟩:=hrel;have q0:=hK.obj.cell 0;simp only[l1,hg,cU,co]at q0;by_cases M0:0<k
  ·obtain⟨g',pU,cp,_⟩:=hK.jT (i:=((k-1)/2:Nat)) (by omega) (by omega);rw[hg]at pU;cases pU;have hy:=XO.it (i:=((k-1)/2:Nat)) (by omega) (by omega);obtain⟨y,up⟩:∃y,K.it (((k-1)/2:Nat):Int)=y:=⟨_,rfl⟩
   rw[up]at cp hy;have cp':wr.cell? ⟨g,(k-1)/2,none⟩=some (.int .i64 y):=cp;clear cp;have asz:(0:Int)<(k:Int):=by omega
   have HK:=aa hK;have HL:=aa l1;have HM:=aa l2;have Id:(k:Int)<H.items.length:=by omega
   cases ha:K.bF x y with
   |true=>
    have HS:Hid (Hp.qs x f K k=Hp.qs x (f-1) (K.put k y) ((k-1)/2)):=by have :=Hp.Yt (x:=x) (f:=f) (H:=K) M0 (by rw[up];exact ha) hkf;rw[up]at this;exact this
    have HA:=aa ha;have HY:=aa up;clear ha up hK l1 l2;go_wp2_with fail;refine(dN _ L K HK.out x y true HA.out (by rw[HM.out];exact hx) hy).mono ?_;rintro e w1 ⟨rfl,n1,rfl⟩;go_wp2_with fail;refine(gz _ L K (HK.out.drewN _) k y (by omega) (by rw[HL.out];omega) hy.1 hy.2).mono ?_;rintro e w1 ⟨rfl,hp,cX⟩;have HP:=aa hp;clear hp;go_wp2_with fail
    go_roundw
    case rel=>
     exact⟨(k-1)/2,f-1,K.put k y,by go_num,HP.out,XO.put hy.1 hy.2,by rw[Hp.eo];exact HL.out,by rw[Hp.tu];exact HM.out,by omega,by omega,HE.out.trans HS.out,
      ro.ag (((Fr.refl L.fp wr).drewN n1).ag cX)⟩
    case measure=>simp[intOf];omega
   |false=>
    have HS:Hid (Hp.qs x f K k=K.put k x):=Hp.C7 (by rw[up,ha];simp);have HA:=aa ha;clear ha up hK l1 l2;go_wp2_with fail;refine(dN _ L K HK.out x y false HA.out (by rw[HM.out];exact hx) hy).mono ?_;rintro e w1 ⟨rfl,n1,rfl⟩;go_wp2_with fail;refine(gz _ L K (HK.out.drewN _) k x (by omega) (by rw[HL.out];omega) hx.1 (by rw[HM.out];exact hx.2)).mono ?_;rintro e w1 ⟨rfl,hp,cX⟩;have HP:=aa hp;clear hp;go_wp2_with fail;go_end0;exact⟨rfl,by rw[HE.out,HS.out];exact HP.out,ro.ag (((Fr.refl L.fp wr).drewN n1).ag cX)⟩
  ·have HS:Hid (Hp.qs x f K k=K.put k x):=Hp.C7 (fun h=>M0 h.1);have hz:k=0:=by omega
   subst hz;have HK:=aa hK;have HL:=aa l1;have HM:=aa l2;clear hK l1 l2;go_wp2_with fail;refine(gz _ L K HK.out _ x (by omega) (by rw[HL.out];omega) hx.1 (by rw[HM.out];exact hx.2)).mono ?_;rintro e w1 ⟨rfl,hp,cX⟩;have HP:=aa hp;clear hp;go_wp2_with fail;go_end0;exact⟨rfl,by rw[HE.out,HS.out];exact HP.out,ro.ag cX⟩
def Hp.bS (H:Hp) (i:Nat):Nat:=if 2*i+2<H.items.length/\H.bF (H.it ((2*i+2:Nat):Int)) (H.it ((2*i+1:Nat):Int))=true then 2*i+2 else 2*i+1
def Hp.gF (x:Int):Nat->Hp->Nat->Hp
 |0,H,i=>H.put i x
 |f+1,H,i=>if 2*i+1<H.items.length/\H.bF (H.it ((H.bS i:Nat):Int)) x=true then Hp.gF x f (H.put i (H.it ((H.bS i:Nat):Int))) (H.bS i)else H.put i x
theorem Hp.xL {x:Int} {f:Nat} {H:Hp} {i b:Nat} (hb:H.bS i=b) (hi:2*i+1<H.items.length) (ha:H.bF (H.it ((b:Nat):Int)) x=true) (hf:1<=f):
  Hp.gF x f H i=Hp.gF x (f-1) (H.put i (H.it ((b:Nat):Int))) b:=by
 obtain⟨f,rfl⟩:∃g,f=g+1:=⟨f-1,by omega⟩
 simp only[Hp.gF,fl];rw[hb,aae ⟨hi,ha⟩]
theorem Hp.nS {x:Int} {f:Nat} {H:Hp} {i:Nat} (h:¬(2*i+1<H.items.length/\H.bF (H.it ((H.bS i:Nat):Int)) x=true)):Hp.gF x f H i=H.put i x:=by
 cases f with
 |zero=>rfl
 |succ f=>simp only[Hp.gF];rw[aac h]
theorem M9 (w:World) (L:fW) (H:Hp) (h:cI w L H) (hr:H.I9) (i:Nat) (Ie:i<H.items.length) (vD:H.items.length<=4611686018427387903):
  Calls Tryz.prog 219 #[.pointer (some ⟨L.a,0,none⟩), .int .i64 i] w fun e w'=>e= .returned (.tuple #[])/\cI w' L (Hp.gF (H.it i) H.items.length H i)/\Fr L.fp w w':=by
 have o0:=h.obj.cell 0;simp at o0;obtain⟨g,hg,ci,fi⟩:=h.jT (i:=i) (by omega) (by omega);rw[hg]at o0;have hx:=hr.it (i:=i) (by omega) (by omega);obtain⟨x,qg⟩:∃x,H.it i=x:=⟨_,rfl⟩
 rw[qg]at ci hx⊢;have ci':w.cell? ⟨g,i,none⟩=some (.int .i64 x):=by simpa using ci
 clear ci fi qg;have pt:(i:Int)<H.items.length:=by omega
 go_enter Tryz.func219,Tryz.ntmps219;go_wp2
 go_loopw [1,5] (fun iv kv wr=>∃(k f:Nat) (K:Hp),iv= .int .i64 k/\cI wr L K/\K.I9/\K.items.length=H.items.length/\K.at_.length=H.at_.length/\k<H.items.length/\H.items.length<=k+f/\
   Hid (Hp.gF x H.items.length H i=Hp.gF x f K k)/\Fr L.fp w wr) (fun iv _ _=>H.items.length-(intOf iv).toNat)
 case atStart=>exact⟨i,H.items.length,H,rfl,h,hr,rfl,rfl,Ie,by omega,rfl,Fr.refl _ _⟩
 case round=>
  obtain⟨k,f,K,rfl,hK,XO,l1,l2,hk,hkf,HE,ro⟩:=hrel;have q0:=hK.obj.cell 0;simp only[l1,hg,cU,co]at q0;by_cases hc:2*k+1<H.items.length
  ·have hc':2*(k:Int)+1<H.items.length:=by omega
   obtain⟨g',pU,cp,_⟩:=hK.jT (i:=(2*k+1:Nat)) (by omega) (by omega);rw[hg]at pU;cases pU;have hy:=XO.it (i:=(2*k+1:Nat)) (by omega) (by omega);obtain⟨y,up⟩:∃y,K.it ((2*k+1:Nat):Int)=y:=⟨_,rfl⟩
   rw[up]at cp hy;have cp':wr.cell? ⟨g,2*k+1,none⟩=some (.int .i64 y):=cp;clear cp;have Id:(k:Int)<H.items.length:=by omega
   have HK:=aa hK;have HL:=aa l1;have HM:=aa l2
   --aiI Yu round ats with Yu one acH is found
   by_cases yH:2*k+2<H.items.length
   ·have ak9:2*(k:Int)+1+1<H.items.length:=by omega
    obtain⟨g',pU,cp,_⟩:=hK.jT (i:=(2*k+2:Nat)) (by omega) (by omega);rw[hg]at pU;cases pU;have hz:=XO.it (i:=(2*k+2:Nat)) (by omega) (by omega);obtain⟨z,hze⟩:∃z,K.it ((2*k+2:Nat):Int)=z:=⟨_,rfl⟩
    rw[hze]at cp hz;have cz':wr.cell? ⟨g,2*k+1+1,none⟩=some (.int .i64 z):=cp;clear cp;have e1:IntKind.i64.wrap (2*(k:Int)+1+1)=2*(k:Int)+1+1:=IntWalk.i64_in _ (by omega);have HY:=aa up;have HZ:=aa hze;have fa:=aa e1;cases ha:K.bF z y with
    |true=>
     have hb:K.bS k=2*k+2:=by unfold Hp.bS;rw[aae ⟨by omega,by rw[hze,up];exact ha⟩]
     have HB:=aa hb;have HA:=aa ha;clear ha up hze hb hK l1 l2 e1;go_wp2_with fail;have e1:=fa.out;have e2:(2*(k:Int)+1+1).toNat=2*k+1+1:=(by omega)
     have e3:(0:Int)<=2*(k:Int)+1+1:=(by omega)
     have e4:(2*(k:Int)+1).toNat=2*k+1:=(by omega)
     have e5:(0:Int)<=2*(k:Int)+1:=by omega
     go_quiet ((go_at_call 176;exact JU (dN _ L K (HK.out.drewN _) z y true HA.out hz hy)))
     clear e1 e2 e3 e4 e5;go_wp2_with fail;cases te:K.bF z x with
     |true=>
      have HS:Hid (Hp.gF x f K k=Hp.gF x (f-1) (K.put k z) (2*k+2)):=by have :=Hp.xL (x:=x) (f:=f) (H:=K) (i:=k) HB.out (by rw[HL.out];exact hc) (by rw[HZ.out];exact te) (by omega);rw[HZ.out]at this;exact this
      have C1:=aa te;clear te;refine(dN _ L K (HK.out.drewN _) z x true C1.out hz (by rw[HM.out];exact hx)).mono ?_;rintro e w1 ⟨rfl,n1,rfl⟩;go_wp2_with fail;refine(gz _ L K (HK.out.drewN _) k z (by omega) (by rw[HL.out];omega) hz.1 hz.2).mono ?_;rintro e w1 ⟨rfl,hp,cX⟩;have HP:=aa hp;clear hp;go_wp2_with fail
      go_roundw
      case rel=>
       exact⟨2*k+2,f-1,K.put k z,by go_num,HP.out,XO.put hz.1 hz.2,by rw[Hp.eo];exact HL.out,by rw[Hp.tu];exact HM.out,by omega,by omega,HE.out.trans HS.out,
        ro.ag (((Fr.refl L.fp wr).drewN _).ag cX)⟩
      case measure=>simp[intOf];omega
     |false=>
      have HS:Hid (Hp.gF x f K k=K.put k x):=Hp.nS (by rw[HB.out,HZ.out,te];simp);have C1:=aa te;clear te;refine(dN _ L K (HK.out.drewN _) z x false C1.out hz (by rw[HM.out];exact hx)).mono ?_;rintro e w1 ⟨rfl,n1,rfl⟩;go_wp2_with fail;refine(gz _ L K (HK.out.drewN _) k x (by omega) (by rw[HL.out];omega) hx.1 (by rw[HM.out];exact hx.2)).mono ?_;rintro e w1 ⟨rfl,hp,cX⟩;have HP:=aa hp;clear hp;go_wp2_with fail;go_end0;exact⟨rfl,by rw[HE.out,HS.out];exact HP.out,ro.ag (((Fr.refl L.fp wr).drewN _).ag cX)⟩
    |false=>
     have hb:K.bS k=2*k+1:=by unfold Hp.bS;rw[aac (by rw[hze,up,ha];simp)]
     have HB:=aa hb;have HA:=aa ha;clear ha up hze hb hK l1 l2 e1;go_wp2_with fail;have e1:=fa.out;have e2:(2*(k:Int)+1+1).toNat=2*k+1+1:=(by omega)
     have e3:(0:Int)<=2*(k:Int)+1+1:=(by omega)
     have e4:(2*(k:Int)+1).toNat=2*k+1:=(by omega)
     have e5:(0:Int)<=2*(k:Int)+1:=by omega
     go_quiet ((go_at_call 176;exact JU (dN _ L K (HK.out.drewN _) z y false HA.out hz hy)))
     clear e1 e2 e3 e4 e5;go_wp2_with fail;cases te:K.bF y x with
     |true=>
      have HS:Hid (Hp.gF x f K k=Hp.gF x (f-1) (K.put k y) (2*k+1)):=by have :=Hp.xL (x:=x) (f:=f) (H:=K) (i:=k) HB.out (by rw[HL.out];exact hc) (by rw[HY.out];exact te) (by omega);rw[HY.out]at this;exact this
      have C1:=aa te;clear te;refine(dN _ L K (HK.out.drewN _) y x true C1.out hy (by rw[HM.out];exact hx)).mono ?_;rintro e w1 ⟨rfl,n1,rfl⟩;go_wp2_with fail;refine(gz _ L K (HK.out.drewN _) k y (by omega) (by rw[HL.out];omega) hy.1 hy.2).mono ?_;rintro e w1 ⟨rfl,hp,cX⟩;have HP:=aa hp;clear hp;go_wp2_with fail
      go_roundw
      case rel=>
       exact⟨2*k+1,f-1,K.put k y,by go_num,HP.out,XO.put hy.1 hy.2,by rw[Hp.eo];exact HL.out,by rw[Hp.tu];exact HM.out,by omega,by omega,HE.out.trans HS.out,
        ro.ag (((Fr.refl L.fp wr).drewN _).ag cX)⟩
      case measure=>simp[intOf];omega
     |false=>
      have HS:Hid (Hp.gF x f K k=K.put k x):=Hp.nS (by rw[HB.out,HY.out,te];simp);have C1:=aa te;clear te;refine(dN _ L K (HK.out.drewN _) y x false C1.out hy (by rw[HM.out];exact hx)).mono ?_;rintro e w1 ⟨rfl,n1,rfl⟩;go_wp2_with fail;refine(gz _ L K (HK.out.drewN _) k x (by omega) (by rw[HL.out];omega) hx.1 (by rw[HM.out];exact hx.2)).mono ?_;rintro e w1 ⟨rfl,hp,cX⟩;have HP:=aa hp;clear hp;go_wp2_with fail;go_end0;exact⟨rfl,by rw[HE.out,HS.out];exact HP.out,ro.ag (((Fr.refl L.fp wr).drewN _).ag cX)⟩
   ·have ak9:decide (2*(k:Int)+1+1<H.items.length)=false:=aah (by omega);have hb:K.bS k=2*k+1:=by unfold Hp.bS;rw[aac (by rw[l1];omega)]
    have e1:IntKind.i64.wrap (2*(k:Int)+1+1)=2*(k:Int)+1+1:=IntWalk.i64_in _ (by omega);have HB:=aa hb;have HY:=aa up;have fa:=aa e1;clear up hb hK l1 l2 e1;go_wp2_with fail;have e1:=fa.out
    go_quiet (fail)
    clear e1;go_wp2_with fail;cases te:K.bF y x with
    |true=>
     have HS:Hid (Hp.gF x f K k=Hp.gF x (f-1) (K.put k y) (2*k+1)):=by have :=Hp.xL (x:=x) (f:=f) (H:=K) (i:=k) HB.out (by rw[HL.out];exact hc) (by rw[HY.out];exact te) (by omega);rw[HY.out]at this;exact this
     have C1:=aa te;clear te;refine(dN _ L K (HK.out.drewN _) y x true C1.out hy (by rw[HM.out];exact hx)).mono ?_;rintro e w1 ⟨rfl,n1,rfl⟩;go_wp2_with fail;refine(gz _ L K (HK.out.drewN _) k y (by omega) (by rw[HL.out];omega) hy.1 hy.2).mono ?_;rintro e w1 ⟨rfl,hp,cX⟩;have HP:=aa hp;clear hp;go_wp2_with fail
     go_roundw
     case rel=>
      exact⟨2*k+1,f-1,K.put k y,by go_num,HP.out,XO.put hy.1 hy.2,by rw[Hp.eo];exact HL.out,by rw[Hp.tu];exact HM.out,by omega,by omega,HE.out.trans HS.out,
       ro.ag (((Fr.refl L.fp wr).drewN _).ag cX)⟩
     case measure=>simp[intOf];omega
    |false=>
     have HS:Hid (Hp.gF x f K k=K.put k x):=Hp.nS (by rw[HB.out,HY.out,te];simp);have C1:=aa te;clear te;refine(dN _ L K (HK.out.drewN _) y x false C1.out hy (by rw[HM.out];exact hx)).mono ?_;rintro e w1 ⟨rfl,n1,rfl⟩;go_wp2_with fail;refine(gz _ L K (HK.out.drewN _) k x (by omega) (by rw[HL.out];omega) hx.1 (by rw[HM.out];exact hx.2)).mono ?_;rintro e w1 ⟨rfl,hp,cX⟩;have HP:=aa hp;clear hp;go_wp2_with fail;go_end0;exact⟨rfl,by rw[HE.out,HS.out];exact HP.out,ro.ag (((Fr.refl L.fp wr).drewN _).ag cX)⟩
  ·have HS:Hid (Hp.gF x f K k=K.put k x):=Hp.nS (fun h=>hc (by rw[<-l1];exact h.1));have hc':¬2*(k:Int)+1<H.items.length:=by omega
   have HK:=aa hK;have HL:=aa l1;have HM:=aa l2;clear hK l1 l2;go_wp2_with fail;refine(gz _ L K HK.out k x (by omega) (by rw[HL.out];omega) hx.1 (by rw[HM.out];exact hx.2)).mono ?_;rintro e w1 ⟨rfl,hp,cX⟩;have HP:=aa hp;clear hp;go_wp2_with fail;go_end0;exact⟨rfl,by rw[HE.out,HS.out];exact HP.out,ro.ag cX⟩
theorem pT:(Tryz.prog.info? 3).map (fun i=>(i.zero,i.size,i.bytes))=some (some (.int .i64 0),1,8):=by kernel_rfl
theorem jl {A:Option Addr} {n c:Nat}:∀k,(Value.slice A n c).ownBlock=some k↔k∈ak A:=by
 intro k;rcases A with _ |ad
 ·simp[Value.ownBlock,ak]
 ·simp[Value.ownBlock,ak,eq_comm]
theorem o5 (w:World) (ty:TypeId) (A:Option Addr) (c:Nat) (xs:List Int) (dw:Ints w A c xs) (ad:Addr) (c':Nat) (y:Int) (hy:w.cell? ad=some (.int .i64 y)) (hlen:xs.length<17592186044416):
  ∃g cap w',(Builtin.append_ #[22,22] ty #[.slice A xs.length c, .slice (some ad) 1 c']).run Tryz.prog w= .ok (.slice (some ⟨g,0,none⟩) (xs.length+1) cap) w'/\
   Ints w' (some ⟨g,0,none⟩) cap (xs++[y])/\Fr (ak A) w w'/\(g∈ak A\/g=w.heap.size)/\w.heap.size<=w'.heap.size:=by
 obtain⟨i0,hi,vy,nN,za⟩:=info_parts pT;obtain⟨v',w',hr,h2,h3,h4,h5⟩:=run_append_own_at (P:=Tryz.prog) w 0 22 ty 3 i0 (.int .i64 0) 1 8 Tryz.underlying22 hi vy nN za rfl (by decide) (.slice A xs.length c) xs.length _ dw
  ad 1 c' [.int .i64 y] rfl (by
   intro j u hj
   match j,hj with
   |0,hj=>
    simp at hj;subst hj;simpa[Addr.add]using hy) (by simp[Value.oneCell']) (by unfold maxLen;omega) (by omega) (bR _)
 have hv:∃g cap,v'= .slice (some ⟨g,0,none⟩) (xs.length+1) cap:=by
  rcases h2.2 with⟨_,h0⟩ |⟨g,cap,cur,hv,_⟩
  ·omega
  ·exact⟨g,cap,hv⟩
 obtain⟨g,cap,rfl⟩:=hv;refine⟨g,cap,w',hr,?_,?_,?_,h3.size⟩
 ·unfold Ints;simpa using h2
 ·exact(Fr.refl _ w).grown h3 fun k hk=> .inl ((jl k).1 hk)
 ·rcases h5 with h5 |h5
  ·exact .inl ((jl g).1 h5.symm)
  ·simp only[Value.ownBlock,Option.some.injEq]at h5;exact .inr h5
theorem dd (w:World) {ops:Array Oper} {rest:List Oper} {o:Oper} {a:Act} {Q:Exit->Act->World->Prop} (ow:o.guard=none) (s x:Operand)
  (ho:o.op= .call { callee:= .builtin .append,args:=#[s,x],argTypes:=#[22,22] }) (A:Option Addr) (c:Nat) (xs:List Int) (n:Nat) (hs:a.eval s= .slice A n c) (hn:n=xs.length) (dw:Ints w A c xs)
  (ad:Addr) (c':Nat) (y:Int) (hx:a.eval x= .slice (some ad) 1 c') (hy:w.cell? ad=some (.int .i64 y)) (hlen:xs.length<17592186044416)
  (h:∀g cap w',Ints w' (some ⟨g,0,none⟩) cap (xs++[y])->Fr (ak A) w w'->(g∈ak A\/g=w.heap.size)->w.heap.size<=w'.heap.size->wpList Tryz.prog ops Q rest (a.put o.dst (.slice (some ⟨g,0,none⟩) (n+1) cap)) w'):
  wpList Tryz.prog ops Q (o::rest) a w:=by
 subst hn;refine wpList_plain ow fun K hK=> ?_;obtain⟨g,cap,w',hr,h2,h3,h4,h5⟩:=o5 w o.type A c xs dw ad c' y hy hlen;unfold Oper.wp execOp;simp only[ho,resolve,invoke,builtin,Sem.run_bind,Sem.run_pure,Result.andThen_ok,List.map_toArray,cj,dv,hs,hx,hr];exact hK _ _ (h g cap w' h2 h3 h4 h5)
theorem bV {w:World} {ops:Array Oper} {o:Oper} {a:Act} {K:Act->World->Prop} {Q:Exit->Act->World->Prop} {E:Prop} (ow:o.guard=none) (s x:Operand)
  (ho:o.op= .call { callee:= .builtin .append,args:=#[s,x],argTypes:=#[22,22] }) (A:Option Addr) (c:Nat) (xs:List Int) (n:Nat) (hs:a.eval s= .slice A n c) (hn:n=xs.length) (dw:Ints w A c xs)
  (ad:Addr) (c':Nat) (y:Int) (hx:a.eval x= .slice (some ad) 1 c') (hy:w.cell? ad=some (.int .i64 y)) (hlen:xs.length<17592186044416)
  (h:∀g cap w',Ints w' (some ⟨g,0,none⟩) cap (xs++[y])->Fr (ak A) w w'->(g∈ak A\/g=w.heap.size)->w.heap.size<=w'.heap.size->K (a.put o.dst (.slice (some ⟨g,0,none⟩) (n+1) cap)) w'):
  if Region.wanted o (yielded ops a.tmps)=true then Oper.wp Tryz.prog o a w K Q else E:=by
 have hw:Region.wanted o (yielded ops a.tmps)=true:=by simp[Region.wanted,ow]
 rw[aae hw];subst hn;obtain⟨g,cap,w',hr,h2,h3,h4,h5⟩:=o5 w o.type A c xs dw ad c' y hy hlen;unfold Oper.wp execOp;simp only[ho,resolve,invoke,builtin,Sem.run_bind,Sem.run_pure,Result.andThen_ok,List.map_toArray,cj,dv,hs,hx,hr];exact h g cap w' h2 h3 h4 h5
theorem EE (w:World) (L:fW) (H:Hp) (h:cI w L H):
  Calls Tryz.prog 218 #[.pointer (some ⟨L.a,0,none⟩)] w fun e w'=>e= .returned (.int .i64 H.items.length)/\w=w':=by
 have o0:=h.obj.cell 0;simp at o0;go_enter Tryz.func218,Tryz.ntmps218;go_wp2;go_ret;exact⟨rfl,rfl⟩
theorem Hp.dB {H:Hp} {x:Int} (h:H.jq x=true):0<=x/\x<H.at_.length:=by simpa[Hp.jq]using h
theorem iR (w:World) (L:fW) (H:Hp) (h:cI w L H) (x:Int) (b:Bool) (hb:H.jq x=b):
  Calls Tryz.prog 147 #[.pointer (some ⟨L.a,0,none⟩), .int .i64 x] w fun e w'=>e= .returned (.bool b)/\w=w':=by
 subst hb;exact VA w L H h x
theorem cI.alloc {w:World} {L:fW} {H:Hp} (h:cI w L H) (o:Obj):cI (w.alloc o) L H:=
 ⟨h.obj.alloc o,h.items.alloc o,h.at_.alloc o,h.score.alloc o,h.nodup,h.same⟩
theorem cI.fr {w w':World} {L:fW} {H:Hp} {S:List Nat} (h:cI w L H) (hf:Fr S w w') (hd:∀k,k∈L.fp->k∉S):cI w' L H:=
 ⟨hf.at_ h.obj (hd _ (by simp[fW.fp])),h.items.fr hf fun k hk=>hd k (by simp[fW.fp,hk]),h.at_.fr hf fun k hk=>hd k (by simp[fW.fp,hk]),h.score.fr hf fun k hk=>hd k (by simp[fW.fp,hk]),h.nodup,h.same⟩
theorem cI.lt {w:World} {L:fW} {H:Hp} (h:cI w L H):∀k,k∈L.fp->k<w.heap.size:=by
 intro k hk;simp only[fW.fp,av,ah]at hk;rcases hk with rfl |hk |hk |hk
 ·exact h.obj.lt
 ·exact h.items.lt k hk
 ·exact h.at_.lt k hk
 ·exact h.score.lt k hk
theorem cI.PM {w w':World} {L:fW} {H:Hp} (h:cI w L H) {g cap:Nat} {items:List Int} (hi:Ints w' (some ⟨g,0,none⟩) cap items) (hf:Fr (ak L.A1) w w') (hg:g∈ak L.A1\/g=w.heap.size):
  cI (w'.setCell ⟨L.a,0,none⟩ (.slice (some ⟨g,0,none⟩) items.length cap)) { L with A1:=some ⟨g,0,none⟩,c1:=cap } { H with items:=items }:=by
 obtain⟨h1,h2,h3⟩:=iI h.nodup;have bw:=h.lt;have pu:g≠L.a:=by
  rcases hg with hg |hg
  ·exact(h1 g hg).1
  ·have :=h.obj.lt;omega
 have fE:g∉ak L.A2:=by
  rcases hg with hg |hg
  ·exact(h1 g hg).2.1
  ·intro hk;have :=h.at_.lt g hk;omega
 have xp:g∉ak L.A3:=by
  rcases hg with hg |hg
  ·exact(h1 g hg).2.2
  ·intro hk;have :=h.score.lt g hk;omega
 have hb:ak (some ⟨g,0,none⟩)=[g]:=rfl;refine⟨?_,?_,?_,?_,?_,h.same⟩
 ·have :=(hf.at_ h.obj (fun hk=>(h1 _ hk).1 rfl)).eu 0 (.slice (some ⟨g,0,none⟩) items.length cap);simpa using this
 ·exact hi.gN (by rw[hb];simpa using fun e=>pu e.symm) _
 ·exact(h.at_.fr hf fun k hk qG=>(h1 k qG).2.1 hk).gN (fun hk=>(h2 _ hk).1 rfl) _
 ·exact(h.score.fr hf fun k hk qG=>(h1 k qG).2.2 hk).gN (fun hk=>(h3 _ hk).1 rfl) _
 ·have hn:=h.nodup;simp only[fW.fp,fG,ah,List.nodup_append,hb,ai,cd,not_false_eq_true,List.nodup_nil,true_and,and_true]at hn⊢;obtain⟨n1,n2,n3,n4⟩:=hn;refine⟨?_,n3,?_⟩
  ·rintro(e |hk)
   ·exact pu e.symm
   ·exact n1 (.inr hk)
  ·rintro _ rfl b hb' rfl;exact hb'.elim fE xp
def Hp.rY (H:Hp) (x:Int):Hp:=Hp.qs x (H.items.length+1) { H with items:=H.items++[x],at_:=H.at_.set x.toNat H.items.length } H.items.length
def fW.ext (L L':fW) (w:World):Prop:=L'.a=L.a/\(∀k,k∈L'.fp->k∈L.fp\/w.heap.size<=k)/\(L.A2.isSome=true->L'.A2.isSome=true)
theorem BY (w:World) (L:fW) (H:Hp) (h:cI w L H) (x:Int) (hx:H.jq x=false\/H.jq x=true/\0<=H.pl x):
  Calls Tryz.prog 119 #[.pointer (some ⟨L.a,0,none⟩), .int .i64 x] w fun e w'=>e= .returned (.bool false)/\w=w':=by
 have o1:=h.obj.cell 1;simp at o1;rcases hx with hb |⟨hb,hp⟩
 ·have HB:=aa hb;have HH:=aa h;clear hb h;go_enter Tryz.func119,Tryz.ntmps119;go_wp2_with fail;refine(iR _ L H HH.out x false HB.out).mono ?_;rintro e w1 ⟨rfl,rfl⟩;go_wp2_with fail;go_ret;exact⟨rfl,rfl⟩
 ·obtain⟨h0,h1⟩:=Hp.dB hb;obtain⟨g,hg,ci,fi⟩:=h.yh h0 h1;rw[hg]at o1;have HB:=aa hb;have HH:=aa h;clear hb h;go_enter Tryz.func119,Tryz.ntmps119;go_wp2_with fail;refine(iR _ L H HH.out x true HB.out).mono ?_;rintro e w1 ⟨rfl,rfl⟩;go_wp2_with fail;go_ret;exact⟨rfl,rfl⟩
theorem zg (w:World) (L:fW) (H:Hp) (h:cI w L H) (hr:H.I9) (x:Int) (hb:H.jq x=true) (hp:H.pl x<0) (hlen:H.items.length<1048576):
  Calls Tryz.prog 119 #[.pointer (some ⟨L.a,0,none⟩), .int .i64 x] w fun e w'=>e= .returned (.bool true)/\∃L',cI w' L' (H.rY x)/\L.ext L' w/\Fr L.fp w w':=by
 have o0:=h.obj.cell 0;have o1:=h.obj.cell 1;simp at o0 o1;obtain⟨h0,h1⟩:=Hp.dB hb;obtain⟨g2,fE,ci,fi⟩:=h.yh h0 h1;rw[fE]at o1;have oa:=h.obj.frozen 0;have HB:=aa hb;have HH:=aa h;have HR:=aa hr;have n8:=aa fE;have bw:=h.obj.lt;clear hb h hr fE;go_enter Tryz.func119,Tryz.ntmps119;go_wp2_with fail;refine(iR _ L H HH.out x true HB.out).mono ?_;rintro e w1 ⟨rfl,rfl⟩;have th:Hid (L.a∉ak L.A1):=fun hk=>((iI HH.out.nodup).1 _ hk).1 rfl;go_wp2_with (at_builtin;refine dd _ rfl _ _ rfl L.A1 L.c1 H.items _ rfl rfl (HH.out.items.alloc _) ⟨w.heap.size,0,none⟩ 1 x rfl (by simp) (by omega) ?_;intro g cap w2 pt bW fE lX;have q2:=bW.at_ (HH.out.obj.alloc _) th.out;have q3:=q2.cell 0;have q4:=q2.frozen 0;simp at q3;have HI:=aa pt;have HF:=aa bW;have HQ:=aa fE;have HS:=aa lX;clear q2 pt bW fE lX)
 have hN:cI (w2.setCell ⟨L.a,0,none⟩ (.slice (some ⟨g,0,none⟩) (H.items.length+1) cap)) { L with A1:=some ⟨g,0,none⟩,c1:=cap } { H with items:=H.items++[x] }:=by have :=cI.PM (HH.out.alloc _) HI.out HF.out HQ.out;simpa using this
 have hF:Fr L.fp w (w2.setCell ⟨L.a,0,none⟩ (.slice (some ⟨g,0,none⟩) (H.items.length+1) cap)):=
  (((Fr.refl L.fp w).alloc _).trans HF.out (fun k hk=> .inl (by simp[fW.fp,hk]))).setCell (.inl (by simp[fW.fp])) _
 have hX:∀k,k∈({ L with A1:=some ⟨g,0,none⟩,c1:=cap }:fW).fp->k∈L.fp\/w.heap.size<=k:=by
  intro k hk;simp only[fW.fp,av,ah,ak,cD,fI,cd,or_false]at hk⊢;rcases hk with hk |hk |hk |hk
  ·exact .inl (.inl hk)
  ·rcases HQ.out with hq |hq
   ·exact .inl (.inr (.inl (by rw[hk];exact hq)))
   ·right;rw[hk,hq];simp
  ·exact .inl (.inr (.inr (.inl hk)))
  ·exact .inl (.inr (.inr (.inr hk)))
 obtain⟨W,hW⟩:∃W,W=w2.setCell ⟨L.a,0,none⟩ (.slice (some ⟨g,0,none⟩) (H.items.length+1) cap):=⟨_,rfl⟩
 rw[<-hW]at hN hF⊢;clear hW o0 o1 ci fi oa q3 q4;have p0:=hN.obj.cell 0;have p1:=hN.obj.cell 1;simp[n8.out]at p0 p1;have fE:=n8.out;obtain⟨g',pU,ci,fi⟩:=hN.yh (i:=x) h0 h1;simp only[fE,Option.some.injEq,Addr.mk.injEq,and_true]at pU;subst pU;have hM:=hN.Yy (g:=g2) fE x.toNat H.items.length;have HM:=aa hM;have HF:=aa hF;have HX:=aa hX;clear hM hF hX hN fE;have aoS:(H.items.length:Int)<1048576:=by omega
 go_region;obtain⟨V,hV⟩:∃V,V=(W.setCell ⟨g2,x.toNat,none⟩ (.int .i64 H.items.length)).drew:=⟨_,rfl⟩
 rw[<-hV];have hM:cI V { L with A1:=some ⟨g,0,none⟩,c1:=cap } { H with items:=H.items++[x],at_:=H.at_.set x.toNat H.items.length }:=by rw[hV];exact HM.out.drew
 have CS:Fr L.fp w V:=by rw[hV];exact(HF.out.setCell (.inl (by simp[fW.fp,n8.out,ak])) _).drew
 clear hV p0 p1 ci fi HM HF hp;have p1:=hM.obj.cell 1;simp[n8.out]at p1;have fE:=n8.out;obtain⟨g',pU,ci,_⟩:=hM.yh (i:=x) h0 (by simpa using h1);simp only[fE,Option.some.injEq,Addr.mk.injEq,and_true]at pU;subst pU;have gd:x.toNat<H.at_.length:=by omega
 simp only[Hp.pl,ae,List.getElem?_set_self gd,ay]at ci;have HM:=aa hM;have HF:=aa CS;clear hM CS fE;go_wp2_with fail;refine(Kj _ _ _ HM.out ?_ H.items.length (by simp)).mono ?_
 ·intro j hj;have ZY:j<H.items.length+1:=by simpa using hj
  simp only[ao];by_cases e:j<H.items.length
  ·have :(H.items++[x])[j]! =H.items[j]! :=by simp[ae,cJ e]
   rw[this];exact HR.out j e
  ·have e':j=H.items.length:=by omega
   subst e';have :(H.items++[x])[H.items.length]! =x:=by simp
   rw[this];exact⟨h0,h1⟩
 rintro e w1 ⟨rfl,hp,cX⟩;have HP:=aa hp;have dI:=aa cX;clear hp cX p1 ci;go_wp2_with fail;go_ret;refine⟨rfl,{ L with A1:=some ⟨g,0,none⟩,c1:=cap },?_,⟨rfl,HX.out,id⟩,?_⟩
 ·have :=HP.out;have e1:Hp.it { H with items:=H.items++[x],at_:=H.at_.set x.toNat H.items.length } (H.items.length:Nat)=x:=by simp[Hp.it]
  rw[e1]at this;exact this
 ·exact HF.out.trans dI.out HX.out
theorem ED (w:World) (L:fW) (H:Hp) (h:cI w L H) (hn:H.items=[]):
  Calls Tryz.prog 204 #[.pointer (some ⟨L.a,0,none⟩)] w fun e w'=>e= .returned (.tuple #[.int .i64 0, .bool false])/\w=w':=by
 have hl:=EE w L H h;rw[hn]at hl;have HL:=aa hl;clear hl h;go_enter Tryz.func204,Tryz.ntmps204;go_wp2_with fail;refine HL.out.mono ?_;rintro e w1 ⟨rfl,rfl⟩;go_wp2_with fail;go_ret2;exact⟨rfl,rfl⟩
def Hp.kc (H:Hp):Hp:=
 let n:=H.items.length-1;let K:Hp:={ H with items:=H.items.take n,at_:=H.at_.set (H.it 0).toNat (-1) }
 if n=0 then K else Hp.gF (H.it n) n (K.put 0 (H.it n)) 0
theorem cI.cut {w:World} {L:fW} {H:Hp} (h:cI w L H) (k:Nat) (hk:k<=H.items.length):cI (w.setCell ⟨L.a,0,none⟩ (.slice L.A1 k L.c1)) L { H with items:=H.items.take k }:=by
 obtain⟨h1,h2,h3⟩:=iI h.nodup;refine⟨?_,?_,?_,?_,h.nodup,h.same⟩
 ·have :=h.obj.eu 0 (.slice L.A1 k L.c1);have e:(H.items.take k).length=k:=by simp;omega
  simpa[e]using this
 ·exact(h.items.qw k).gN (fun hk=>(h1 _ hk).1 rfl) _
 ·exact h.at_.gN (fun hk=>(h2 _ hk).1 rfl) _
 ·exact h.score.gN (fun hk=>(h3 _ hk).1 rfl) _
theorem BZ (w:World) (L:fW) (H:Hp) (h:cI w L H) (hr:H.I9) (n:Nat) (hn:H.items.length=n+1) (hlen:H.items.length<1048576):
  Calls Tryz.prog 204 #[.pointer (some ⟨L.a,0,none⟩)] w fun e w'=>e= .returned (.tuple #[.int .i64 (H.it 0), .bool true])/\cI w' L H.kc/\Fr L.fp w w':=by
 have o0:=h.obj.cell 0;have o1:=h.obj.cell 1;simp at o0 o1;obtain⟨g,hg,c0,_⟩:=h.jT (i:=0) (by omega) (by omega);obtain⟨g',pU,cn,_⟩:=h.jT (i:=n) (by omega) (by omega);rw[hg]at pU o0;cases pU;have hx:=hr.it (i:=0) (by omega) (by omega);have hy:=hr.it (i:=n) (by omega) (by omega);obtain⟨g2,fE,cx,fx⟩:=h.yh hx.1 hx.2;rw[fE]at o1;have hl:=EE w L H h;rw[hn]at hl o0;have oy:n+1<=L.c1:=by
  rcases h.items.form with⟨_,_,h0⟩ |⟨_,_,_,h0,_⟩
  ·rw[h0]at hn;simp at hn
  ·omega
 have dS:g≠g2:=fun e=>((iI h.nodup).1 g (by simp[hg,ak])).2.1 (by simp[fE,ak,e]);have hna:L.a≠g2:=fun e=>((iI h.nodup).2.1 g2 (by simp[fE,ak])).1 e.symm;have oa:=h.obj.frozen 0;have hM:=(h.cut n (by omega)).Yy (g:=g2) fE (H.it 0).toNat (-1);rw[hg]at hM;have hF:Fr L.fp w ((w.setCell ⟨L.a,0,none⟩ (.slice (some ⟨g,0,none⟩) n L.c1)).setCell ⟨g2,(H.it 0).toNat,none⟩ (.int .i64 (-1))):=
  ((Fr.refl L.fp w).setCell (.inl (by simp[fW.fp])) _).setCell (.inl (by simp[fW.fp,fE,ak])) _
 have HM:=aa hM;have HF:=aa hF;have HL:=aa hl;have HG:=aa hg;have n8:=aa fE;have HR:=aa hr;have HN:=aa hn;simp only[Int.toNat_zero,Int.toNat_natCast]at c0 cn;obtain⟨x,qg⟩:∃x,H.it 0=x:=⟨_,rfl⟩
 obtain⟨y,up⟩:∃y,H.it n=y:=⟨_,rfl⟩
 rw[qg]at c0 cx fx hx HM HF⊢;rw[up]at cn hy;have HXE:=aa qg;have HYE:=aa up;have ke:(n:Int)+1<1048576:=by omega
 clear hM hF hl hg fE hr hn qg up h hlen;go_enter Tryz.func204,Tryz.ntmps204;go_wp2_with fail;refine HL.out.mono ?_;rintro e w1 ⟨rfl,rfl⟩;have ez:((n:Int)+1==0)=false:=aar.2 (by omega);have ez':(((n+1:Nat):Int)==0)=false:=aar.2 (by omega);go_wp2_with fail;go_region;go_wp2_with fail;go_region;obtain⟨V,hV⟩:∃V,V=((w.setCell ⟨L.a,0,none⟩ (.slice (some ⟨g,0,none⟩) n L.c1)).setCell ⟨g2,x.toNat,none⟩ (.int .i64 (-1))).drew.drew:=⟨_,rfl⟩
 rw[<-hV];have hM:cI V L { H with items:=H.items.take n,at_:=H.at_.set x.toNat (-1) }:=by rw[hV];exact HM.out.drew.drew
 have hF:Fr L.fp w V:=by rw[hV];exact HF.out.drew.drew
 clear hV HM HF o0 o1 c0 cn cx fx oa;have hlen:(H.items.take n).length=n:=by have :=HN.out;simp;omega
 have HM:=aa hM;have HF:=aa hF;have CI:=aa hlen;clear hM hF hlen;by_cases hz:n=0
 ·subst hz;have HP:Hid (H.kc={ H with items:=H.items.take 0,at_:=H.at_.set x.toNat (-1) }):=by show _=_;unfold Hp.kc;rw[HN.out,HXE.out];simp
  go_wp2_with fail;go_ret2;exact⟨rfl,by rw[HP.out];exact HM.out,HF.out⟩
 ·have Xy:0<n:=by omega
  have HP:Hid (H.kc=Hp.gF y n (Hp.put { H with items:=H.items.take n,at_:=H.at_.set x.toNat (-1) } 0 y) 0):=by show _=_;unfold Hp.kc;rw[HN.out,HXE.out];simp only[fl];rw[aac hz,HYE.out]
  have hK:Hp.I9 (Hp.put { H with items:=H.items.take n,at_:=H.at_.set x.toNat (-1) } 0 y):=by
   refine Hp.I9.put (fun j hj=> ?_) hy.1 (by simpa using hy.2);have hl:=CI.out;have hn':=HN.out;have e:(H.items.take n)[j]! =H.items[j]! :=by simp only[ae,List.getElem?_take];rw[aae (by simp only[hl]at hj;exact hj)]
   simp only[e,ao];exact HR.out j (by simp only[hl]at hj;omega)
  have HK:=aa hK;clear hK hz ez ez';go_wp2_with fail;refine(gz _ L _ HM.out 0 y (by omega) (by rw[show({ H with items:=H.items.take n,at_:=H.at_.set x.toNat (-1) }:Hp).items.length=n from CI.out];omega) hy.1 (by simpa using hy.2)).mono ?_;rintro e w1 ⟨rfl,hp,cX⟩;have HP1:=aa hp;have dI:=aa cX;have Ap:(Hp.put { H with items:=H.items.take n,at_:=H.at_.set x.toNat (-1) } 0 y).items.length=n:=by rw[Hp.eo];exact CI.out
  have adV:(Hp.put { H with items:=H.items.take n,at_:=H.at_.set x.toNat (-1) } 0 y).it (0:Nat)=y:=by
   have hl:=CI.out;have :0<(H.items.take n).length:=by omega
   simp[Hp.it,Hp.put,ae,List.getElem?_set_self this]
  have kr:=aa Ap;have HPI:=aa adV;clear hp cX Ap adV;go_wp2_with fail;refine(M9 _ L _ HP1.out HK.out 0 (by rw[kr.out];omega) (by rw[kr.out];omega)).mono ?_;rintro e w2 ⟨rfl,hp,cX⟩;have CG:=aa hp;have cw:=aa cX;clear hp cX;go_wp2_with fail;go_ret2;refine⟨rfl,?_,(HF.out.ag dI.out).ag cw.out⟩;rw[HP.out];have :=CG.out;rw[HPI.out,kr.out]at this;exact this
def Hp.kb (H:Hp) (x b:Int):Hp:=
 if H.jq x=true/\0<=b/\b<=1099511627776/\H.sc x<=1125899906842624-b then
  let K:Hp:={ H with score:=H.score.set x.toNat (H.sc x+b) }
  if 0<=H.pl x then Hp.qs (K.it (H.pl x)) ((H.pl x).toNat+1) K (H.pl x).toNat else K
 else H
theorem zf (w:World) (L:fW) (H:Hp) (h:cI w L H) (x b:Int) (rE:¬(H.jq x=true/\0<=b/\b<=1099511627776/\H.sc x<=1125899906842624-b)):
  Calls Tryz.prog 215 #[.pointer (some ⟨L.a,0,none⟩), .int .i64 x, .int .i64 b] w fun e w'=>e= .returned (.tuple #[])/\w=w':=by
 have o2:=h.obj.cell 2;simp at o2;have hs:=h.same;cases hb:H.jq x with
 |false=>
  have HB:=aa hb;have HH:=aa h;clear hb h rE hs;go_enter Tryz.func215,Tryz.ntmps215;go_wp2_with fail;refine(iR _ L H HH.out x false HB.out).mono ?_;rintro e w1 ⟨rfl,rfl⟩;go_wp2_with fail;refine bodyPost_ret (results_none rfl _ _ _) rfl ?_;exact⟨rfl,rfl⟩
 |true=>
  obtain⟨h0,h1⟩:=Hp.dB hb;obtain⟨g,hg,ci⟩:=h.aN h0 h1;rw[hg]at o2;have h2:x<H.score.length:=by omega
  obtain⟨s,hse⟩:∃s,H.sc x=s:=⟨_,rfl⟩
  rw[hse]at ci rE;have HB:=aa hb;have HH:=aa h;by_cases FL:b<0
  ·clear hb h hs rE;go_enter Tryz.func215,Tryz.ntmps215;go_wp2_with fail;refine(iR _ L H HH.out x true HB.out).mono ?_;rintro e w1 ⟨rfl,rfl⟩;go_wp2_with fail;refine bodyPost_ret (results_none rfl _ _ _) rfl ?_;exact⟨rfl,rfl⟩
  ·by_cases qk:1099511627776<b
   ·clear hb h hs rE;go_enter Tryz.func215,Tryz.ntmps215;go_wp2_with fail;refine(iR _ L H HH.out x true HB.out).mono ?_;rintro e w1 ⟨rfl,rfl⟩;go_wp2_with fail;refine bodyPost_ret (results_none rfl _ _ _) rfl ?_;exact⟨rfl,rfl⟩
   ·have iK:1125899906842624-b<s:=by
     rcases Int.lt_or_le (1125899906842624-b) s with h |h
     ·exact h
     ·exact absurd ⟨hb,by omega,by omega,h⟩ rE
    clear hb h hs rE;go_enter Tryz.func215,Tryz.ntmps215;go_wp2_with fail;refine(iR _ L H HH.out x true HB.out).mono ?_;rintro e w1 ⟨rfl,rfl⟩;go_wp2_with fail;refine bodyPost_ret (results_none rfl _ _ _) rfl ?_;exact⟨rfl,rfl⟩
theorem cI.aiP {w:World} {L:fW} {H:Hp} (h:cI w L H) {g:Nat} (hg:L.A3=some ⟨g,0,none⟩) (i:Nat) (x:Int):
  cI (w.setCell ⟨g,i,none⟩ (.int .i64 x)) L { H with score:=H.score.set i x }:=by
 obtain⟨h1,h2,h3⟩:=iI h.nodup;have hm:g∈ak L.A3:=by simp[hg,ak]
 refine⟨?_,?_,?_,?_,h.nodup,by simpa using h.same⟩
 ·have :=h.obj.gN (p:=⟨g,i,none⟩) (fun e=>(h3 g hm).1 e.symm) (.int .i64 x);simpa using this
 ·exact h.items.gN (fun hk=>(h3 g hm).2.1 hk) _
 ·exact h.at_.gN (fun hk=>(h3 g hm).2.2 hk) _
 ·have :=h.score;rw[hg]at this⊢;exact this.eu i x
theorem xq (w:World) (L:fW) (H:Hp) (h:cI w L H) (hr:H.I9) (x b:Int) (hb:H.jq x=true) (FL:0<=b) (qk:b<=1099511627776) (iK:H.sc x<=1125899906842624-b) (hs0:0<=H.sc x)
  (Ap:H.pl x<H.items.length):
  Calls Tryz.prog 215 #[.pointer (some ⟨L.a,0,none⟩), .int .i64 x, .int .i64 b] w fun e w'=>e= .returned (.tuple #[])/\cI w' L (H.kb x b)/\Fr L.fp w w':=by
 have o1:=h.obj.cell 1;have o2:=h.obj.cell 2;simp at o1 o2;have hs:=h.same;obtain⟨h0,h1⟩:=Hp.dB hb;obtain⟨g,hg,ci⟩:=h.aN h0 h1;obtain⟨g2,fE,cx,_⟩:=h.yh h0 h1;have fi:w.frozen? ⟨g,x.toNat,none⟩=false:=by have :=h.score;rw[hg]at this;exact this.frozen _
 rw[hg]at o2;rw[fE]at o1;have dS:g2≠g:=fun e=>((iI h.nodup).2.1 g2 (by simp[fE,ak])).2.2 (by simp[hg,ak,e]);have hna:L.a≠g:=fun e=>((iI h.nodup).2.2 g (by simp[hg,ak])).1 e.symm;have h2:x<H.score.length:=by omega
 have hM:=h.aiP hg x.toNat (H.sc x+b);have hF:Fr L.fp w (w.setCell ⟨g,x.toNat,none⟩ (.int .i64 (H.sc x+b))):=(Fr.refl L.fp w).setCell (.inl (by simp[fW.fp,hg,ak])) _;have hD:H.kb x b=if 0<=H.pl x then Hp.qs (Hp.it { H with score:=H.score.set x.toNat (H.sc x+b) } (H.pl x)) ((H.pl x).toNat+1) { H with score:=H.score.set x.toNat (H.sc x+b) } (H.pl x).toNat else{ H with score:=H.score.set x.toNat (H.sc x+b) }:=by unfold Hp.kb;rw[aae ⟨hb,FL,qk,iK⟩]
 obtain⟨s,hse⟩:∃s,H.sc x=s:=⟨_,rfl⟩
 obtain⟨p,hpe⟩:∃p,H.pl x=p:=⟨_,rfl⟩
 rw[hse]at ci iK hs0 hM hF hD;rw[hpe]at cx Ap hD;have cx2:(w.setCell ⟨g,x.toNat,none⟩ (.int .i64 (s+b))).cell? ⟨g2,x.toNat,none⟩=some (.int .i64 p):=by rw[World.cell?_setCell_other _ _ _ _ (by simp only[ne_eq,Addr.mk.injEq,not_and];exact fun e=>absurd e.symm dS)];exact cx
 have o12:(w.setCell ⟨g,x.toNat,none⟩ (.int .i64 (s+b))).cell? ⟨L.a,1,none⟩=some (.slice (some ⟨g2,0,none⟩) H.at_.length L.c2):=by rw[World.cell?_setCell_other _ _ _ _ (by simp only[ne_eq,Addr.mk.injEq,not_and];exact fun e=>absurd e.symm hna)];exact o1
 have HB:=aa hb;have HH:=aa h;have HM:=aa hM;have HF:=aa hF;have HD:=aa hD;have HR:=aa hr;have HC:=aa cx2;have HO:=aa o12;clear hb h hM hF hD hse hpe hr hs cx o1 cx2 o12 dS hna hg fE;go_enter Tryz.func215,Tryz.ntmps215;go_wp2_with fail;refine(iR _ L H HH.out x true HB.out).mono ?_;rintro e w1 ⟨rfl,rfl⟩;obtain⟨V,hV⟩:∃V,V=w.setCell ⟨g,x.toNat,none⟩ (.int .i64 (s+b)):=⟨_,rfl⟩
 have cx2:=HC.out;have o12:=HO.out;have tS: -1099511627776<=b:=by omega
 by_cases Qj:0<=p
 ·have Xt:(p.toNat:Int)=p:=by omega
  go_wp2_with fail;have e3:(Value.int .i64 p)= .int .i64 (p.toNat:Int):=by rw[Xt]
  rw[e3];refine(Kj _ L _ HM.out (fun j hj=>HR.out j hj) p.toNat (by show p.toNat<H.items.length;omega)).mono ?_;rintro e w2 ⟨rfl,hp,cX⟩;have HP:=aa hp;have dI:=aa cX;clear hp cX Xt e3;go_wp2_with fail;go_end0;refine⟨rfl,?_,HF.out.ag dI.out⟩;rw[HD.out,aae Qj];have :=HP.out;rw[show((p.toNat:Int))=p from by omega]at this;exact this
 ·go_wp2_with fail;go_end0;refine⟨rfl,?_,HF.out⟩;rw[HD.out,aac (by omega)];exact HM.out
def lo (oE n:Int):Int:=oE+min (max n 0) (262144-oE)
theorem M7 (w:World) (oE n:Int) (h0:0<=oE) (h1:oE<=262144):
  Calls Tryz.prog 146 #[.int .i64 oE, .int .i64 n] w fun e w'=>e= .returned (.int .i64 (lo oE n))/\w=w':=by
 by_cases Xy:n<0
 ·go_enter Tryz.func146,Tryz.ntmps146;go_wp2;go_ret;exact⟨Bu (by unfold lo;omega),rfl⟩
 ·by_cases hb:262144-oE<n
  ·go_enter Tryz.func146,Tryz.ntmps146;go_wp2;go_ret;exact⟨Bu (by unfold lo;omega),rfl⟩
  ·go_enter Tryz.func146,Tryz.ntmps146;go_wp2;go_ret;exact⟨Bu (by unfold lo;omega),rfl⟩
end
section
open Go
section
variable {P:Program} {ops:Array Oper} {Q:Exit->Act->World->Prop} {md:Region.Mode} {S:World->Prop} {k:Nat}
def kN (S:World->Prop) (k:Nat) (listed:Array Bool) (w:World):Prop:=listed.getD k false=true\/S w
def dR (P:Program) (md:Region.Mode) (ops:Array Oper) (Q:Exit->Act->World->Prop) (S:World->Prop) (k:Nat):Nat->Array Bool->Act->World->Prop
 |0,listed,a,w=>Region.ready md ops listed=[]/\Q .normal a w
 |fuel+1,listed,a,w=>
  (Region.ready md ops listed=[]->Q .normal a w)/\
  ∀i∈Region.ready md ops listed,wpOp P ops Q i (fun a' w'=>kN S k (listed.setIfInBounds i true) w'/\dR P md ops Q S k fuel (listed.setIfInBounds i true) a' w') a w
theorem vU:∀(fuel:Nat) (listed:Array Bool) (a:Act) (w:World),dR P md ops Q S k fuel listed a w->wpAny P md ops Q fuel listed a w
 |0,_,_,_,h=>h
 |fuel+1,_,_,_,h=>⟨h.1,fun i hi=>wpOp_mono (fun a' w' h'=>vU fuel _ a' w' h'.2) (h.2 i hi)⟩
def sW (md:Region.Mode) (ops:Array Oper) (C:List Nat) (i:Nat) (listed:Array Bool):Prop:=
 ∀x,x∈C->listed.getD x true=false/\(x=i\/∃y,y∈C/\∃ox e,ops[x]? =some ox/\e∈ox.after/\Region.binds md e=true/\e.on=y)
def chainB (md:Region.Mode) (ops:Array Oper) (C:List Nat) (i k:Nat) (listed:Array Bool):Bool:=
 C.contains k&&C.all fun x=> !listed.getD x true&&(x==i ||C.any fun y=>match ops[x]? with |some ox=>ox.after.any (fun e=>Region.binds md e&&e.on==y) |none=>false)
theorem E4 {C:List Nat} {i:Nat} {listed:Array Bool} (h:chainB md ops C i k listed=true):k∈C/\sW md ops C i listed:=by
 unfold chainB at h;rw[ax]at h;refine⟨by simpa using h.1,fun x hx=> ?_⟩;have :=ep.1 h.2 x hx;rw[ax]at this;refine⟨by simpa using this.1,?_⟩;rcases Bool.or_eq_true_iff.1 this.2 with h1 |h1
 ·exact .inl (by simpa using h1)
 ·right
  obtain⟨y,hy,h2⟩:=cq.1 h1;cases Kc:ops[x]? with
  |none=>rw[Kc]at h2;cases h2
  |some ox=>
   rw[Kc]at h2;obtain⟨e,he,hb⟩:=Array.any_eq_true'.1 h2;simp only[ax,beq_iff_eq]at hb;exact⟨y,hy,ox,e,rfl,he,hb.1,hb.2⟩
theorem sW.LN {C:List Nat} {i j:Nat} {listed:Array Bool} (h:sW md ops C i listed) (hj:j∈C) (rG:j≠i):j∉Region.ready md ops listed:=by
 intro hr;obtain⟨_,hw⟩:=h j hj;obtain⟨_,oj,Vh,ip⟩:=mem_ready.1 hr;rcases hw with hw |⟨y,hy,ox,e,Kc,he,hb,hon⟩
 ·exact rG hw
 ·rw[Vh]at Kc;cases Kc;have h1:=ip e he hb;have h2:=(h y hy).1;rw[hon]at h1;rcases bv y listed.size with hl |hl
  ·simp[hl]at h1 h2;rw[h2]at h1;cases h1
  ·simp[gf hl]at h2
theorem sW.step {C:List Nat} {i j:Nat} {listed:Array Bool} (h:sW md ops C i listed) (hj:j∉C):sW md ops C i (listed.setIfInBounds j true):=by
 intro x hx;obtain⟨h1,h2⟩:=h x hx;refine⟨?_,h2⟩;have dS:j≠x:=by rintro rfl;exact hj hx
 rw[getD_set_ne true dS];exact h1
theorem sW.Xa {C:List Nat} {i:Nat} {listed:Array Bool} (h:sW md ops C i listed) (hk:k∈C):listed.getD k false=false:=by
 have :=(h k hk).1;rcases bv k listed.size with hl |hl
 ·simp[hl]at this⊢;exact this
 ·simp[gf hl]at this
theorem AP {i:Nat} {oi:Oper} {v:Value} {C:List Nat} (hi:ops[i]? =some oi) (Qd:∀(j:Nat) (o:Oper) cs b,ops[j]? =some o->o.op≠ .select cs b)
  (Ov:k≠i) (hkC:k∈C) (hQ:∀c a w,Q (.panic c) (a.put oi.dst v) w->Q (.panic c) a w):
  ∀(fuel:Nat) (listed:Array Bool) (a:Act) (w:World),
   (∀j oj,ops[j]? =some oj->j≠i->listed.getD j true=false->(∀e∈oj.after,Region.binds md e=true->e.on≠i)->oi.apart ops oj=true)->
   sW md ops C i listed->i∈Region.ready md ops listed->YieldsIf P ops S oi v a->S w->
   dR P md ops Q S k fuel (listed.setIfInBounds i true) (a.put oi.dst v) w->dR P md ops Q S k (fuel+1) listed a w:=by
 intro fuel;induction fuel with
 |zero=>
  intro listed a w _ _ hr hy hS H;refine⟨fun h=>(by rw[h]at hr;cases hr),fun j hj=> ?_⟩;by_cases rG:j=i
  ·subst rG;exact hy.wpOp hi hS ⟨.inr hS,H⟩
  ·have :=ready_mono hj rG;rw[H.1]at this;cases this
 |succ fuel ih=>
  intro listed a w EB QU hr hy hS H;refine⟨fun h=>(by rw[h]at hr;cases hr),fun j hj=> ?_⟩;by_cases rG:j=i
  ·subst rG;exact hy.wpOp hi hS ⟨.inr hS,H⟩
  ·have h1:=H.2 j (ready_mono hj rG);have hjC:j∉C:=fun hC=>QU.LN hC rG hj;obtain⟨QG,oj,Vh,ip⟩:=mem_ready.1 hj;have Zz:∀e∈oj.after,Region.binds md e=true->e.on≠i:=fun e he hb heq=>by
    have h1:=ip e he hb;have h0:=(mem_ready.1 hr).1;rw[heq]at h1;rcases bv i listed.size with h' |h'
    ·simp[h']at h0 h1;rw[h0]at h1;cases h1
    ·simp[gf h']at h1
   have h2:=wpOp_putIf Vh (EB j oj Vh rG QG Zz) (fun cs b=>Qd i oi cs b hi) (fun cs b=>Qd j oj cs b Vh) hQ hy h1;have Ig:∀x ox,ops[x]? =some ox->x≠i->(listed.setIfInBounds j true).getD x true=false->
     (∀e∈ox.after,Region.binds md e=true->e.on≠i)->oi.apart ops ox=true:=fun x ox hx hxi hun rE=>by
    refine EB x ox hx hxi ?_ rE;by_cases hjx:j=x
    ·subst hjx;exact QG
    ·rw[getD_set_ne true hjx]at hun;exact hun
   have aeO:=QU.step hjC;refine wpOp_mono (fun a' w' h3=> ?_) h2;have vG:S w':=by
    rcases h3.2.1 with h4 |h4
    ·have h5:=aeO.Xa hkC;rw[Array.setIfInBounds_comm _ _ (Ne.symm rG),getD_set_ne false (Ne.symm Ov),h5]at h4;cases h4
    ·exact h4
   refine⟨.inr vG,ih (listed.setIfInBounds j true) a' w' Ig aeO (ready_mono hr (Ne.symm rG)) h3.1 vG ?_⟩;rw[Array.setIfInBounds_comm _ _ rG];exact h3.2.2
theorem ub {i:Nat} {oi:Oper} {v:Value} {fuel:Nat} {listed:Array Bool} {a:Act} {w:World} (C:List Nat) (hi:ops[i]? =some oi)
  (hs:Region.noSelect ops=true) (hf:Region.free md ops listed i=true) (hr:(Region.ready md ops listed).contains i=true) (hc:(chainB md ops C i k listed&&k !=i)=true)
  (hQ:∀c a w,Q (.panic c) (a.put oi.dst v) w->Q (.panic c) a w) (hy:YieldsIf P ops S oi v a) (hS:S w)
  (h:dR P md ops Q S k fuel (listed.setIfInBounds i true) (a.put oi.dst v) w):dR P md ops Q S k (fuel+1) listed a w:=by
 rw[ax]at hc;obtain⟨hkC,QU⟩:=E4 hc.1;exact AP hi (Region.noSelect_spec hs) (by simpa using hc.2) hkC hQ fuel listed a w (Region.free_spec hi hf) QU (by simpa using hr) hy hS h
theorem kN.more {listed:Array Bool} {w:World} (i:Nat) (h:kN S k listed w):kN S k (listed.setIfInBounds i true) w:=
 h.imp (fun h=>getD_set_true h) id
theorem kN.less {listed:Array Bool} {w:World} {i j:Nat} (Ov:k≠i) (h:kN S k ((listed.setIfInBounds i true).setIfInBounds j true) w) (rG:j≠i):kN S k (listed.setIfInBounds j true) w:=by
 rcases h with h |h
 ·rw[Array.setIfInBounds_comm _ _ (Ne.symm rG),getD_set_ne false (Ne.symm Ov)]at h;exact .inl h
 ·exact .inr h
theorem yP {i:Nat} {oi:Oper} {v:Value} (hi:ops[i]? =some oi) (Qd:∀(j:Nat) (o:Oper) cs b,ops[j]? =some o->o.op≠ .select cs b)
  (Ov:k≠i) (hQ:∀c a w,Q (.panic c) (a.put oi.dst v) w->Q (.panic c) a w):
  ∀(fuel:Nat) (listed:Array Bool) (a:Act) (w:World),
   (∀j oj,ops[j]? =some oj->j≠i->listed.getD j true=false->(∀e∈oj.after,Region.binds md e=true->e.on≠i)->oi.apart ops oj=true)->
   i∈Region.ready md ops listed->YieldsIf P ops (fun _=>True) oi v a->kN S k listed w->
   dR P md ops Q S k fuel (listed.setIfInBounds i true) (a.put oi.dst v) w->dR P md ops Q S k (fuel+1) listed a w:=by
 intro fuel;induction fuel with
 |zero=>
  intro listed a w _ hr hy hS H;refine⟨fun h=>(by rw[h]at hr;cases hr),fun j hj=> ?_⟩;by_cases rG:j=i
  ·subst rG;exact hy.wpOp hi trivial ⟨hS.more j,H⟩
  ·have :=ready_mono hj rG;rw[H.1]at this;cases this
 |succ fuel ih=>
  intro listed a w EB hr hy hS H;refine⟨fun h=>(by rw[h]at hr;cases hr),fun j hj=> ?_⟩;by_cases rG:j=i
  ·subst rG;exact hy.wpOp hi trivial ⟨hS.more j,H⟩
  ·have h1:=H.2 j (ready_mono hj rG);obtain⟨QG,oj,Vh,ip⟩:=mem_ready.1 hj;have Zz:∀e∈oj.after,Region.binds md e=true->e.on≠i:=fun e he hb heq=>by
    have h1:=ip e he hb;have h0:=(mem_ready.1 hr).1;rw[heq]at h1;rcases bv i listed.size with h' |h'
    ·simp[h']at h0 h1;rw[h0]at h1;cases h1
    ·simp[gf h']at h1
   have h2:=wpOp_putIf Vh (EB j oj Vh rG QG Zz) (fun cs b=>Qd i oi cs b hi) (fun cs b=>Qd j oj cs b Vh) hQ hy h1;have Ig:∀x ox,ops[x]? =some ox->x≠i->(listed.setIfInBounds j true).getD x true=false->
     (∀e∈ox.after,Region.binds md e=true->e.on≠i)->oi.apart ops ox=true:=fun x ox hx hxi hun rE=>by
    refine EB x ox hx hxi ?_ rE;by_cases hjx:j=x
    ·subst hjx;exact QG
    ·rw[getD_set_ne true hjx]at hun;exact hun
   refine wpOp_mono (fun a' w' h3=> ?_) h2;have hT:=h3.2.1.less Ov rG;refine⟨hT,ih (listed.setIfInBounds j true) a' w' Ig (ready_mono hr (Ne.symm rG)) h3.1 hT ?_⟩;rw[Array.setIfInBounds_comm _ _ rG];exact h3.2.2
theorem rN {i:Nat} {oi:Oper} {v:Value} {fuel:Nat} {listed:Array Bool} {a:Act} {w:World} (hi:ops[i]? =some oi)
  (hs:Region.noSelect ops=true) (hf:Region.free md ops listed i=true) (hr:(Region.ready md ops listed).contains i=true) (hc:(k !=i)=true)
  (hQ:∀c a w,Q (.panic c) (a.put oi.dst v) w->Q (.panic c) a w) (hw:Region.wanted oi (yielded ops a.tmps)=true) (hy:∀w,(execOp a.eval oi).run P w= .ok (.value v) w) (hS:kN S k listed w)
  (h:dR P md ops Q S k fuel (listed.setIfInBounds i true) (a.put oi.dst v) w):dR P md ops Q S k (fuel+1) listed a w:=
 yP hi (Region.noSelect_spec hs) (by simpa using hc) hQ fuel listed a w (Region.free_spec hi hf) (by simpa using hr) (.inl ⟨hw,fun w _=>hy w⟩) hS h
def aZ (P:Program) (md:Region.Mode) (ops:Array Oper) (Q:Exit->Act->World->Prop) (S:World->Prop) (k fuel:Nat) (listed:Array Bool) (a:Act) (w:World) (rs:List Nat):Prop:=
 ∀i∈rs,wpOp P ops Q i (fun a' w'=>kN S k (listed.setIfInBounds i true) w'/\dR P md ops Q S k fuel (listed.setIfInBounds i true) a' w') a w
theorem bJ {rs:List Nat} {fuel:Nat} {listed:Array Bool} {a:Act} {w:World} (hr:Region.ready md ops listed=rs) (dS:rs≠[])
  (h:aZ P md ops Q S k fuel listed a w rs):dR P md ops Q S k (fuel+1) listed a w:=
 ⟨fun h0=>absurd (hr▸h0) dS,hr▸h⟩
theorem aZ.nil {fuel:Nat} {listed:Array Bool} {a:Act} {w:World}:aZ P md ops Q S k fuel listed a w []:=fun _ h=>by cases h
theorem aZ.cons {fuel:Nat} {listed:Array Bool} {a:Act} {w:World} {i:Nat} {o:Oper} {rs:List Nat} (ho:ops[i]? =some o)
  (h:∀K':Act->World->Prop,Shut (∀a w,kN S k (listed.setIfInBounds i true) w->(kN S k (listed.setIfInBounds i true) w->dR P md ops Q S k fuel (listed.setIfInBounds i true) a w)->K' a w)->
   if Region.wanted o (yielded ops a.tmps)=true then Oper.wp P o a w K' Q else K' (a.put o.dst undef) w)
  (hs:aZ P md ops Q S k fuel listed a w rs):aZ P md ops Q S k fuel listed a w (i::rs):=by
 intro j hj;rcases av.1 hj with rfl |hj
 ·unfold wpOp;simp only[ho];have :=h (fun a' w'=>kN S k (listed.setIfInBounds j true) w'/\dR P md ops Q S k fuel (listed.setIfInBounds j true) a' w') (fun a w h1 h2=>⟨h1,h2 h1⟩);split
  ·rename_i hw;rw[aae hw]at this;exact .inl this
  ·rename_i hw;rw[aac hw]at this;exact this
 ·exact hs j hj
theorem aD {listed:Array Bool} {a:Act} {w:World} (hr:Region.ready md ops listed=[]) (h:Q .normal a w):
  ∀fuel,dR P md ops Q S k fuel listed a w
 |0=>⟨hr,h⟩
 |_+1=>⟨fun _=>h,by rw[hr];simp⟩
theorem bi {id:Nat} {a:Act} {w:World} (S:World->Prop) (k:Nat) (hm:P.follows .mixedOrders=true) (hS:S w.drew)
  (h:kN S k (Array.replicate ops.size false) w.drew->dR P .any ops Q S k ops.size (Array.replicate ops.size false) a w.drew):(Code.region id ops true).wp P Q a w:=
 wp_region_any hm (vU _ _ _ _ (h (.inr hS)))
end
theorem q2 {α:Type} {a:α} {l:List α} {n:Nat}:(a::l)[n+1]? =l[n]? :=rfl
theorem q3 {α:Type} {a:α} {l:List α}:(a::l)[0]? =some a:=rfl
theorem q5 {α:Type} {l:List α} {n:Nat} {a:α}:l.toArray.setIfInBounds n a=(l.set n a).toArray:=List.setIfInBounds_toArray _ _ _
theorem q6 {α:Type} {a b:α} {l:List α}:(a::l).set 0 b=b::l:=rfl
theorem q7 {α:Type} {a b:α} {l:List α} {n:Nat}:(a::l).set (n+1) b=a::l.set n b:=rfl
variable {P:Program} {ops:Array Oper} {Q:Exit->Act->World->Prop} {md:Region.Mode} {S:World->Prop} {k:Nat}
theorem T0 {i:Nat} {oi:Oper} {v:Value} {fuel:Nat} {listed:Array Bool} {a:Act} {w:World} (hi:ops[i]? =some oi)
  (hb:(Region.noSelect ops&&Region.free md ops listed i&&(Region.ready md ops listed).contains i&&k !=i)=true) (hw:Region.wanted oi (yielded ops a.tmps)=true) (hy:∀w,(execOp a.eval oi).run P w= .ok (.value v) w) (hS:kN S k listed w)
  (h:dR P md ops (NoPanic Q) S k fuel (listed.setIfInBounds i true) (a.put oi.dst v) w):dR P md ops (NoPanic Q) S k (fuel+1) listed a w:=by
 simp only[ax]at hb;exact rN hi hb.1.1.1 hb.1.1.2 hb.1.2 hb.2 (fun _ _ _ h=>h) hw hy hS h
theorem T1 {i:Nat} {oi:Oper} {v:Value} {fuel:Nat} {listed:Array Bool} {a:Act} {w:World} (C:List Nat) (hi:ops[i]? =some oi)
  (hb:(Region.noSelect ops&&Region.free md ops listed i&&(Region.ready md ops listed).contains i&&(chainB md ops C i k listed&&k !=i))=true) (hw:Region.wanted oi (yielded ops a.tmps)=true) (hy:∀w,S w->(execOp a.eval oi).run P w= .ok (.value v) w) (hS:S w)
  (h:dR P md ops (NoPanic Q) S k fuel (listed.setIfInBounds i true) (a.put oi.dst v) w):dR P md ops (NoPanic Q) S k (fuel+1) listed a w:=by
 simp only[ax]at hb;exact ub C hi hb.1.1.1 hb.1.1.2 hb.1.2 (by simp only[ax];exact hb.2) (fun _ _ _ h=>h) (.inl ⟨hw,hy⟩) hS h
theorem R1 {i:Nat} {o:Oper} {fuel:Nat} {listed:Array Bool} {a:Act} {w:World} (hr:Region.ready md ops listed=[i]) (ho:ops[i]? =some o)
  (h:∀K':Act->World->Prop,Shut (∀a w,kN S k (listed.setIfInBounds i true) w->(kN S k (listed.setIfInBounds i true) w->dR P md ops Q S k fuel (listed.setIfInBounds i true) a w)->K' a w)->
   if Region.wanted o (yielded ops a.tmps)=true then Oper.wp P o a w K' Q else K' (a.put o.dst undef) w):dR P md ops Q S k (fuel+1) listed a w:=
 bJ hr (by simp) (aZ.cons ho h aZ.nil)
theorem R2 (i:Nat) {o:Oper} {fuel:Nat} {listed:Array Bool} {a:Act} {w:World} (hb:(Region.ready md ops listed==[i]&& !listed.getD k false)=true) (ho:ops[i]? =some o) (hT:kN S k listed w)
  (h:∀K':Act->World->Prop,Shut (∀a w,kN S k (listed.setIfInBounds i true) w->(kN S k (listed.setIfInBounds i true) w->dR P md ops Q S k fuel (listed.setIfInBounds i true) a w)->K' a w)->S w->
   if Region.wanted o (yielded ops a.tmps)=true then Oper.wp P o a w K' Q else K' (a.put o.dst undef) w):dR P md ops Q S k (fuel+1) listed a w:=by
 rw[ax]at hb;have hS:S w:=hT.resolve_left (by simpa using hb.2);exact R1 (by simpa using hb.1) ho (fun K' hK=>h K' hK hS)
def TBr (P:Program) (ops:Array Oper) (S:World->Prop):List (Nat×List Nat)->Act->Act->Prop
 |[],a,a'=>a=a'
 | (i,C)::r,a,a'=>∃o v,ops[i]? =some o/\Region.wanted o (yielded ops a.tmps)=true/\(∀w,(C=[]\/S w)->(execOp a.eval o).run P w= .ok (.value v) w)/\TBr P ops S r (a.put o.dst v) a'
def Cv (md:Region.Mode) (ops:Array Oper) (k:Nat):List (Nat×List Nat)->Array Bool->Bool
 |[],_=>true
 | (i,C)::r,l=>Region.noSelect ops&&Region.free md ops l i&&(Region.ready md ops l).contains i&&k !=i&&(C.isEmpty ||chainB md ops C i k l)&&Cv md ops k r (l.setIfInBounds i true)
def lst:List (Nat×List Nat)->Array Bool->Array Bool
 |[],l=>l
 | (i,_)::r,l=>lst r (l.setIfInBounds i true)
theorem eG {a:Act}:TBr P ops S [] a a:=rfl
theorem eH {i:Nat} {C:List Nat} {r:List (Nat×List Nat)} {a a':Act} {o:Oper} {v:Value} (ho:ops[i]? =some o) (hw:Region.wanted o (yielded ops a.tmps)=true) (hy:∀w,(C=[]\/S w)->(execOp a.eval o).run P w= .ok (.value v) w) (h:TBr P ops S r (a.put o.dst v) a'):TBr P ops S ((i,C)::r) a a':=⟨o,v,ho,hw,hy,h⟩
theorem TB_ {fuel:Nat}:∀{is:List (Nat×List Nat)} {listed:Array Bool} {a a':Act} {w:World},Cv md ops k is listed=true->TBr P ops S is a a'->kN S k listed w->
  (kN S k (lst is listed) w->dR P md ops (NoPanic Q) S k fuel (lst is listed) a' w)->dR P md ops (NoPanic Q) S k (fuel+is.length) listed a w
 |[],listed,a,a',w,_,hr,hS,h=>by
  have :a=a':=hr;subst this;exact h hS
 | (i,C)::r,listed,a,a',w,hb,hr,hS,h=>by
  obtain⟨o,v,ho,hw,hy,rm⟩:=hr;simp only[Cv,ax]at hb;obtain⟨⟨⟨⟨⟨h1,h2⟩,h3⟩,h4⟩,h5⟩,h6⟩:=hb;have hm:=TB_ h6 rm (hS.more i) h;cases C with
  |nil=>exact rN ho h1 h2 h3 h4 (fun _ _ _ h=>h) hw (fun w=>hy w (.inl rfl)) hS hm
  |cons c C=>
   have h5:chainB md ops (c::C) i k listed=true:=by simpa using h5
   have hc:=E4 h5;have bl:S w:=by
    rcases hS with h7 |h7
    ·rw[hc.2.Xa hc.1]at h7;cases h7
    ·exact h7
   exact ub (c::C) ho h1 h2 h3 (by rw[h5,h4];rfl) (fun _ _ _ h=>h) (.inl ⟨hw,fun w hs=>hy w (.inr hs)⟩) bl hm
theorem TB {fuel:Nat} (n:Nat) (is:List (Nat×List Nat)) {listed:Array Bool} {a a':Act} {w:World} (hb:Cv md ops k is listed=true) (hn:is.length=n) (hr:TBr P ops S is a a') (hS:kN S k listed w)
  (h:kN S k (lst is listed) w->dR P md ops (NoPanic Q) S k fuel (lst is listed) a' w):dR P md ops (NoPanic Q) S k (fuel+n) listed a w:=by
 subst hn;exact TB_ hb hr hS h
end
section
open Go.RowKit
theorem cI.BC {w wA wB:World} {L:fW} {H:Hp} (h:cI w L H) {gA cA gB cB:Nat} {xs ys:List Int} (hl:xs.length=ys.length)
  (hA:Ints wA (some ⟨gA,0,none⟩) cA xs) (fA:Fr (ak L.A2) w wA) (qA:gA∈ak L.A2\/w.heap.size<=gA)
  (hB:Ints wB (some ⟨gB,0,none⟩) cB ys) (fB:Fr (ak L.A3) wA wB) (qB:gB∈ak L.A3\/wA.heap.size<=gB):
  cI ((wB.setCell ⟨L.a,1,none⟩ (.slice (some ⟨gA,0,none⟩) xs.length cA)).setCell ⟨L.a,2,none⟩ (.slice (some ⟨gB,0,none⟩) ys.length cB))
   { L with A2:=some ⟨gA,0,none⟩,c2:=cA,A3:=some ⟨gB,0,none⟩,c3:=cB } { H with at_:=xs,score:=ys }/\
  Fr L.fp w ((wB.setCell ⟨L.a,1,none⟩ (.slice (some ⟨gA,0,none⟩) xs.length cA)).setCell ⟨L.a,2,none⟩ (.slice (some ⟨gB,0,none⟩) ys.length cB))/\
  L.ext { L with A2:=some ⟨gA,0,none⟩,c2:=cA,A3:=some ⟨gB,0,none⟩,c3:=cB } w:=by
 obtain⟨h1,h2,h3⟩:=iI h.nodup;have lA:gA<wA.heap.size:=hA.lt gA (by simp[ak]);have hs:=fA.size;have nA:gA≠L.a/\gA∉ak L.A1/\gA∉ak L.A3:=by
  rcases qA with q |q
  ·exact h2 gA q
  ·refine⟨?_,fun k=> ?_,fun k=> ?_⟩
   ·have :=h.obj.lt;omega
   ·have :=h.items.lt _ k;omega
   ·have :=h.score.lt _ k;omega
 have nB:gB≠L.a/\gB∉ak L.A1/\gB≠gA:=by
  rcases qB with q |q
  ·exact⟨(h3 gB q).1,(h3 gB q).2.1,fun e=>nA.2.2 (e▸q)⟩
  ·refine⟨?_,fun k=> ?_,?_⟩
   ·have :=h.obj.lt;omega
   ·have :=h.items.lt _ k;omega
   ·omega
 have bA:ak (some ⟨gA,0,none⟩)=[gA]:=rfl;have bB:ak (some ⟨gB,0,none⟩)=[gB]:=rfl;have oB:=fB.at_ (fA.at_ h.obj (fun k=>(h2 _ k).1 rfl)) (fun k=>(h3 _ k).1 rfl);have iB:=(h.items.fr fA (fun k hk qG=>(h1 k hk).2.1 qG)).fr fB (fun k hk qG=>(h1 k hk).2.2 qG);have aB:=hA.fr fB (fun k hk qG=>nA.2.2 (by rw[bA,ai]at hk;exact hk▸qG));refine⟨⟨?_,?_,?_,?_,?_,hl⟩,?_,rfl,?_,fun _=>rfl⟩
 ·have :=(oB.eu 1 (.slice (some ⟨gA,0,none⟩) xs.length cA)).eu 2 (.slice (some ⟨gB,0,none⟩) ys.length cB);simpa using this
 ·exact(iB.gN (fun k=>(h1 _ k).1 rfl) _).gN (fun k=>(h1 _ k).1 rfl) _
 ·exact(aB.gN (by rw[bA];simpa using fun e=>nA.1 e.symm) _).gN (by rw[bA];simpa using fun e=>nA.1 e.symm) _
 ·exact(hB.gN (by rw[bB];simpa using fun e=>nB.1 e.symm) _).gN (by rw[bB];simpa using fun e=>nB.1 e.symm) _
 ·have hn:=h.nodup;simp only[fW.fp,fG,ah,List.nodup_append,bA,bB,ai,cd,not_false_eq_true,List.nodup_nil,true_and]at hn⊢;obtain⟨n1,n2,n3,n4⟩:=hn;refine⟨?_,n2,?_,?_⟩
  ·rintro(hk |rfl |rfl)
   ·exact n1 (.inl hk)
   ·exact nA.1 rfl
   ·exact nB.1 rfl
  ·rintro _ rfl _ rfl e;exact nB.2.2 e.symm
  ·rintro k hk _ (rfl |rfl) rfl
   ·exact nA.2.1 hk
   ·exact nB.2.1 hk
 ·exact((((fA.mono (T:=L.fp) fun k hk=> .inl (by simp[fW.fp,hk])).trans fB fun k hk=> .inl (by simp[fW.fp,hk]))).setCell (.inl (by simp[fW.fp])) _).setCell (.inl (by simp[fW.fp])) _
 ·intro k hk;simp only[fW.fp,bA,bB,av,ah,cd,or_false]at hk⊢;rcases hk with hk |hk |hk |hk
  ·exact .inl (.inl hk)
  ·exact .inl (.inr (.inl hk))
  ·subst hk;exact qA.elim (fun q=> .inl (.inr (.inr (.inl q)))) .inr
  ·subst hk;exact qB.elim (fun q=> .inl (.inr (.inr (.inr q)))) (fun q=> .inr (by omega))
def Hp.growBy (H:Hp) (m:Nat):Hp:={ H with at_:=H.at_++List.replicate m (-1),score:=H.score++List.replicate m 0 }
def Hp.ew (H:Hp) (n:Int):Hp:=H.growBy (lo H.at_.length n-H.at_.length).toNat
theorem fW.aV {L M N:fW} {w w':World} {S:List Nat} (h:L.ext M w) (k:M.ext N w') (hf:Fr S w w'):L.ext N w:=
 ⟨k.1.trans h.1,fun x hx=>(k.2.1 x hx).elim (fun hm=>h.2.1 x hm) (fun hm=> .inr (aE hf.size hm)),fun m=>k.2.2 (h.2.2 m)⟩
theorem ji {H:Hp} {j:Nat}:((H.growBy j).at_++[-1]=(H.growBy (j+1)).at_)/\((H.growBy j).score++[0]=(H.growBy (j+1)).score):=by constructor<;>simp[Hp.growBy,List.replicate_succ']
theorem Au (w:World) (L:fW) (H:Hp) (h:cI w L H) (iQ:L.A2.isSome=true) (n:Int) (hm:H.at_.length<=262144):
  Calls Tryz.prog 118 #[.pointer (some ⟨L.a,0,none⟩), .int .i64 n] w fun e w'=>e= .returned (.tuple #[])/\∃L',cI w' L' (H.ew n)/\L.ext L' w/\Fr L.fp w w':=by
 have o1:=h.obj.cell 1;simp at o1;obtain⟨g2,fE⟩:∃a,L.A2=some a:=Option.isSome_iff_exists.1 iQ;rw[fE]at o1;have he:∀w:World,(binOp .eql 22 (.slice (some g2) H.at_.length L.c2) (.slice none 0 0)).run Tryz.prog w= .ok (.bool false) w:=fun w=>Lib.run_eql_slice_nil w _ _ _ _ _ _ _ Tryz.underlying22;obtain⟨m,Vj⟩:∃m:Nat,lo H.at_.length n=(H.at_.length+m:Nat):=⟨(lo H.at_.length n-H.at_.length).toNat,by unfold lo;omega⟩
 have sm:H.at_.length+m<=262144:=by have :=Vj;unfold lo at this;omega
 have hgf:H.ew n=H.growBy m:=by unfold Hp.ew;rw[Vj];congr 1;omega
 rw[hgf];have HM:=aa Vj;have HH:=aa h;have HS:=aa h.same;have hm3:((H.at_.length+m:Nat):Int)<=262144:=by omega
 clear Vj h fE hgf;go_enter Tryz.func118,Tryz.ntmps118;go_wp2_with fail;refine(M7 _ _ n (by omega) (by omega)).mono ?_;rintro e w1 ⟨rfl,rfl⟩;rw[HM.out];clear o1 he;go_wp2_with fail;go_loopg [] m (fun gk wr=>∃(j:Nat) (M:fW),j+gk=m/\cI wr M (H.growBy j)/\L.ext M w/\Fr L.fp w wr);case atStart=>exact⟨0,L,da _,by simpa[Hp.growBy]using HH.out,⟨rfl,fun k hk=> .inl hk,id⟩,Fr.refl _ _⟩
 case round=>
  obtain⟨j,M,hj,hK,hE,ro⟩:=hrel;have ha:M.a=L.a:=hE.1;have c1:=hK.obj.cell 1;have c2:=hK.obj.cell 2;have l1:(H.growBy j).at_.length=H.at_.length+j:=by simp[Hp.growBy]
  have l2:(H.growBy j).score.length=H.at_.length+j:=by rw[<-hK.same,l1]
  rw[ha]at c1 c2;simp[l1]at c1;simp[l2]at c2;have HK:=aa hK;have HE:=aa hE;have HA:=aa ha;have qq:=aa l1;have mw:=aa l2;have HJ:=aa hj;clear hK hE ha l1 l2;by_cases hjm:j<m
  ·have t1:((H.at_.length+j:Nat):Int)<((H.at_.length+m:Nat):Int):=by omega
   have t2:(H.at_.length:Int)+j<(H.at_.length:Int)+m:=by omega
   have ho:At wr L.a 155 #[.slice M.A1 (H.growBy j).items.length M.c1, .slice M.A2 (H.at_.length+j) M.c2, .slice M.A3 (H.at_.length+j) M.c3]:=by have :=HK.out.obj;rw[HA.out,qq.out,mw.out]at this;exact this
   have HO:=aa ho;have jw:Hid (L.a∉ak M.A2):=fun hk=>((iI HK.out.nodup).2.1 _ hk).1 HA.out.symm;have om:Hid (L.a∉ak M.A3):=fun hk=>((iI HK.out.nodup).2.2 _ hk).1 HA.out.symm;have HD:Hid (∀k,k∈ak M.A3->k∉ak M.A2):=fun k hk qG=>((iI HK.out.nodup).2.2 k hk).2.2 qG;have OK:Hid (∀k,k∈ak M.A2->k<wr.heap.size):=HK.out.at_.lt;have HL3:Hid ((H.growBy (j+1)).at_.length=H.at_.length+j+1):=by show _=_;simp[Hp.growBy];omega
   have WE:Hid ((H.growBy (j+1)).score.length=H.at_.length+j+1):=by show _=_;have :=HS.out;simp[Hp.growBy];omega
   have qr:Hid (At ((wr.drew.alloc (.cells #[.int .i64 (-1)] 3)).alloc (.cells #[.int .i64 0] 3)) (wr.heap.size+1) 3 #[.int .i64 0]):=by have :=At.new (wr.drew.alloc (.cells #[.int .i64 (-1)] 3)) 3 #[.int .i64 0];rwa[show(wr.drew.alloc (.cells #[.int .i64 (-1)] 3)).heap.size=wr.heap.size+1 from by simp]at this
   have pE:Hid (At ((wr.drew.alloc (.cells #[.int .i64 0] 3)).alloc (.cells #[.int .i64 (-1)] 3)) wr.heap.size 3 #[.int .i64 0]):=(At.new wr.drew _ _).alloc _;clear hj ho;go_wp2_with fail;refine aam ?_;refine bi (fun w':World=>At w' L.a 155 #[.slice M.A1 (H.growBy j).items.length M.c1, .slice M.A2 (H.at_.length+j) M.c2, .slice M.A3 (H.at_.length+j) M.c3]) 16 (by kernel_rfl) (HO.out.drew) (fun cZ=> ?_);apply TB 10 [(0,[]),(1,[]),(2,[]),(3,[]),(4,[]),(5,[5,16]),(8,[]),(9,[]),(10,[]),(11,[11,16])];kernel_rfl;rfl;· (repeat (apply eH;rfl;rfl;(· intro w bl;(try(have bl:=bl.resolve_left (aF _ _);(have s1:=bl.cell 1;have s2:=bl.cell 2;simp at s1 s2)));go_simp<;>with_reducible rfl);try simp only[Act.put,q5,q6,q7]));exact eG
   exact cZ;intro cZ;have aw:=cZ.resolve_left (by decide);refine bJ (rs:=[6,12]) (by kernel_rfl) (by simp) ?_;refine aZ.cons (o:= ?ajm) ?U0 ?He ?_;case U0=>rfl
   case He=>
    intro K hK;go_simp;refine hK.out _ _ (.inr ?_) (fun fo=> ?_)
    ·first |exact aw.alloc _ |exact kG.at_ aw jw.out |exact BX.at_ aw om.out
    clear hK K;try simp only[Act.put,q5,q6,q7]
    have aw:=fo.resolve_left (by decide);refine bJ (rs:=[7,12]) (by kernel_rfl) (by simp) ?_;refine aZ.cons (o:= ?ajl) ?UZ ?Hb ?_;case UZ=>rfl
    case Hb=>
     intro K hK
     (refine bV rfl _ _ rfl M.A2 M.c2 (H.growBy j).at_ _ rfl qq.out.symm ?tJ _ 1 (-1) rfl ?rq (by rw[qq.out];omega) ?_;(case tJ=>first |exact HK.out.at_.drew.alloc _ |exact(HK.out.at_.drew.alloc _).alloc _);(case rq=>simp);intro gA cA wA M3 kG M4 hsA)
     refine hK.out _ _ (.inr ?_) (fun jh=> ?_)
     ·first |exact aw.alloc _ |exact kG.at_ aw jw.out |exact BX.at_ aw om.out
     clear hK K;try simp only[Act.put,q5,q6,q7]
     refine R2 12 (by kernel_rfl) (by rfl) jh fun K hK aw=> ?_;go_simp;refine hK.out _ _ (.inr ?_) (fun kH=> ?_)
     ·first |exact aw.alloc _ |exact kG.at_ aw jw.out |exact BX.at_ aw om.out
     clear hK K;try simp only[Act.put,q5,q6,q7]
     refine R2 13 (by kernel_rfl) (by rfl) kH fun K hK aw=> ?_
     (refine bV rfl _ _ rfl M.A3 M.c3 (H.growBy j).score _ rfl mw.out.symm ?MK _ 1 0 rfl ?Iv (by rw[mw.out];omega) ?_;(case MK=>first |exact((HK.out.score.drew.alloc _).fr kG HD.out).alloc _ |exact((HK.out.score.drew.alloc _).alloc _).fr kG HD.out);(case Iv=>first | (simp;done) |exact(kG.at_ qr.out (fun hk=>absurd (OK.out _ hk) (by omega))).cell 0 |exact(kG.at_ pE.out (fun hk=>absurd (OK.out _ hk) (by omega))).cell 0);intro gB cB wB hiB BX hgB hsB)
     refine hK.out _ _ (.inr ?_) (fun mq=> ?_)
     ·first |exact aw.alloc _ |exact kG.at_ aw jw.out |exact BX.at_ aw om.out
     clear hK K;try simp only[Act.put,q5,q6,q7]
     apply TB 2 [(14,[]),(15,[])];kernel_rfl;rfl;· (repeat (apply eH;rfl;rfl;(· intro w bl;go_simp<;>with_reducible rfl);try simp only[Act.put,q5,q6,q7]));exact eG
     exact mq;intro mq;refine R2 16 (by kernel_rfl) (by rfl) mq fun K hK aw=> ?_
     (have b1:=aw.cell 1;have b3:=aw.frozen 1;simp at b1;go_simp)
     refine hK.out _ _ (.inl rfl) (fun ie=> ?_);clear hK K;try simp only[Act.put,q5,q6,q7]
     apply TB 2 [(17,[]),(18,[])];kernel_rfl;rfl;· (repeat (apply eH;rfl;rfl;(· intro w bl;go_simp<;>with_reducible rfl);try simp only[Act.put,q5,q6,q7]));exact eG
     exact ie;intro ie;refine R1 (i:=19) (o:= ?aji) (by kernel_rfl) (by rfl) ?_;intro K hK
     (have b2:=aw.cell 2;have b4:=aw.frozen 2;simp at b2;go_simp)
     refine hK.out _ _ (.inl rfl) (fun EM=> ?_);clear hK K;try simp only[Act.put,q5,q6,q7]
     refine aD (by kernel_rfl) ?_ _;refine NoPanic.normal ?_;have fA:Fr (ak M.A2) wr wA:=by first |exact((Fr.refl _ wr).drew.alloc _).ag kG |exact(((Fr.refl _ wr).drew.alloc _).alloc _).ag kG
     have fB:Fr (ak M.A3) wA wB:=by first |exact BX |exact((Fr.refl _ wA).alloc _).ag BX
     have qA:gA∈ak M.A2\/wr.heap.size<=gA:=M4.imp id (fun e=>by rw[e];simp <;>omega);have qB:gB∈ak M.A3\/wA.heap.size<=gB:=hgB.imp id (fun e=>by rw[e];simp <;>omega);obtain⟨r1,r2,r3⟩:=cI.BC HK.out (by simp[qq.out,mw.out]) M3 fA qA hiB fB qB;rw[HA.out]at r1 r2 r3;rw[ji.1,ji.2,HL3.out,WE.out]at r1 r2;have R1:=aa r1;have R2:=aa r2;have R3:=aa r3;clear r1 r2 r3;go_wp2_with fail;go_roundg (gk-1);case measure=>have :=HJ.out;omega
     case rel=>exact⟨j+1,_,by have :=HJ.out;omega,R1.out,fW.aV HE.out R3.out ro,ro.trans R2.out HE.out.2.1⟩
    refine aZ.cons (o:= ?ajh) ?UW ?G8 ?_;case UW=>rfl
    case G8=>
     intro K hK;go_simp;refine hK.out _ _ (.inr ?_) (fun jh=> ?_)
     ·first |exact aw.alloc _ |exact kG.at_ aw jw.out |exact BX.at_ aw om.out
     clear hK K;try simp only[Act.put,q5,q6,q7]
     refine R2 7 (by kernel_rfl) (by rfl) jh fun K hK aw=> ?_
     (refine bV rfl _ _ rfl M.A2 M.c2 (H.growBy j).at_ _ rfl qq.out.symm ?MI _ 1 (-1) rfl ?It (by rw[qq.out];omega) ?_;(case MI=>first |exact HK.out.at_.drew.alloc _ |exact(HK.out.at_.drew.alloc _).alloc _);(case It=>simp);intro gA cA wA M3 kG M4 hsA)
     refine hK.out _ _ (.inr ?_) (fun kH=> ?_)
     ·first |exact aw.alloc _ |exact kG.at_ aw jw.out |exact BX.at_ aw om.out
     clear hK K;try simp only[Act.put,q5,q6,q7]
     refine R2 13 (by kernel_rfl) (by rfl) kH fun K hK aw=> ?_
     (refine bV rfl _ _ rfl M.A3 M.c3 (H.growBy j).score _ rfl mw.out.symm ?MH _ 1 0 rfl ?Is (by rw[mw.out];omega) ?_;(case MH=>first |exact((HK.out.score.drew.alloc _).fr kG HD.out).alloc _ |exact((HK.out.score.drew.alloc _).alloc _).fr kG HD.out);(case Is=>first | (simp;done) |exact(kG.at_ qr.out (fun hk=>absurd (OK.out _ hk) (by omega))).cell 0 |exact(kG.at_ pE.out (fun hk=>absurd (OK.out _ hk) (by omega))).cell 0);intro gB cB wB hiB BX hgB hsB)
     refine hK.out _ _ (.inr ?_) (fun mq=> ?_)
     ·first |exact aw.alloc _ |exact kG.at_ aw jw.out |exact BX.at_ aw om.out
     clear hK K;try simp only[Act.put,q5,q6,q7]
     apply TB 2 [(14,[]),(15,[])];kernel_rfl;rfl;· (repeat (apply eH;rfl;rfl;(· intro w bl;go_simp<;>with_reducible rfl);try simp only[Act.put,q5,q6,q7]));exact eG
     exact mq;intro mq;refine R2 16 (by kernel_rfl) (by rfl) mq fun K hK aw=> ?_
     (have b1:=aw.cell 1;have b3:=aw.frozen 1;simp at b1;go_simp)
     refine hK.out _ _ (.inl rfl) (fun ie=> ?_);clear hK K;try simp only[Act.put,q5,q6,q7]
     apply TB 2 [(17,[]),(18,[])];kernel_rfl;rfl;· (repeat (apply eH;rfl;rfl;(· intro w bl;go_simp<;>with_reducible rfl);try simp only[Act.put,q5,q6,q7]));exact eG
     exact ie;intro ie;refine R1 (i:=19) (o:= ?ajf) (by kernel_rfl) (by rfl) ?_;intro K hK
     (have b2:=aw.cell 2;have b4:=aw.frozen 2;simp at b2;go_simp)
     refine hK.out _ _ (.inl rfl) (fun EM=> ?_);clear hK K;try simp only[Act.put,q5,q6,q7]
     refine aD (by kernel_rfl) ?_ _;refine NoPanic.normal ?_;have fA:Fr (ak M.A2) wr wA:=by first |exact((Fr.refl _ wr).drew.alloc _).ag kG |exact(((Fr.refl _ wr).drew.alloc _).alloc _).ag kG
     have fB:Fr (ak M.A3) wA wB:=by first |exact BX |exact((Fr.refl _ wA).alloc _).ag BX
     have qA:gA∈ak M.A2\/wr.heap.size<=gA:=M4.imp id (fun e=>by rw[e];simp <;>omega);have qB:gB∈ak M.A3\/wA.heap.size<=gB:=hgB.imp id (fun e=>by rw[e];simp <;>omega);obtain⟨r1,r2,r3⟩:=cI.BC HK.out (by simp[qq.out,mw.out]) M3 fA qA hiB fB qB;rw[HA.out]at r1 r2 r3;rw[ji.1,ji.2,HL3.out,WE.out]at r1 r2;have R1:=aa r1;have R2:=aa r2;have R3:=aa r3;clear r1 r2 r3;go_wp2_with fail;go_roundg (gk-1);case measure=>have :=HJ.out;omega
     case rel=>exact⟨j+1,_,by have :=HJ.out;omega,R1.out,fW.aV HE.out R3.out ro,ro.trans R2.out HE.out.2.1⟩
    exact aZ.nil
   refine aZ.cons (o:= ?aje) ?UU ?G7 ?_;case UU=>rfl
   case G7=>
    intro K hK;go_simp;refine hK.out _ _ (.inr ?_) (fun fo=> ?_)
    ·first |exact aw.alloc _ |exact kG.at_ aw jw.out |exact BX.at_ aw om.out
    clear hK K;try simp only[Act.put,q5,q6,q7]
    refine R2 6 (by kernel_rfl) (by rfl) fo fun K hK aw=> ?_;go_simp;refine hK.out _ _ (.inr ?_) (fun jh=> ?_)
    ·first |exact aw.alloc _ |exact kG.at_ aw jw.out |exact BX.at_ aw om.out
    clear hK K;try simp only[Act.put,q5,q6,q7]
    refine R2 7 (by kernel_rfl) (by rfl) jh fun K hK aw=> ?_
    (refine bV rfl _ _ rfl M.A2 M.c2 (H.growBy j).at_ _ rfl qq.out.symm ?MF _ 1 (-1) rfl ?Iq (by rw[qq.out];omega) ?_;(case MF=>first |exact HK.out.at_.drew.alloc _ |exact(HK.out.at_.drew.alloc _).alloc _);(case Iq=>simp);intro gA cA wA M3 kG M4 hsA)
    refine hK.out _ _ (.inr ?_) (fun kH=> ?_)
    ·first |exact aw.alloc _ |exact kG.at_ aw jw.out |exact BX.at_ aw om.out
    clear hK K;try simp only[Act.put,q5,q6,q7]
    refine R2 13 (by kernel_rfl) (by rfl) kH fun K hK aw=> ?_
    (refine bV rfl _ _ rfl M.A3 M.c3 (H.growBy j).score _ rfl mw.out.symm ?ME _ 1 0 rfl ?Ip (by rw[mw.out];omega) ?_;(case ME=>first |exact((HK.out.score.drew.alloc _).fr kG HD.out).alloc _ |exact((HK.out.score.drew.alloc _).alloc _).fr kG HD.out);(case Ip=>first | (simp;done) |exact(kG.at_ qr.out (fun hk=>absurd (OK.out _ hk) (by omega))).cell 0 |exact(kG.at_ pE.out (fun hk=>absurd (OK.out _ hk) (by omega))).cell 0);intro gB cB wB hiB BX hgB hsB)
    refine hK.out _ _ (.inr ?_) (fun mq=> ?_)
    ·first |exact aw.alloc _ |exact kG.at_ aw jw.out |exact BX.at_ aw om.out
    clear hK K;try simp only[Act.put,q5,q6,q7]
    apply TB 2 [(14,[]),(15,[])];kernel_rfl;rfl;· (repeat (apply eH;rfl;rfl;(· intro w bl;go_simp<;>with_reducible rfl);try simp only[Act.put,q5,q6,q7]));exact eG
    exact mq;intro mq;refine R2 16 (by kernel_rfl) (by rfl) mq fun K hK aw=> ?_
    (have b1:=aw.cell 1;have b3:=aw.frozen 1;simp at b1;go_simp)
    refine hK.out _ _ (.inl rfl) (fun ie=> ?_);clear hK K;try simp only[Act.put,q5,q6,q7]
    apply TB 2 [(17,[]),(18,[])];kernel_rfl;rfl;· (repeat (apply eH;rfl;rfl;(· intro w bl;go_simp<;>with_reducible rfl);try simp only[Act.put,q5,q6,q7]));exact eG
    exact ie;intro ie;refine R1 (i:=19) (o:= ?ajc) (by kernel_rfl) (by rfl) ?_;intro K hK
    (have b2:=aw.cell 2;have b4:=aw.frozen 2;simp at b2;go_simp)
    refine hK.out _ _ (.inl rfl) (fun EM=> ?_);clear hK K;try simp only[Act.put,q5,q6,q7]
    refine aD (by kernel_rfl) ?_ _;refine NoPanic.normal ?_;have fA:Fr (ak M.A2) wr wA:=by first |exact((Fr.refl _ wr).drew.alloc _).ag kG |exact(((Fr.refl _ wr).drew.alloc _).alloc _).ag kG
    have fB:Fr (ak M.A3) wA wB:=by first |exact BX |exact((Fr.refl _ wA).alloc _).ag BX
    have qA:gA∈ak M.A2\/wr.heap.size<=gA:=M4.imp id (fun e=>by rw[e];simp <;>omega);have qB:gB∈ak M.A3\/wA.heap.size<=gB:=hgB.imp id (fun e=>by rw[e];simp <;>omega);obtain⟨r1,r2,r3⟩:=cI.BC HK.out (by simp[qq.out,mw.out]) M3 fA qA hiB fB qB;rw[HA.out]at r1 r2 r3;rw[ji.1,ji.2,HL3.out,WE.out]at r1 r2;have R1:=aa r1;have R2:=aa r2;have R3:=aa r3;clear r1 r2 r3;go_wp2_with fail;go_roundg (gk-1);case measure=>have :=HJ.out;omega
    case rel=>exact⟨j+1,_,by have :=HJ.out;omega,R1.out,fW.aV HE.out R3.out ro,ro.trans R2.out HE.out.2.1⟩
   exact aZ.nil
  ·have t2:(H.at_.length:Int)+m<=(H.at_.length:Int)+j:=by omega
   obtain rfl :j=m:=by omega
   go_wp2_with fail;go_end0;exact⟨rfl,M,HK.out,HE.out,ro⟩
theorem TT {a b:Nat} (h:a=b):Ending.returned (.pointer (some ⟨a,0,none⟩))= .returned (.pointer (some ⟨b,0,none⟩)):=by rw[h]
def Hp.none_:Hp:={ items:=[],at_:=[],score:=[] }
theorem cI.new (w:World):cI ((w.alloc (.cells #[] 3)).alloc (.cells #[.slice none 0 0, .slice (some ⟨w.heap.size,0,none⟩) 0 0, .slice none 0 0] 155))
  { a:=w.heap.size+1,A1:=none,c1:=0,A2:=some ⟨w.heap.size,0,none⟩,c2:=0,A3:=none,c3:=0 } Hp.none_:=by
 refine⟨?_,Ints.nil _,?_,Ints.nil _,by simp[fW.fp,ak],rfl⟩
 ·have :=At.new (w.alloc (.cells #[] 3)) 155 #[.slice none 0 0, .slice (some ⟨w.heap.size,0,none⟩) 0 0, .slice none 0 0];rwa[show(w.alloc (.cells #[] 3)).heap.size=w.heap.size+1 from by simp]at this
 ·have :Ints (w.alloc (.cells #[] 3)) (some ⟨w.heap.size,0,none⟩) 0 []:=World.ownsRow_lit w #[] 0 (bR _) (by simp[maxLen]) (by simp);exact this.alloc _
theorem QN (w:World) (n:Int):
  Calls Tryz.prog 78 #[.int .i64 n] w fun e w'=>∃L:fW,e= .returned (.pointer (some ⟨L.a,0,none⟩))/\cI w' L (Hp.none_.ew n)/\L.A2.isSome=true/\(∀k,k∈L.fp->w.heap.size<=k)/\Fr [] w w':=by
 have HN:=aa (cI.new w);go_enter Tryz.func78,Tryz.ntmps78;go_wp2_with fail;refine(Au _ _ _ HN.out rfl n (by simp[Hp.none_])).mono ?_;rintro e w1 ⟨rfl,L',hL,hE,hF⟩;have HL:=aa hL;have HE:=aa hE;have HF:=aa hF;clear hL hE hF;go_wp2_with fail;go_ret;have hk:∀k,k∈fW.fp { a:=w.heap.size+1,A1:=none,c1:=0,A2:=some ⟨w.heap.size,0,none⟩,c2:=0,A3:=none,c3:=0 }->w.heap.size<=k:=by intro k hk;simp only[fW.fp,ak,Option.map_none,cD,Option.toList_none,fI,List.nil_append,bZ,av,cd,or_false]at hk;omega
 refine⟨L',TT HE.out.1.symm,HL.out,HE.out.2.2 rfl,fun k h=> ?_,?_⟩
 ·rcases HE.out.2.1 k h with h |h
  ·exact hk k h
  ·exact aE (by simp;omega) h
 ·exact(((Fr.refl [] w).alloc _).alloc _).trans HF.out (fun k h=> .inr (hk k h))
--a nil heap
end
end Go.Proofs.YtjmmpfjcpdepjaaGreatDoor
