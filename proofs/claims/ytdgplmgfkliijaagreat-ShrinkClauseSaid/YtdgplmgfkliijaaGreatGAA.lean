/- The steps of a region that draws, in short words. -/
import Derived.Test.YtdgplmgfkliijaaGreatRows
import Derived.WalkKit
import Derived.WalkSpells
import Derived.WalkLawsBesides
import Derived.Maps.AppendAt
import Derived.Deep.Draws
import Derived.Deep.QuietTactic
import Derived.BigQuiet
import Derived.Lib.Hide
import Derived.Deep.RegionLaw
import Derived.Deep.RegionHeld3
import Derived.OrdersHeld
import Derived.Deep.RegionHeld
import Derived.Deep.LoopGhost
set_option linter.unusedVariables false
set_option linter.unusedSimpArgs false
set_option maxHeartbeats 4000000
set_option maxRecDepth 100000
namespace Go.Proofs.YtdgplmgfkliijaaGreat
open Go.RowKit
theorem aa.{u_1}:∀{α:Type u_1} [inst:Inhabited α] {l:List α} {i:Nat},l[i]! =l[i]?.getD default:=@List.getElem!_eq_getElem?_getD
theorem af.{u_1}:∀{α:Type u_1} {l:List α} {i:Nat} (h:i<l.length),l[i]? =some l[i]:=@List.getElem?_eq_getElem
theorem ag.{u_1}:∀{α:Type u_1} {a:α} {s t:List α},a∈s++t↔a∈s∨a∈t:=@List.mem_append
theorem ah.{u_1}:∀{α:Type u_1} {a b:α},a∈[b]↔a=b:=@List.mem_singleton
theorem ai.{u}:∀{α:Type u} {«as» bs:List α},(«as» ++bs).length= «as».length+bs.length:=@List.length_append
theorem ak.{u}:∀{α:Type u} {a:α} {«as» :List α} (bs:List α),a∈ «as» →a∈ «as» ++bs:=@List.mem_append_left
theorem aq.{u_1,u_2}:∀{α:Type u_1} {β:Type u_2} {«as» :List α} (f:α→β),(List.map f «as»).length= «as».length:=@List.length_map
theorem au:∀(n:Nat),n≤n:=@Nat.le_refl
theorem av.{u_1}:∀{α:Type u_1} {b:α} {l:List α} {a:α},a∈b::l↔a=b∨a∈l:=@List.mem_cons
theorem aw.{u}:∀{α:Type u} {«as» :List α} {i:Nat} {a:α},(«as».set i a).length= «as».length:=@List.length_set
theorem ay.{u_1}:∀{α:Type u_1} {a b:α},(some a).getD b=a:=@Option.getD_some
theorem az.{u_1,u_2}:∀{α:Type u_1} {β:Type u_2} {b:β} {f:α→β} {l:List α},b∈List.map f l↔∃a,a∈l∧f a=b:=@List.mem_map
theorem aD:∀(a b:Bool),((a&&b)=true)=(a=true∧b=true):=@Bool.and_eq_true
theorem aF:∀{n m k:Nat},n≤m→m≤k→n≤k:=@Nat.le_trans
theorem aI:∀(n:Nat),¬n<0:=@Nat.not_lt_zero
theorem aJ.{u_1}:∀{α:Type u_1} {l:List α},l.length=0→l=[]:=@List.eq_nil_of_length_eq_zero
theorem aK:∀{n m k:Nat},n<m→m≤k→n<k:=@Nat.lt_of_lt_of_le
theorem aM.{u}:∀{α:Type u} {b:α} («as» :List α) {bs:List α},b∈bs→b∈ «as» ++bs:=@List.mem_append_right
theorem aO.{u_1,u_2}:∀{α:Type u_1} {β:Type u_2} {f:α→β} {l:List α} {i:Nat},(List.map f l)[i]? =Option.map f l[i]? :=@List.getElem?_map
theorem aP.{u_1}:∀{α:Type u_1} (y:α) {a:α} {l:List α},a∈l→a∈y::l:=@List.mem_cons_of_mem
theorem aV.{u_1}:∀{α:Type u_1} {i:Nat} {l:List α},(List.take i l).length=min i l.length:=@List.length_take
theorem aY.{u_1}:∀{α:Type u_1} {a:α} {l:List α},a∈a::l:=@List.mem_cons_self
theorem bh.{u}:∀{α:Type u} {n:Nat} {a:α},(List.replicate n a).length=n:=@List.length_replicate
theorem bF.{u}:∀{α:Type u} {a:α},[a].length=1:=@List.length_singleton
theorem bH:∀(n:Nat),0≤n:=@Nat.zero_le
theorem bI.{u_1}:∀{α:Type u_1} {p:α→Bool} {l:List α},l.any p=true↔∃x,x∈l∧p x=true:=@List.any_eq_true
theorem bJ.{u_1,u_2}:∀{α:Type u_1} {β:Type u_2} {f:α→β} {l₁ l₂:List α},List.map f (l₁++l₂)=List.map f l₁++List.map f l₂:=@List.map_append
theorem bK:∀(n m:Nat),n<m∨n≥m:=@Nat.lt_or_ge
theorem bO.{u}:∀{α:Type u} {a:α} {«as» :List α},(a:: «as»).length= «as».length+1:=@List.length_cons
theorem bU.{u}:∀{α:Type u} («as» :List α), «as» ++[]= «as» :=@List.append_nil
theorem cg.{u_1}:∀{α:Type u_1} {a:α} {l:List α},(a::l)[0]? =some a:=@List.getElem?_cons_zero
theorem cq.{u_1}:∀{α:Type u_1} {p:α→Bool} {«as» :List α} {x:α},x∈List.filter p «as» ↔x∈ «as» ∧p x=true:=@List.mem_filter
theorem cu.{u_1,u_2}:∀{α:Type u_1} {β:Type u_2} (a:α) (f:α→β),Option.map f (some a)=some (f a):=@Option.map_some
theorem cw.{u_1}:∀{α:Type u_1} {a:α} {i:Nat} {l:List α},(a::l)[i+1]? =l[i]? :=@List.getElem?_cons_succ
theorem cK.{u_1}:∀{α:Type u_1} {a:α},¬a∈[]:=@List.not_mem_nil
theorem cM.{u,v}:∀{α:Type u} {β:Type v} {f:α→β} {a:α} {l:List α},List.map f (a::l)=f a::List.map f l:=@List.map_cons
theorem cN.{u}:∀{α:Type u} {xs:List α} {i:Nat},xs.toArray[i]? =xs[i]? :=@List.getElem?_toArray
theorem cP.{u_1}:∀{α:Type u_1} {x:α} {«as» :List α},x∈ «as».reverse↔x∈ «as» :=@List.mem_reverse
theorem cS:∀(n:Nat),0+n=n:=@Nat.zero_add
theorem cW.{u_1}:∀{α:Type u_1} {l₁ l₂:List α} {i:Nat},i<l₁.length→(l₁++l₂)[i]? =l₁[i]? :=@List.getElem?_append_left
theorem cX:∀{n:Nat},(List.range n).length=n:=@List.length_range
theorem df:∀{m n:Nat},m∈List.range n↔m<n:=@List.mem_range
theorem dh.{u_1}:∀{α:Type u_1} (l:List α),l.Perm l:=@List.Perm.refl
theorem dn.{u_1}:∀{α:Type u_1} {i:Nat} {l:List α},l.length≤i→List.take i l=l:=@List.take_of_length_le
theorem dt:(false=true)=False:=@Bool.false_eq_true
theorem dL:∀{x y:Bool},(x ||y)=false↔x=false∧y=false:=@Bool.or_eq_false_iff
theorem dU.{u,v}:∀{α:Type u} {β:Type v} {f:α→β},List.map f []=[]:=@List.map_nil
theorem eB.{u_1}:∀{α:Type u_1} {a:α} {l:List α},(a::l).Nodup↔¬a∈l∧l.Nodup:=@List.nodup_cons
theorem eD.{u_1}:∀{α:Type u_1} {l:List α},List.take l.length l=l:=@List.take_length
theorem eN:∀(n m:Nat),n+m-m=n:=@Nat.add_sub_cancel
theorem fq.{u_1}:∀{α:Type u_1} (a:α),(some a).toList=[a]:=@Option.toList_some
theorem gm.{u_1}:∀{α:Type u_1} {l₁ l₂:List α} {i:Nat},l₁.length≤i→(l₁++l₂)[i]? =l₂[i-l₁.length]? :=@List.getElem?_append_right
theorem gK.{u_1}:∀{α:Type u_1} {i:Nat} {a:α} {l:List α},l[i]? =some a↔∃h,l[i]=a:=@List.getElem?_eq_some_iff
theorem ia.{u_1,u_2}:∀{α:Type u_1} {β:Type u_2} {l:List α} {a:α} {f:α→β},a∈l→f a∈List.map f l:=@List.mem_map_of_mem
theorem iX.{u_1}:∀{α:Type u_1} {i:Nat} {l:List α},(List.drop i l).length=l.length-i:=@List.length_drop
theorem js.{u}:∀{α:Type u} («as» bs cs:List α), «as» ++bs++cs= «as» ++(bs++cs):=@List.append_assoc
theorem jF:∀{p:Prop},(¬p→False)→p:=@Classical.byContradiction
theorem kt.{u_1}:∀{α:Type u_1} {l:List α} {i:Nat},l.length≤i→l[i]? =none:=@List.getElem?_eq_none
theorem kO.{u_1}:∀{α:Type u_1} {p:α→Bool} {l:List α},l.all p=true↔∀(x:α),x∈l→p x=true:=@List.all_eq_true
theorem lS.{u_1,u_2}:∀{α:Type u_1} {β:Type u_2} {f:α→List β} {b:β} {l:List α},b∈List.flatMap f l↔∃a,a∈l∧b∈f a:=@List.mem_flatMap
theorem lT.{u_1}:∀{α:Type u_1} {l:List α} {i:Nat},i<l.length→(l.eraseIdx i).length=l.length-1:=@List.length_eraseIdx_of_lt
theorem mz:∀(n:Nat),n*1=n:=@Nat.mul_one
theorem mB.{u_1}:∀{α:Type u_1} {l₁ l₂:List α} {i:Nat},i≤l₁.length→List.take i (l₁++l₂)=List.take i l₁:=@List.take_append_of_le_length
def al (p:Prop):Prop:=p
theorem al.o {p:Prop} (h:al p):p:=h
theorem ae {p:Prop} (h:p):al p:=h
def At (w:World) (g:Nat) (t:TypeId) (cs:Array Value):Prop:=w.heap[g]? =some (.cells cs t (0,0))
structure Fr (S:List Nat) (w w':World):Prop where
 os:w'.os=w.os
 tape:w'.tape=w.tape
 output:w'.output=w.output
 size:w.heap.size≤w'.heap.size
 block:∀k,k<w.heap.size→k∉S→w'.heap[k]? =w.heap[k]?
namespace Fr
variable {S T:List Nat} {w w' a b c:World}
theorem refl (S:List Nat) (w:World):Fr S w w:=⟨rfl,rfl,rfl,au _,fun _ _ _=>rfl⟩
theorem mono (h:Fr S w w') (hs:∀k,k∈S→k∈T∨w.heap.size≤k):Fr T w w':=
 ⟨h.os,h.tape,h.output,h.size,fun k hk hn=>h.block k hk fun hm=>(hs k hm).elim hn (by omega)⟩
theorem trans (h:Fr S a b) (k:Fr T b c) (hs:∀x,x∈T→x∈S∨a.heap.size≤x):Fr S a c:=
 ⟨k.os.trans h.os,k.tape.trans h.tape,k.output.trans h.output,aF h.size k.size,fun i hi hn=>
  (k.block i (aK hi h.size) fun hm=>(hs i hm).elim hn (by omega)).trans (h.block i hi hn)⟩
theorem aj (h:Fr S a b) (k:Fr S b c):Fr S a c:=h.trans k fun _ hx=> .inl hx
theorem drew (h:Fr S w w'):Fr S w w'.drew:=⟨h.os,h.tape,h.output,h.size,h.block⟩
theorem drewN (h:Fr S w w') (n:Nat):Fr S w (w'.drewN n):=⟨h.os,h.tape,h.output,h.size,h.block⟩
theorem alloc (h:Fr S w w') (o:Obj):Fr S w (w'.alloc o):=
 h.aj ⟨rfl,rfl,rfl,by simp,fun k hk _=>Below.heap_alloc _ _ _ hk⟩
theorem setCell (h:Fr S w w') {p:Addr} (hp:p.block∈S∨w.heap.size≤p.block) (u:Value):Fr S w (w'.setCell p u):=
 ⟨h.os,h.tape,h.output,by simpa [World.setCell] using h.size,fun k hk hn=>(Below.heap_setCell _ _ _ _ (by
  rintro rfl
  rcases hp with hp |hp
  ·exact hn hp
  ·omega)).trans (h.block k hk hn)⟩
theorem grown (h:Fr S w w') {row:Option Nat} {xu:World} (hg:w'.grownBy xu row) (hr:∀k,row=some k→k∈S∨w.heap.size≤k):Fr S w xu:=
 ⟨hg.os.trans h.os,hg.tape.trans h.tape,hg.output.trans h.output,aF h.size hg.size,fun k hk hn=>
  (hg.block k (aK hk h.size) fun e=>(hr k e.symm).elim hn (by omega)).trans (h.block k hk hn)⟩
theorem below (h:Fr [] w w'):Below w.heap.size w w':=⟨h.os,h.tape,h.output,h.size,fun k hk=>h.block k hk (by simp)⟩
theorem at_ (h:Fr S w w') {g:Nat} {t:TypeId} {cs:Array Value} (hg:At w g t cs) (hn:g∉S):At w' g t cs:=
 (h.block g (by
  rcases bK g w.heap.size with hl |hl
  ·exact hl
  ·unfold At at hg;rw [Array.getElem?_eq_none hl] at hg;cases hg) hn).trans hg
theorem own (h:Fr S w w') {base:Nat} {e:TypeId} {size n:Nat} {v:Value} {xs:List Value} (ho:w.ownsRow base e size v n xs) (hn:∀k,v.ownBlock=some k→k∉S):w'.ownsRow base e size v n xs:=by
 refine ⟨ho.1,?_⟩
 rcases ho.2 with h0 |⟨g,cap,cur,hv,hb,hg,r⟩
 ·exact .inl h0
 ·exact .inr ⟨g,cap,cur,hv,hb,h.at_ (t:=e) hg (hn g (by rw [hv];rfl)),r⟩
end Fr
namespace At
variable {w w':World} {g:Nat} {t:TypeId} {cs:Array Value}
theorem lt (h:At w g t cs):g<w.heap.size:=by
 rcases bK g w.heap.size with hl |hl
 ·exact hl
 ·unfold At at h;rw [Array.getElem?_eq_none hl] at h;cases h
theorem cell (h:At w g t cs) (i:Nat):w.cell? ⟨g,i,none⟩=cs[i]? :=cell_of_row w g i cs t (0,0) h
theorem frozen (h:At w g t cs) (i:Nat):w.frozen? ⟨g,i,none⟩=false:=by
 unfold At at h
 simp [World.frozen?,h]
theorem new (w:World) (t:TypeId) (cs:Array Value):At (w.alloc (.cells cs t)) w.heap.size t cs:=heap_alloc_new w _
theorem drew (h:At w g t cs):At w.drew g t cs:=h
theorem alloc (h:At w g t cs) (o:Obj):At (w.alloc o) g t cs:=(Below.heap_alloc w o g h.lt).trans h
theorem eo (h:At w g t cs) (i:Nat) (u:Value):At (w.setCell ⟨g,i,none⟩ u) g t (cs.setIfInBounds i u):=by
 unfold At at h⊢
 simp [World.setCell,Array.getElem?_modify,h]
theorem gh (h:At w g t cs) {p:Addr} (hp:g≠p.block) (u:Value):At (w.setCell p u) g t cs:=(Below.heap_setCell w p u g hp).trans h
end At
def Ints (w:World) (A:Option Addr) (c:Nat) (xs:List Int):Prop:=w.ownsRow 0 3 1 (.slice A xs.length c) xs.length (xs.map (Value.int .i64))
def ap (A:Option Addr):List Nat:=(A.map (·.block)).toList
namespace Ints
variable {w w':World} {A:Option Addr} {c:Nat} {xs:List Int}
theorem form (h:Ints w A c xs):(A=none∧c=0∧xs=[])∨∃g,A=some ⟨g,0,none⟩∧g<w.heap.size∧xs.length≤c∧c≤maxLen:=by
 rcases h.2 with ⟨h1,h2⟩ |⟨g,cap,cur,hv,_,hg,hn,hm,_⟩
 ·simp only [Value.slice.injEq] at h1
  exact .inl ⟨h1.1,h1.2.2,aJ h2⟩
 ·simp only [Value.slice.injEq,true_and] at hv
  obtain ⟨rfl,rfl⟩:=hv
  exact .inr ⟨g,rfl,At.lt (t:=3) hg,hn,hm⟩
theorem pos {i:Nat} (h:Ints w A c xs) (hi:i<xs.length):∃g,A=some ⟨g,0,none⟩∧g<w.heap.size:=by
 rcases h.form with ⟨_,_,rfl⟩ |⟨g,h1,h2,_⟩
 ·simp at hi
 ·exact ⟨g,h1,h2⟩
theorem len (h:Ints w A c xs):xs.length≤maxLen:=by
 rcases h.form with ⟨_,_,rfl⟩ |⟨g,_,_,h1,h2⟩
 ·simp [maxLen]
 ·omega
theorem cell {g:Nat} (h:Ints w (some ⟨g,0,none⟩) c xs) {i:Nat} (hi:i<xs.length):w.cell? ⟨g,i,none⟩=some (.int .i64 (xs[i]!)):=by
 rw [World.ownsRow.cellAt h i (by omega)]
 simp [hi]
theorem frozen {g:Nat} (h:Ints w (some ⟨g,0,none⟩) c xs) (i:Nat):w.frozen? ⟨g,i,none⟩=false:=World.ownsRow.frozenAt h i
theorem eo {g:Nat} (h:Ints w (some ⟨g,0,none⟩) c xs) (i:Nat) (x:Int):Ints (w.setCell ⟨g,i,none⟩ (.int .i64 x)) (some ⟨g,0,none⟩) c (xs.set i x):=by
 have :=(World.ownsRow.stored h i (.int .i64 x)).1
 unfold Ints
 rw [aw,List.map_set]
 exact this
theorem gh (h:Ints w A c xs) {p:Addr} (hp:p.block∉ap A) (u:Value):Ints (w.setCell p u) A c xs:=
 Fr.own (S:=[p.block]) ((Fr.refl [p.block] w).setCell (.inl (by simp)) u) h (fun k hk=>by
  rcases A with _ |ad
  ·simp [Value.ownBlock] at hk
  ·simp only [Value.ownBlock,Option.some.injEq] at hk
   subst hk
   simp only [ap,cu,fq,ah] at hp⊢
   exact fun e=>hp e.symm)
theorem fr {S:List Nat} (h:Ints w A c xs) (hf:Fr S w w') (hd:∀k,k∈ap A→k∉S):Ints w' A c xs:=
 hf.own h (fun k hk=>hd k (by
  rcases A with _ |ad
  ·simp [Value.ownBlock] at hk
  ·simp only [Value.ownBlock,Option.some.injEq] at hk
   subst hk
   simp [ap]))
theorem py (h:Ints w A c xs) (k:Nat):Ints w A c (xs.take k):=by
 refine ⟨by simp,?_⟩
 rcases h.2 with ⟨h1,h2⟩ |⟨g,cap,cur,hv,hb,hg,hn,hm,hs,ht⟩
 ·have :xs=[]:=aJ h2
  subst this
  simp only [Value.slice.injEq,List.length_nil,true_and] at h1
  exact .inl ⟨by simp [h1.1,h1.2],by simp⟩
 ·simp only [Value.slice.injEq,true_and] at hv
  obtain ⟨rfl,rfl⟩:=hv
  refine .inr ⟨g,c,cur,rfl,hb,hg,by simp;omega,hm,hs,?_⟩
  simp only [mz] at ht⊢
  rw [List.map_take,←ht,List.take_take,aV]
theorem drew (h:Ints w A c xs):Ints w.drew A c xs:=h
theorem alloc (h:Ints w A c xs) (o:Obj):Ints (w.alloc o) A c xs:=World.ownsRow.alloc h o
theorem nil (w:World):Ints w none 0 []:=World.ownsRow_nil w 0 _ 1
theorem lt (h:Ints w A c xs):∀k,k∈ap A→k<w.heap.size:=by
 rcases h.form with ⟨rfl,_⟩ |⟨g,rfl,h1,_⟩
 ·simp [ap]
 ·simpa [ap] using h1
end Ints
theorem GZ {P:Program} {f:FuncId} {args:Array Value} {w:World} {n:Nat} {v:Value}
  (h:Calls P f args (w.drewN n) fun e w'=>e= .returned v∧∃m,(w.drewN n).drewN m=w'):Calls P f args (w.drewN n) fun e xu=>e= .returned v∧∃m,xu=w.drewN m:=
 h.mono fun _ _ ⟨he,m,hm⟩=>⟨he,n+m,by rw [←hm,World.drewN_drewN]⟩
structure Hp where
 items:List Int
 at_:List Int
 score:List Int
structure fD where
 a:Nat
 A1:Option Addr
 c1:Nat
 A2:Option Addr
 c2:Nat
 A3:Option Addr
 c3:Nat
def fD.fp (L:fD):List Nat:=L.a::(ap L.A1++(ap L.A2++ap L.A3))
structure ct (w:World) (L:fD) (H:Hp):Prop where
 obj:At w L.a 115 #[.slice L.A1 H.items.length L.c1, .slice L.A2 H.at_.length L.c2, .slice L.A3 H.score.length L.c3]
 items:Ints w L.A1 L.c1 H.items
 at_:Ints w L.A2 L.c2 H.at_
 score:Ints w L.A3 L.c3 H.score
 nodup:L.fp.Nodup
 same:H.at_.length=H.score.length
def Hp.sc (H:Hp) (x:Int):Int:=H.score[x.toNat]!
def Hp.pl (H:Hp) (x:Int):Int:=H.at_[x.toNat]!
def Hp.it (H:Hp) (i:Int):Int:=H.items[i.toNat]!
def Hp.iV (H:Hp) (x:Int):Bool:=decide (0≤x)&&decide (x<H.at_.length)
def Hp.bz (H:Hp) (x y:Int):Bool:=decide (H.sc y<H.sc x) || (decide (H.sc x=H.sc y)&&decide (x<y))
theorem kD {a b:Bool} (h:a=b):Ending.returned (.bool a)= .returned (.bool b):=by rw [h]
theorem zV {k:IntKind} {a b:Int} (h:a=b):Ending.returned (.int k a)= .returned (.int k b):=by rw [h]
theorem RQ (w:World) (L:fD) (H:Hp) (h:ct w L H) (x:Int):
  Calls Tryz.prog 101 #[.pointer (some ⟨L.a,0,none⟩), .int .i64 x] w fun e w'=>e= .returned (.bool (H.iV x))∧w=w':=by
 have c1:=h.obj.cell 1
 simp at c1
 unfold Hp.iV
 by_cases h0:0≤x
 ·by_cases h1:x<H.at_.length
  ·go_enter Tryz.func101,Tryz.ntmps101
   go_wp2
   go_ret
   exact ⟨kD (by simp [h0,h1]),rfl⟩
  ·go_enter Tryz.func101,Tryz.ntmps101
   go_wp2
   go_ret
   exact ⟨kD (by simp [h1]),rfl⟩
 ·go_enter Tryz.func101,Tryz.ntmps101
  go_wp2
  go_ret
  exact ⟨kD (by simp;omega),rfl⟩
theorem ct.aT {w:World} {L:fD} {H:Hp} (h:ct w L H) {x:Int} (h0:0≤x) (h1:x<H.at_.length):
  ∃g,L.A3=some ⟨g,0,none⟩∧w.cell? ⟨g,x.toNat,none⟩=some (.int .i64 (H.sc x)):=by
 have hs:=h.same
 obtain ⟨g,hg,_⟩:=h.score.pos (i:=x.toNat) (by omega)
 refine ⟨g,hg,?_⟩
 have :=h.score
 rw [hg] at this
 exact this.cell (by omega)
theorem heap_ahead (w:World) (L:fD) (H:Hp) (h:ct w L H) (x y:Int) (uE:0≤x) (ij:x<H.at_.length) (jJ:0≤y) (im:y<H.at_.length):
  Calls Tryz.prog 119 #[.pointer (some ⟨L.a,0,none⟩), .int .i64 x, .int .i64 y] w fun e w'=>e= .returned (.bool (H.bz x y))∧∃n,w.drewN n=w':=by
 have hs:=h.same
 have c1:=h.obj.cell 2
 simp at c1
 obtain ⟨g,hg,cx⟩:=h.aT uE ij
 obtain ⟨g',pJ,cy⟩:=h.aT jJ im
 rw [hg] at pJ c1
 cases pJ
 have ix:x<H.score.length:=by omega
 have kS:y<H.score.length:=by omega
 unfold Hp.bz
 clear h hs ij im
 generalize H.sc x=sx at cx⊢
 generalize H.sc y=sy at cy⊢
 by_cases h1:sy<sx
 ·go_enter Tryz.func119,Tryz.ntmps119
  go_wp2_with fail
  go_quiet (fail)
  go_wp2
  go_ret
  exact ⟨kD (by simp [h1]),_,rfl⟩
 ·have J6:decide (sy<sx)=false:=decide_eq_false h1
  by_cases h2:sx=sy
  ·subst h2
   by_cases h3:x<y
   ·go_enter Tryz.func119,Tryz.ntmps119
    go_wp2_with fail
    go_quiet (fail)
    go_wp2
    go_ret
    exact ⟨kD (by simp [h3]),_,rfl⟩
   ·go_enter Tryz.func119,Tryz.ntmps119
    go_wp2_with fail
    go_quiet (fail)
    go_wp2
    go_ret
    exact ⟨kD (by simp),_,rfl⟩
  ·have T9:(sx==sy)=false:=beq_eq_false_iff_ne.2 h2
   go_enter Tryz.func119,Tryz.ntmps119
   go_wp2_with fail
   go_quiet (fail)
   go_wp2
   go_ret
   exact ⟨kD (by simp [J6,h2]),_,rfl⟩
def Hp.put (H:Hp) (i x:Int):Hp:={ H with items:=H.items.set i.toNat x,at_:=H.at_.set x.toNat i }
theorem ig {a:Nat} {x y z:List Nat} (h:(a::(x++(y++z))).Nodup):
  (∀k,k∈x→k≠a∧k∉y∧k∉z)∧(∀k,k∈y→k≠a∧k∉x∧k∉z)∧(∀k,k∈z→k≠a∧k∉x∧k∉y):=by
 simp only [eB,ag,List.nodup_append] at h
 obtain ⟨h1,h2,⟨h3,h4,h5⟩,h6⟩:=h
 refine ⟨fun k hk=>⟨?_,?_,?_⟩,fun k hk=>⟨?_,?_,?_⟩,fun k hk=>⟨?_,?_,?_⟩⟩
 ·rintro rfl;exact h1 (.inl hk)
 ·exact fun hy=>h6 k hk k (.inl hy) rfl
 ·exact fun hz=>h6 k hk k (.inr hz) rfl
 ·rintro rfl;exact h1 (.inr (.inl hk))
 ·exact fun hx=>h6 k hx k (.inl hk) rfl
 ·exact fun hz=>h5 k hk k hz rfl
 ·rintro rfl;exact h1 (.inr (.inr hk))
 ·exact fun hx=>h6 k hx k (.inr hk) rfl
 ·exact fun hy=>h5 k hy k hk rfl
theorem ct.jy {w:World} {L:fD} {H:Hp} (h:ct w L H) {i:Int} (h0:0≤i) (h1:i<H.items.length):
  ∃g,L.A1=some ⟨g,0,none⟩∧w.cell? ⟨g,i.toNat,none⟩=some (.int .i64 (H.it i))∧w.frozen? ⟨g,i.toNat,none⟩=false:=by
 obtain ⟨g,hg,_⟩:=h.items.pos (i:=i.toNat) (by omega)
 refine ⟨g,hg,?_⟩
 have :=h.items
 rw [hg] at this
 exact ⟨this.cell (by omega),this.frozen _⟩
theorem ct.xa {w:World} {L:fD} {H:Hp} (h:ct w L H) {i:Int} (h0:0≤i) (h1:i<H.at_.length):
  ∃g,L.A2=some ⟨g,0,none⟩∧w.cell? ⟨g,i.toNat,none⟩=some (.int .i64 (H.pl i))∧w.frozen? ⟨g,i.toNat,none⟩=false:=by
 obtain ⟨g,hg,_⟩:=h.at_.pos (i:=i.toNat) (by omega)
 refine ⟨g,hg,?_⟩
 have :=h.at_
 rw [hg] at this
 exact ⟨this.cell (by omega),this.frozen _⟩
theorem ct.ad0 {w:World} {L:fD} {H:Hp} (h:ct w L H) {g:Nat} (hg:L.A1=some ⟨g,0,none⟩) (i:Nat) (x:Int):
  ct (w.setCell ⟨g,i,none⟩ (.int .i64 x)) L { H with items:=H.items.set i x }:=by
 obtain ⟨h1,h2,h3⟩:=ig h.nodup
 have hm:g∈ap L.A1:=by simp [hg,ap]
 refine ⟨?_,?_,?_,?_,h.nodup,h.same⟩
 ·have :=h.obj.gh (p:=⟨g,i,none⟩) (fun e=>(h1 g hm).1 e.symm) (.int .i64 x)
  simpa using this
 ·have :=h.items
  rw [hg] at this⊢
  exact this.eo i x
 ·exact h.at_.gh (fun hk=>(h1 g hm).2.1 hk) _
 ·exact h.score.gh (fun hk=>(h1 g hm).2.2 hk) _
theorem ct.UQ {w:World} {L:fD} {H:Hp} (h:ct w L H) {g:Nat} (hg:L.A2=some ⟨g,0,none⟩) (i:Nat) (x:Int):
  ct (w.setCell ⟨g,i,none⟩ (.int .i64 x)) L { H with at_:=H.at_.set i x }:=by
 obtain ⟨h1,h2,h3⟩:=ig h.nodup
 have hm:g∈ap L.A2:=by simp [hg,ap]
 refine ⟨?_,?_,?_,?_,h.nodup,by simpa using h.same⟩
 ·have :=h.obj.gh (p:=⟨g,i,none⟩) (fun e=>(h2 g hm).1 e.symm) (.int .i64 x)
  simpa using this
 ·exact h.items.gh (fun hk=>(h2 g hm).2.1 hk) _
 ·have :=h.at_
  rw [hg] at this⊢
  exact this.eo i x
 ·exact h.score.gh (fun hk=>(h2 g hm).2.2 hk) _
theorem ct.drewN {w:World} {L:fD} {H:Hp} (h:ct w L H) (n:Nat):ct (w.drewN n) L H:=⟨h.obj,h.items,h.at_,h.score,h.nodup,h.same⟩
theorem ct.drew {w:World} {L:fD} {H:Hp} (h:ct w L H):ct w.drew L H:=⟨h.obj,h.items,h.at_,h.score,h.nodup,h.same⟩
theorem fT (w:World) (L:fD) (H:Hp) (h:ct w L H) (i x:Int) (LN:0≤i) (PX:i<H.items.length) (uE:0≤x) (ij:x<H.at_.length):
  Calls Tryz.prog 120 #[.pointer (some ⟨L.a,0,none⟩), .int .i64 i, .int .i64 x] w fun e w'=>e= .returned (.tuple #[])∧ct w' L (H.put i x)∧Fr L.fp w w':=by
 have o0:=h.obj.cell 0
 have o1:=h.obj.cell 1
 simp at o0 o1
 obtain ⟨g,hg,ci,fi⟩:=h.jy LN PX
 obtain ⟨g',pJ,cx,fx⟩:=h.xa uE ij
 have dI:g≠g':=fun e=>((ig h.nodup).1 g (by simp [hg,ap])).2.1 (by simp [pJ,ap,e])
 rw [hg] at o0
 rw [pJ] at o1
 have fin:=(h.ad0 hg i.toNat x).UQ pJ x.toNat i
 have fr:Fr L.fp w ((w.setCell ⟨g,i.toNat,none⟩ (.int .i64 x)).setCell ⟨g',x.toNat,none⟩ (.int .i64 i)):=
  ((Fr.refl L.fp w).setCell (.inl (by simp [fD.fp,hg,ap])) _).setCell (.inl (by simp [fD.fp,pJ,ap])) _
 clear h
 go_enter Tryz.func120,Tryz.ntmps120
 go_wp2
 go_region
 go_wp2
 go_end0
 exact ⟨rfl,fin.drew,fr.drew⟩
theorem dE (w:World) (L:fD) (H:Hp) (h:ct w L H) (x y:Int) (b:Bool) (hb:H.bz x y=b) (hx:0≤x∧x<H.at_.length) (hy:0≤y∧y<H.at_.length):
  Calls Tryz.prog 119 #[.pointer (some ⟨L.a,0,none⟩), .int .i64 x, .int .i64 y] w fun e w'=>e= .returned (.bool b)∧∃n,w.drewN n=w':=
 (heap_ahead w L H h x y hx.1 hx.2 hy.1 hy.2).mono fun _ _ ⟨he,hw⟩=>⟨by rw [he,hb],hw⟩
theorem Hp.dV (H:Hp) (i x:Int):(H.put i x).items.length=H.items.length:=by simp [Hp.put]
theorem Hp.sg (H:Hp) (i x:Int):(H.put i x).at_.length=H.at_.length:=by simp [Hp.put]
def Hp.Gf (H:Hp):Prop:=∀j:Nat,j<H.items.length→0≤H.items[j]! ∧H.items[j]! <H.at_.length
theorem Hp.Gf.it {H:Hp} (h:H.Gf) {i:Int} (h0:0≤i) (h1:i<H.items.length):0≤H.it i∧H.it i<H.at_.length:=h i.toNat (by omega)
theorem Hp.Gf.put {H:Hp} (h:H.Gf) {i x:Int} (uE:0≤x) (ij:x<H.at_.length):(H.put i x).Gf:=by
 intro j hj
 have RG:j<H.items.length:=by simpa [Hp.put] using hj
 have :=h j RG
 simp only [Hp.put,aw]
 by_cases e:i.toNat=j
 ·subst e;simp [RG];omega
 ·have :(H.items.set i.toNat x)[j]! =H.items[j]! :=by simp [aa,e]
  rw [this];assumption
def Hp.zu (x:Int):Nat→Hp→Nat→Hp
 |0,H,i=>H.put i x
 |f+1,H,i=>if 0<i∧H.bz x (H.it (((i-1)/2:Nat):Int))=true then zu x f (H.put i (H.it (((i-1)/2:Nat):Int))) ((i-1)/2) else H.put i x
theorem Hp.UJ {x:Int} {f:Nat} {H:Hp} {i:Nat} (hi:0<i) (ha:H.bz x (H.it (((i-1)/2:Nat):Int))=true) (hf:i<f):
  Hp.zu x f H i=Hp.zu x (f-1) (H.put i (H.it (((i-1)/2:Nat):Int))) ((i-1)/2):=by
 obtain ⟨f,rfl⟩:∃g,f=g+1:=⟨f-1,by omega⟩
 simp only [Hp.zu,eN];rw [if_pos ⟨hi,ha⟩]
theorem Hp.Bz {x:Int} {f:Nat} {H:Hp} {i:Nat} (h:¬(0<i∧H.bz x (H.it (((i-1)/2:Nat):Int))=true)):Hp.zu x f H i=H.put i x:=by
 cases f with
 |zero=>rfl
 |succ f=>simp only [Hp.zu];rw [if_neg h]
theorem Hw (w:World) (L:fD) (H:Hp) (h:ct w L H) (hr:H.Gf) (i:Nat) (PX:i<H.items.length):
  Calls Tryz.prog 102 #[.pointer (some ⟨L.a,0,none⟩), .int .i64 i] w fun e w'=>e= .returned (.tuple #[])∧ct w' L (Hp.zu (H.it i) (i+1) H i)∧Fr L.fp w w':=by
 have o0:=h.obj.cell 0
 simp at o0
 have hm:=h.items.len
 unfold maxLen at hm
 obtain ⟨g,hg,ci,fi⟩:=h.jy (i:=i) (by omega) (by omega)
 rw [hg] at o0
 have hx:=hr.it (i:=i) (by omega) (by omega)
 obtain ⟨x,np⟩:∃x,H.it i=x:=⟨_,rfl⟩
 rw [np] at ci hx⊢
 have ci':w.cell? ⟨g,i,none⟩=some (.int .i64 x):=by simpa using ci
 clear ci fi np
 have ns:(i:Int)<H.items.length:=by omega
 go_enter Tryz.func102,Tryz.ntmps102
 go_wp2
 go_loopw [1] (fun iv wr=>∃(k f:Nat) (K:Hp),iv= .int .i64 k∧ct wr L K∧K.Gf∧K.items.length=H.items.length∧K.at_.length=H.at_.length∧k<H.items.length∧k<f∧
   al (Hp.zu x (i+1) H i=Hp.zu x f K k)∧Fr L.fp w wr) (fun iv _=>(intOf iv).toNat)
 case atStart=>exact ⟨i,i+1,H,rfl,h,hr,rfl,rfl,PX,by omega,rfl,Fr.refl _ _⟩
 case round=>
  obtain ⟨k,f,K,rfl,hK,T8,l1,l2,hk,hkf,HE,qe⟩:=hrel
  have q0:=hK.obj.cell 0
  simp only [l1,hg,cN,cg] at q0
  by_cases JP:0<k
  ·obtain ⟨g',pJ,cp,_⟩:=hK.jy (i:=((k-1)/2:Nat)) (by omega) (by omega)
   rw [hg] at pJ
   cases pJ
   have hy:=T8.it (i:=((k-1)/2:Nat)) (by omega) (by omega)
   obtain ⟨y,qt⟩:∃y,K.it (((k-1)/2:Nat):Int)=y:=⟨_,rfl⟩
   rw [qt] at cp hy
   have cp':wr.cell? ⟨g,(k-1)/2,none⟩=some (.int .i64 y):=cp
   clear cp
   have amS:(0:Int)<(k:Int):=by omega
   have HK:=ae hK
   have HL:=ae l1
   have HM:=ae l2
   have JO:(k:Int)<H.items.length:=by omega
   cases ha:K.bz x y with
   |true=>
    have HS:al (Hp.zu x f K k=Hp.zu x (f-1) (K.put k y) ((k-1)/2)):=by
     have :=Hp.UJ (x:=x) (f:=f) (H:=K) JP (by rw [qt];exact ha) hkf
     rw [qt] at this
     exact this
    have HA:=ae ha
    have HY:=ae qt
    clear ha qt hK l1 l2
    go_wp2_with fail
    refine (dE _ L K HK.o x y true HA.o (by rw [HM.o];exact hx) hy).mono ?_
    rintro e w1 ⟨rfl,n1,rfl⟩
    go_wp2_with fail
    refine (fT _ L K (HK.o.drewN _) k y (by omega) (by rw [HL.o];omega) hy.1 hy.2).mono ?_
    rintro e w1 ⟨rfl,hp,cU⟩
    have HP:=ae hp
    clear hp
    go_wp2_with fail
    go_roundw
    case rel=>
     exact ⟨(k-1)/2,f-1,K.put k y,by go_num,HP.o,T8.put hy.1 hy.2,by rw [Hp.dV];exact HL.o,by rw [Hp.sg];exact HM.o,by omega,by omega,HE.o.trans HS.o,
      qe.aj (((Fr.refl L.fp wr).drewN n1).aj cU)⟩
    case measure=>simp [intOf];omega
   |false=>
    have HS:al (Hp.zu x f K k=K.put k x):=Hp.Bz (by rw [qt,ha];simp)
    have HA:=ae ha
    clear ha qt hK l1 l2
    go_wp2_with fail
    refine (dE _ L K HK.o x y false HA.o (by rw [HM.o];exact hx) hy).mono ?_
    rintro e w1 ⟨rfl,n1,rfl⟩
    go_wp2_with fail
    refine (fT _ L K (HK.o.drewN _) k x (by omega) (by rw [HL.o];omega) hx.1 (by rw [HM.o];exact hx.2)).mono ?_
    rintro e w1 ⟨rfl,hp,cU⟩
    have HP:=ae hp
    clear hp
    go_wp2_with fail
    go_end0
    exact ⟨rfl,by rw [HE.o,HS.o];exact HP.o,qe.aj (((Fr.refl L.fp wr).drewN n1).aj cU)⟩
  ·have HS:al (Hp.zu x f K k=K.put k x):=Hp.Bz (fun h=>JP h.1)
   have hz:k=0:=by omega
   subst hz
   have HK:=ae hK
   have HL:=ae l1
   have HM:=ae l2
   clear hK l1 l2
   go_wp2_with fail
   refine (fT _ L K HK.o _ x (by omega) (by rw [HL.o];omega) hx.1 (by rw [HM.o];exact hx.2)).mono ?_
   rintro e w1 ⟨rfl,hp,cU⟩
   have HP:=ae hp
   clear hp
   go_wp2_with fail
   go_end0
   exact ⟨rfl,by rw [HE.o,HS.o];exact HP.o,qe.aj cU⟩
def Hp.bN (H:Hp) (i:Nat):Nat:=if 2*i+2<H.items.length∧H.bz (H.it ((2*i+2:Nat):Int)) (H.it ((2*i+1:Nat):Int))=true then 2*i+2 else 2*i+1
def Hp.fW (x:Int):Nat→Hp→Nat→Hp
 |0,H,i=>H.put i x
 |f+1,H,i=>if 2*i+1<H.items.length∧H.bz (H.it ((H.bN i:Nat):Int)) x=true then Hp.fW x f (H.put i (H.it ((H.bN i:Nat):Int))) (H.bN i) else H.put i x
theorem Hp.wG {x:Int} {f:Nat} {H:Hp} {i b:Nat} (hb:H.bN i=b) (hi:2*i+1<H.items.length) (ha:H.bz (H.it ((b:Nat):Int)) x=true) (hf:1≤f):
  Hp.fW x f H i=Hp.fW x (f-1) (H.put i (H.it ((b:Nat):Int))) b:=by
 obtain ⟨f,rfl⟩:∃g,f=g+1:=⟨f-1,by omega⟩
 simp only [Hp.fW,eN];rw [hb,if_pos ⟨hi,ha⟩]
theorem Hp.mV {x:Int} {f:Nat} {H:Hp} {i:Nat} (h:¬(2*i+1<H.items.length∧H.bz (H.it ((H.bN i:Nat):Int)) x=true)):Hp.fW x f H i=H.put i x:=by
 cases f with
 |zero=>rfl
 |succ f=>simp only [Hp.fW];rw [if_neg h]
theorem JW (w:World) (L:fD) (H:Hp) (h:ct w L H) (hr:H.Gf) (i:Nat) (PX:i<H.items.length) (uG:H.items.length≤4611686018427387903):
  Calls Tryz.prog 164 #[.pointer (some ⟨L.a,0,none⟩), .int .i64 i] w fun e w'=>e= .returned (.tuple #[])∧ct w' L (Hp.fW (H.it i) H.items.length H i)∧Fr L.fp w w':=by
 have o0:=h.obj.cell 0
 simp at o0
 obtain ⟨g,hg,ci,fi⟩:=h.jy (i:=i) (by omega) (by omega)
 rw [hg] at o0
 have hx:=hr.it (i:=i) (by omega) (by omega)
 obtain ⟨x,np⟩:∃x,H.it i=x:=⟨_,rfl⟩
 rw [np] at ci hx⊢
 have ci':w.cell? ⟨g,i,none⟩=some (.int .i64 x):=by simpa using ci
 clear ci fi np
 have ns:(i:Int)<H.items.length:=by omega
 go_enter Tryz.func164,Tryz.ntmps164
 go_wp2
 go_loopw [1,5] (fun iv kv wr=>∃(k f:Nat) (K:Hp),iv= .int .i64 k∧ct wr L K∧K.Gf∧K.items.length=H.items.length∧K.at_.length=H.at_.length∧k<H.items.length∧H.items.length≤k+f∧
   al (Hp.fW x H.items.length H i=Hp.fW x f K k)∧Fr L.fp w wr) (fun iv _ _=>H.items.length-(intOf iv).toNat)
 case atStart=>exact ⟨i,H.items.length,H,rfl,h,hr,rfl,rfl,PX,by omega,rfl,Fr.refl _ _⟩
 case round=>
  obtain ⟨k,f,K,rfl,hK,T8,l1,l2,hk,hkf,HE,qe⟩:=hrel
  have q0:=hK.obj.cell 0
  simp only [l1,hg,cN,cg] at q0
  by_cases hc:2*k+1<H.items.length
  ·have XY:2*(k:Int)+1<H.items.length:=by omega
   obtain ⟨g',pJ,cp,_⟩:=hK.jy (i:=(2*k+1:Nat)) (by omega) (by omega)
   rw [hg] at pJ
   cases pJ
   have hy:=T8.it (i:=(2*k+1:Nat)) (by omega) (by omega)
   obtain ⟨y,qt⟩:∃y,K.it ((2*k+1:Nat):Int)=y:=⟨_,rfl⟩
   rw [qt] at cp hy
   have cp':wr.cell? ⟨g,2*k+1,none⟩=some (.int .i64 y):=cp
   clear cp
   have JO:(k:Int)<H.items.length:=by omega
   have HK:=ae hK
   have HL:=ae l1
   have HM:=ae l2
   --adS UK round anJ with UK one Yy is found
   by_cases sJ:2*k+2<H.items.length
   ·have afK:2*(k:Int)+1+1<H.items.length:=by omega
    obtain ⟨g',pJ,cp,_⟩:=hK.jy (i:=(2*k+2:Nat)) (by omega) (by omega)
    rw [hg] at pJ
    cases pJ
    have hz:=T8.it (i:=(2*k+2:Nat)) (by omega) (by omega)
    obtain ⟨z,XJ⟩:∃z,K.it ((2*k+2:Nat):Int)=z:=⟨_,rfl⟩
    rw [XJ] at cp hz
    have cz':wr.cell? ⟨g,2*k+1+1,none⟩=some (.int .i64 z):=cp
    clear cp
    have e1:IntKind.i64.wrap (2*(k:Int)+1+1)=2*(k:Int)+1+1:=IntWalk.i64_in _ (by omega)
    have HY:=ae qt
    have HZ:=ae XJ
    have eG:=ae e1
    cases ha:K.bz z y with
    |true=>
     have hb:K.bN k=2*k+2:=by unfold Hp.bN;rw [if_pos ⟨by omega,by rw [XJ,qt];exact ha⟩]
     have HB:=ae hb
     have HA:=ae ha
     clear ha qt XJ hb hK l1 l2 e1
     go_wp2_with fail
     have e1:=eG.o
     have e2:(2*(k:Int)+1+1).toNat=2*k+1+1:=by omega
     have e3:(0:Int)≤2*(k:Int)+1+1:=by omega
     have e4:(2*(k:Int)+1).toNat=2*k+1:=by omega
     have e5:(0:Int)≤2*(k:Int)+1:=by omega
     go_quiet ((go_at_call 119;exact GZ (dE _ L K (HK.o.drewN _) z y true HA.o hz hy)))
     clear e1 e2 e3 e4 e5
     go_wp2_with fail
     cases vW:K.bz z x with
     |true=>
      have HS:al (Hp.fW x f K k=Hp.fW x (f-1) (K.put k z) (2*k+2)):=by
       have :=Hp.wG (x:=x) (f:=f) (H:=K) (i:=k) HB.o (by rw [HL.o];exact hc) (by rw [HZ.o];exact vW) (by omega)
       rw [HZ.o] at this
       exact this
      have GH:=ae vW
      clear vW
      refine (dE _ L K (HK.o.drewN _) z x true GH.o hz (by rw [HM.o];exact hx)).mono ?_
      rintro e w1 ⟨rfl,n1,rfl⟩
      go_wp2_with fail
      refine (fT _ L K (HK.o.drewN _) k z (by omega) (by rw [HL.o];omega) hz.1 hz.2).mono ?_
      rintro e w1 ⟨rfl,hp,cU⟩
      have HP:=ae hp
      clear hp
      go_wp2_with fail
      go_roundw
      case rel=>
       exact ⟨2*k+2,f-1,K.put k z,by go_num,HP.o,T8.put hz.1 hz.2,by rw [Hp.dV];exact HL.o,by rw [Hp.sg];exact HM.o,by omega,by omega,HE.o.trans HS.o,
        qe.aj (((Fr.refl L.fp wr).drewN _).aj cU)⟩
      case measure=>simp [intOf];omega
     |false=>
      have HS:al (Hp.fW x f K k=K.put k x):=Hp.mV (by rw [HB.o,HZ.o,vW];simp)
      have GH:=ae vW
      clear vW
      refine (dE _ L K (HK.o.drewN _) z x false GH.o hz (by rw [HM.o];exact hx)).mono ?_
      rintro e w1 ⟨rfl,n1,rfl⟩
      go_wp2_with fail
      refine (fT _ L K (HK.o.drewN _) k x (by omega) (by rw [HL.o];omega) hx.1 (by rw [HM.o];exact hx.2)).mono ?_
      rintro e w1 ⟨rfl,hp,cU⟩
      have HP:=ae hp
      clear hp
      go_wp2_with fail
      go_end0
      exact ⟨rfl,by rw [HE.o,HS.o];exact HP.o,qe.aj (((Fr.refl L.fp wr).drewN _).aj cU)⟩
    |false=>
     have hb:K.bN k=2*k+1:=by unfold Hp.bN;rw [if_neg (by rw [XJ,qt,ha];simp)]
     have HB:=ae hb
     have HA:=ae ha
     clear ha qt XJ hb hK l1 l2 e1
     go_wp2_with fail
     have e1:=eG.o
     have e2:(2*(k:Int)+1+1).toNat=2*k+1+1:=by omega
     have e3:(0:Int)≤2*(k:Int)+1+1:=by omega
     have e4:(2*(k:Int)+1).toNat=2*k+1:=by omega
     have e5:(0:Int)≤2*(k:Int)+1:=by omega
     go_quiet ((go_at_call 119;exact GZ (dE _ L K (HK.o.drewN _) z y false HA.o hz hy)))
     clear e1 e2 e3 e4 e5
     go_wp2_with fail
     cases vW:K.bz y x with
     |true=>
      have HS:al (Hp.fW x f K k=Hp.fW x (f-1) (K.put k y) (2*k+1)):=by
       have :=Hp.wG (x:=x) (f:=f) (H:=K) (i:=k) HB.o (by rw [HL.o];exact hc) (by rw [HY.o];exact vW) (by omega)
       rw [HY.o] at this
       exact this
      have GH:=ae vW
      clear vW
      refine (dE _ L K (HK.o.drewN _) y x true GH.o hy (by rw [HM.o];exact hx)).mono ?_
      rintro e w1 ⟨rfl,n1,rfl⟩
      go_wp2_with fail
      refine (fT _ L K (HK.o.drewN _) k y (by omega) (by rw [HL.o];omega) hy.1 hy.2).mono ?_
      rintro e w1 ⟨rfl,hp,cU⟩
      have HP:=ae hp
      clear hp
      go_wp2_with fail
      go_roundw
      case rel=>
       exact ⟨2*k+1,f-1,K.put k y,by go_num,HP.o,T8.put hy.1 hy.2,by rw [Hp.dV];exact HL.o,by rw [Hp.sg];exact HM.o,by omega,by omega,HE.o.trans HS.o,
        qe.aj (((Fr.refl L.fp wr).drewN _).aj cU)⟩
      case measure=>simp [intOf];omega
     |false=>
      have HS:al (Hp.fW x f K k=K.put k x):=Hp.mV (by rw [HB.o,HY.o,vW];simp)
      have GH:=ae vW
      clear vW
      refine (dE _ L K (HK.o.drewN _) y x false GH.o hy (by rw [HM.o];exact hx)).mono ?_
      rintro e w1 ⟨rfl,n1,rfl⟩
      go_wp2_with fail
      refine (fT _ L K (HK.o.drewN _) k x (by omega) (by rw [HL.o];omega) hx.1 (by rw [HM.o];exact hx.2)).mono ?_
      rintro e w1 ⟨rfl,hp,cU⟩
      have HP:=ae hp
      clear hp
      go_wp2_with fail
      go_end0
      exact ⟨rfl,by rw [HE.o,HS.o];exact HP.o,qe.aj (((Fr.refl L.fp wr).drewN _).aj cU)⟩
   ·have afK:decide (2*(k:Int)+1+1<H.items.length)=false:=decide_eq_false (by omega)
    have hb:K.bN k=2*k+1:=by unfold Hp.bN;rw [if_neg (by rw [l1];omega)]
    have e1:IntKind.i64.wrap (2*(k:Int)+1+1)=2*(k:Int)+1+1:=IntWalk.i64_in _ (by omega)
    have HB:=ae hb
    have HY:=ae qt
    have eG:=ae e1
    clear qt hb hK l1 l2 e1
    go_wp2_with fail
    have e1:=eG.o
    go_quiet (fail)
    clear e1
    go_wp2_with fail
    cases vW:K.bz y x with
    |true=>
     have HS:al (Hp.fW x f K k=Hp.fW x (f-1) (K.put k y) (2*k+1)):=by
      have :=Hp.wG (x:=x) (f:=f) (H:=K) (i:=k) HB.o (by rw [HL.o];exact hc) (by rw [HY.o];exact vW) (by omega)
      rw [HY.o] at this
      exact this
     have GH:=ae vW
     clear vW
     refine (dE _ L K (HK.o.drewN _) y x true GH.o hy (by rw [HM.o];exact hx)).mono ?_
     rintro e w1 ⟨rfl,n1,rfl⟩
     go_wp2_with fail
     refine (fT _ L K (HK.o.drewN _) k y (by omega) (by rw [HL.o];omega) hy.1 hy.2).mono ?_
     rintro e w1 ⟨rfl,hp,cU⟩
     have HP:=ae hp
     clear hp
     go_wp2_with fail
     go_roundw
     case rel=>
      exact ⟨2*k+1,f-1,K.put k y,by go_num,HP.o,T8.put hy.1 hy.2,by rw [Hp.dV];exact HL.o,by rw [Hp.sg];exact HM.o,by omega,by omega,HE.o.trans HS.o,
       qe.aj (((Fr.refl L.fp wr).drewN _).aj cU)⟩
     case measure=>simp [intOf];omega
    |false=>
     have HS:al (Hp.fW x f K k=K.put k x):=Hp.mV (by rw [HB.o,HY.o,vW];simp)
     have GH:=ae vW
     clear vW
     refine (dE _ L K (HK.o.drewN _) y x false GH.o hy (by rw [HM.o];exact hx)).mono ?_
     rintro e w1 ⟨rfl,n1,rfl⟩
     go_wp2_with fail
     refine (fT _ L K (HK.o.drewN _) k x (by omega) (by rw [HL.o];omega) hx.1 (by rw [HM.o];exact hx.2)).mono ?_
     rintro e w1 ⟨rfl,hp,cU⟩
     have HP:=ae hp
     clear hp
     go_wp2_with fail
     go_end0
     exact ⟨rfl,by rw [HE.o,HS.o];exact HP.o,qe.aj (((Fr.refl L.fp wr).drewN _).aj cU)⟩
  ·have HS:al (Hp.fW x f K k=K.put k x):=Hp.mV (fun h=>hc (by rw [←l1];exact h.1))
   have XY:¬2*(k:Int)+1<H.items.length:=by omega
   have HK:=ae hK
   have HL:=ae l1
   have HM:=ae l2
   clear hK l1 l2
   go_wp2_with fail
   refine (fT _ L K HK.o k x (by omega) (by rw [HL.o];omega) hx.1 (by rw [HM.o];exact hx.2)).mono ?_
   rintro e w1 ⟨rfl,hp,cU⟩
   have HP:=ae hp
   clear hp
   go_wp2_with fail
   go_end0
   exact ⟨rfl,by rw [HE.o,HS.o];exact HP.o,qe.aj cU⟩
theorem kc:(Tryz.prog.info? 3).map (fun i=>(i.zero,i.size,i.bytes))=some (some (.int .i64 0),1,8):=by kernel_rfl
theorem iR {A:Option Addr} {n c:Nat}:∀k,(Value.slice A n c).ownBlock=some k↔k∈ap A:=by
 intro k
 rcases A with _ |ad
 ·simp [Value.ownBlock,ap]
 ·simp [Value.ownBlock,ap,eq_comm]
theorem nX (w:World) (ty:TypeId) (A:Option Addr) (c:Nat) (xs:List Int) (dA:Ints w A c xs) (ad:Addr) (c':Nat) (y:Int) (hy:w.cell? ad=some (.int .i64 y)) (hlen:xs.length<17592186044416):
  ∃g cap w',(Builtin.append_ #[22,22] ty #[.slice A xs.length c, .slice (some ad) 1 c']).run Tryz.prog w= .ok (.slice (some ⟨g,0,none⟩) (xs.length+1) cap) w'∧
   Ints w' (some ⟨g,0,none⟩) cap (xs++[y])∧Fr (ap A) w w'∧(g∈ap A∨g=w.heap.size)∧w.heap.size≤w'.heap.size:=by
 obtain ⟨i0,hi,vG,nc,A8⟩:=info_parts kc
 obtain ⟨v',w',hr,h2,h3,h4,h5⟩:=run_append_own_at (P:=Tryz.prog) w 0 22 ty 3 i0 (.int .i64 0) 1 8 Tryz.underlying22 hi vG nc A8 rfl (by decide) (.slice A xs.length c) xs.length _ dA
  ad 1 c' [.int .i64 y] rfl (by
   intro j u hj
   match j,hj with
   |0,hj=>
    simp at hj
    subst hj
    simpa [Addr.add] using hy) (by simp [Value.oneCell']) (by unfold maxLen;omega) (by omega) (bH _)
 have hv:∃g cap,v'= .slice (some ⟨g,0,none⟩) (xs.length+1) cap:=by
  rcases h2.2 with ⟨_,h0⟩ |⟨g,cap,cur,hv,_⟩
  ·omega
  ·exact ⟨g,cap,hv⟩
 obtain ⟨g,cap,rfl⟩:=hv
 refine ⟨g,cap,w',hr,?_,?_,?_,h3.size⟩
 ·unfold Ints
  simpa using h2
 ·exact (Fr.refl _ w).grown h3 fun k hk=> .inl ((iR k).1 hk)
 ·rcases h5 with h5 |h5
  ·exact .inl ((iR g).1 h5.symm)
  ·simp only [Value.ownBlock,Option.some.injEq] at h5
   exact .inr h5
theorem cT (w:World) {ops:Array Oper} {rest:List Oper} {o:Oper} {a:Act} {Q:Exit→Act→World→Prop} (ou:o.guard=none) (s x:Operand)
  (ho:o.op= .call { callee:= .builtin .append,args:=#[s,x],argTypes:=#[22,22] }) (A:Option Addr) (c:Nat) (xs:List Int) (n:Nat) (hs:a.eval s= .slice A n c) (hn:n=xs.length) (dA:Ints w A c xs)
  (ad:Addr) (c':Nat) (y:Int) (hx:a.eval x= .slice (some ad) 1 c') (hy:w.cell? ad=some (.int .i64 y)) (hlen:xs.length<17592186044416)
  (h:∀g cap w',Ints w' (some ⟨g,0,none⟩) cap (xs++[y])→Fr (ap A) w w'→(g∈ap A∨g=w.heap.size)→w.heap.size≤w'.heap.size→wpList Tryz.prog ops Q rest (a.put o.dst (.slice (some ⟨g,0,none⟩) (n+1) cap)) w'):
  wpList Tryz.prog ops Q (o::rest) a w:=by
 subst hn
 refine wpList_plain ou fun K hK=> ?_
 obtain ⟨g,cap,w',hr,h2,h3,h4,h5⟩:=nX w o.type A c xs dA ad c' y hy hlen
 unfold Oper.wp execOp
 simp only [ho,resolve,invoke,builtin,Sem.run_bind,Sem.run_pure,Result.andThen_ok,List.map_toArray,cM,dU,hs,hx,hr]
 exact hK _ _ (h g cap w' h2 h3 h4 h5)
theorem bT {w:World} {ops:Array Oper} {o:Oper} {a:Act} {K:Act→World→Prop} {Q:Exit→Act→World→Prop} {E:Prop} (ou:o.guard=none) (s x:Operand)
  (ho:o.op= .call { callee:= .builtin .append,args:=#[s,x],argTypes:=#[22,22] }) (A:Option Addr) (c:Nat) (xs:List Int) (n:Nat) (hs:a.eval s= .slice A n c) (hn:n=xs.length) (dA:Ints w A c xs)
  (ad:Addr) (c':Nat) (y:Int) (hx:a.eval x= .slice (some ad) 1 c') (hy:w.cell? ad=some (.int .i64 y)) (hlen:xs.length<17592186044416)
  (h:∀g cap w',Ints w' (some ⟨g,0,none⟩) cap (xs++[y])→Fr (ap A) w w'→(g∈ap A∨g=w.heap.size)→w.heap.size≤w'.heap.size→K (a.put o.dst (.slice (some ⟨g,0,none⟩) (n+1) cap)) w'):
  if Region.wanted o (yielded ops a.tmps)=true then Oper.wp Tryz.prog o a w K Q else E:=by
 have hw:Region.wanted o (yielded ops a.tmps)=true:=by simp [Region.wanted,ou]
 rw [if_pos hw]
 subst hn
 obtain ⟨g,cap,w',hr,h2,h3,h4,h5⟩:=nX w o.type A c xs dA ad c' y hy hlen
 unfold Oper.wp execOp
 simp only [ho,resolve,invoke,builtin,Sem.run_bind,Sem.run_pure,Result.andThen_ok,List.map_toArray,cM,dU,hs,hx,hr]
 exact h g cap w' h2 h3 h4 h5
theorem CP (w:World) (L:fD) (H:Hp) (h:ct w L H):
  Calls Tryz.prog 163 #[.pointer (some ⟨L.a,0,none⟩)] w fun e w'=>e= .returned (.int .i64 H.items.length)∧w=w':=by
 have o0:=h.obj.cell 0
 simp at o0
 go_enter Tryz.func163,Tryz.ntmps163
 go_wp2
 go_ret
 exact ⟨rfl,rfl⟩
theorem Hp.dj {H:Hp} {x:Int} (h:H.iV x=true):0≤x∧x<H.at_.length:=by simpa [Hp.iV] using h
theorem ip (w:World) (L:fD) (H:Hp) (h:ct w L H) (x:Int) (b:Bool) (hb:H.iV x=b):
  Calls Tryz.prog 101 #[.pointer (some ⟨L.a,0,none⟩), .int .i64 x] w fun e w'=>e= .returned (.bool b)∧w=w':=by
 subst hb;exact RQ w L H h x
theorem ct.alloc {w:World} {L:fD} {H:Hp} (h:ct w L H) (o:Obj):ct (w.alloc o) L H:=
 ⟨h.obj.alloc o,h.items.alloc o,h.at_.alloc o,h.score.alloc o,h.nodup,h.same⟩
theorem ct.fr {w w':World} {L:fD} {H:Hp} {S:List Nat} (h:ct w L H) (hf:Fr S w w') (hd:∀k,k∈L.fp→k∉S):ct w' L H:=
 ⟨hf.at_ h.obj (hd _ (by simp [fD.fp])),h.items.fr hf fun k hk=>hd k (by simp [fD.fp,hk]),h.at_.fr hf fun k hk=>hd k (by simp [fD.fp,hk]),h.score.fr hf fun k hk=>hd k (by simp [fD.fp,hk]),h.nodup,h.same⟩
theorem ct.lt {w:World} {L:fD} {H:Hp} (h:ct w L H):∀k,k∈L.fp→k<w.heap.size:=by
 intro k hk
 simp only [fD.fp,av,ag] at hk
 rcases hk with rfl |hk |hk |hk
 ·exact h.obj.lt
 ·exact h.items.lt k hk
 ·exact h.at_.lt k hk
 ·exact h.score.lt k hk
theorem ct.MS {w w':World} {L:fD} {H:Hp} (h:ct w L H) {g cap:Nat} {items:List Int} (hi:Ints w' (some ⟨g,0,none⟩) cap items) (hf:Fr (ap L.A1) w w') (hg:g∈ap L.A1∨g=w.heap.size):
  ct (w'.setCell ⟨L.a,0,none⟩ (.slice (some ⟨g,0,none⟩) items.length cap)) { L with A1:=some ⟨g,0,none⟩,c1:=cap } { H with items:=items }:=by
 obtain ⟨h1,h2,h3⟩:=ig h.nodup
 have bM:=h.lt
 have o3:g≠L.a:=by
  rcases hg with hg |hg
  ·exact (h1 g hg).1
  ·have :=h.obj.lt;omega
 have eY:g∉ap L.A2:=by
  rcases hg with hg |hg
  ·exact (h1 g hg).2.1
  ·intro hk;have :=h.at_.lt g hk;omega
 have Be:g∉ap L.A3:=by
  rcases hg with hg |hg
  ·exact (h1 g hg).2.2
  ·intro hk;have :=h.score.lt g hk;omega
 have hb:ap (some ⟨g,0,none⟩)=[g]:=rfl
 refine ⟨?_,?_,?_,?_,?_,h.same⟩
 ·have :=(hf.at_ h.obj (fun hk=>(h1 _ hk).1 rfl)).eo 0 (.slice (some ⟨g,0,none⟩) items.length cap)
  simpa using this
 ·exact hi.gh (by rw [hb];simpa using fun e=>o3 e.symm) _
 ·exact (h.at_.fr hf fun k hk pI=>(h1 k pI).2.1 hk).gh (fun hk=>(h2 _ hk).1 rfl) _
 ·exact (h.score.fr hf fun k hk pI=>(h1 k pI).2.2 hk).gh (fun hk=>(h3 _ hk).1 rfl) _
 ·have hn:=h.nodup
  simp only [fD.fp,eB,ag,List.nodup_append,hb,ah,cK,not_false_eq_true,List.nodup_nil,true_and,and_true] at hn⊢
  obtain ⟨n1,n2,n3,n4⟩:=hn
  refine ⟨?_,n3,?_⟩
  ·rintro (e |hk)
   ·exact o3 e.symm
   ·exact n1 (.inr hk)
  ·rintro _ rfl b hb' rfl
   exact hb'.elim eY Be
def Hp.qS (H:Hp) (x:Int):Hp:=Hp.zu x (H.items.length+1) { H with items:=H.items++[x],at_:=H.at_.set x.toNat H.items.length } H.items.length
def fD.ext (L L':fD) (w:World):Prop:=L'.a=L.a∧(∀k,k∈L'.fp→k∈L.fp∨w.heap.size≤k)∧(L.A2.isSome=true→L'.A2.isSome=true)
theorem An (w:World) (L:fD) (H:Hp) (h:ct w L H) (x:Int) (hx:H.iV x=false∨H.iV x=true∧0≤H.pl x):
  Calls Tryz.prog 77 #[.pointer (some ⟨L.a,0,none⟩), .int .i64 x] w fun e w'=>e= .returned (.bool false)∧w=w':=by
 have o1:=h.obj.cell 1
 simp at o1
 rcases hx with hb |⟨hb,hp⟩
 ·have HB:=ae hb
  have HH:=ae h
  clear hb h
  go_enter Tryz.func77,Tryz.ntmps77
  go_wp2_with fail
  refine (ip _ L H HH.o x false HB.o).mono ?_
  rintro e w1 ⟨rfl,rfl⟩
  go_wp2
  go_ret
  exact ⟨rfl,rfl⟩
 ·obtain ⟨h0,h1⟩:=Hp.dj hb
  obtain ⟨g,hg,ci,fi⟩:=h.xa h0 h1
  rw [hg] at o1
  have HB:=ae hb
  have HH:=ae h
  clear hb h
  go_enter Tryz.func77,Tryz.ntmps77
  go_wp2_with fail
  refine (ip _ L H HH.o x true HB.o).mono ?_
  rintro e w1 ⟨rfl,rfl⟩
  go_wp2
  go_ret
  exact ⟨rfl,rfl⟩
theorem xX (w:World) (L:fD) (H:Hp) (h:ct w L H) (hr:H.Gf) (x:Int) (hb:H.iV x=true) (hp:H.pl x<0) (hlen:H.items.length<1048576):
  Calls Tryz.prog 77 #[.pointer (some ⟨L.a,0,none⟩), .int .i64 x] w fun e w'=>e= .returned (.bool true)∧∃L',ct w' L' (H.qS x)∧L.ext L' w∧Fr L.fp w w':=by
 have o0:=h.obj.cell 0
 have o1:=h.obj.cell 1
 simp at o0 o1
 obtain ⟨h0,h1⟩:=Hp.dj hb
 obtain ⟨g2,eY,ci,fi⟩:=h.xa h0 h1
 rw [eY] at o1
 have oa:=h.obj.frozen 0
 have HB:=ae hb
 have HH:=ae h
 have HR:=ae hr
 have rV:=ae eY
 have bM:=h.obj.lt
 clear hb h hr eY
 go_enter Tryz.func77,Tryz.ntmps77
 go_wp2_with fail
 refine (ip _ L H HH.o x true HB.o).mono ?_
 rintro e w1 ⟨rfl,rfl⟩
 have tE:al (L.a∉ap L.A1):=fun hk=>((ig HH.o.nodup).1 _ hk).1 rfl
 go_wp2_with (at_builtin;refine cT _ rfl _ _ rfl L.A1 L.c1 H.items _ rfl rfl (HH.o.items.alloc _) ⟨w.heap.size,0,none⟩ 1 x rfl (by simp) (by omega) ?_;intro g cap w2 ns bZ eY jz;have q2:=bZ.at_ (HH.o.obj.alloc _) tE.o;have q3:=q2.cell 0;have q4:=q2.frozen 0;simp at q3;have HI:=ae ns;have HF:=ae bZ;have HQ:=ae eY;have HS:=ae jz;clear q2 ns bZ eY jz)
 have hN:ct (w2.setCell ⟨L.a,0,none⟩ (.slice (some ⟨g,0,none⟩) (H.items.length+1) cap)) { L with A1:=some ⟨g,0,none⟩,c1:=cap } { H with items:=H.items++[x] }:=by
  have :=ct.MS (HH.o.alloc _) HI.o HF.o HQ.o
  simpa using this
 have hF:Fr L.fp w (w2.setCell ⟨L.a,0,none⟩ (.slice (some ⟨g,0,none⟩) (H.items.length+1) cap)):=
  (((Fr.refl L.fp w).alloc _).trans HF.o (fun k hk=> .inl (by simp [fD.fp,hk]))).setCell (.inl (by simp [fD.fp])) _
 have hX:∀k,k∈({ L with A1:=some ⟨g,0,none⟩,c1:=cap }:fD).fp→k∈L.fp∨w.heap.size≤k:=by
  intro k hk
  simp only [fD.fp,av,ag,ap,cu,fq,cK,or_false] at hk⊢
  rcases hk with hk |hk |hk |hk
  ·exact .inl (.inl hk)
  ·rcases HQ.o with hq |hq
   ·exact .inl (.inr (.inl (by rw [hk];exact hq)))
   ·right;rw [hk,hq];simp
  ·exact .inl (.inr (.inr (.inl hk)))
  ·exact .inl (.inr (.inr (.inr hk)))
 obtain ⟨W,hW⟩:∃W,W=w2.setCell ⟨L.a,0,none⟩ (.slice (some ⟨g,0,none⟩) (H.items.length+1) cap):=⟨_,rfl⟩
 rw [←hW] at hN hF⊢
 clear hW o0 o1 ci fi oa q3 q4
 have p0:=hN.obj.cell 0
 have p1:=hN.obj.cell 1
 simp [rV.o] at p0 p1
 have eY:=rV.o
 obtain ⟨g',pJ,ci,fi⟩:=hN.xa (i:=x) h0 h1
 simp only [eY,Option.some.injEq,Addr.mk.injEq,and_true] at pJ
 subst pJ
 have hM:=hN.UQ (g:=g2) eY x.toNat H.items.length
 have HM:=ae hM
 have HF:=ae hF
 have HX:=ae hX
 clear hM hF hX hN eY
 have ajk:(H.items.length:Int)<1048576:=by omega
 go_region
 obtain ⟨V,hV⟩:∃V,V=(W.setCell ⟨g2,x.toNat,none⟩ (.int .i64 H.items.length)).drew:=⟨_,rfl⟩
 rw [←hV]
 have hM:ct V { L with A1:=some ⟨g,0,none⟩,c1:=cap } { H with items:=H.items++[x],at_:=H.at_.set x.toNat H.items.length }:=by
  rw [hV];exact HM.o.drew
 have Bh:Fr L.fp w V:=by
  rw [hV];exact (HF.o.setCell (.inl (by simp [fD.fp,rV.o,ap])) _).drew
 clear hV p0 p1 ci fi HM HF hp
 have p1:=hM.obj.cell 1
 simp [rV.o] at p1
 have eY:=rV.o
 obtain ⟨g',pJ,ci,_⟩:=hM.xa (i:=x) h0 (by simpa using h1)
 simp only [eY,Option.some.injEq,Addr.mk.injEq,and_true] at pJ
 subst pJ
 have ix:x.toNat<H.at_.length:=by omega
 simp only [Hp.pl,aa,List.getElem?_set_self ix,ay] at ci
 have HM:=ae hM
 have HF:=ae Bh
 clear hM Bh eY
 go_wp2_with fail
 refine (Hw _ _ _ HM.o ?_ H.items.length (by simp)).mono ?_
 ·intro j hj
  have RG:j<H.items.length+1:=by simpa using hj
  simp only [aw]
  by_cases e:j<H.items.length
  ·have :(H.items++[x])[j]! =H.items[j]! :=by simp [aa,cW e]
   rw [this];exact HR.o j e
  ·have e':j=H.items.length:=by omega
   subst e'
   have :(H.items++[x])[H.items.length]! =x:=by simp
   rw [this];exact ⟨h0,h1⟩
 rintro e w1 ⟨rfl,hp,cU⟩
 have HP:=ae hp
 have dy:=ae cU
 clear hp cU p1 ci
 go_wp2
 go_ret
 refine ⟨rfl,{ L with A1:=some ⟨g,0,none⟩,c1:=cap },?_,⟨rfl,HX.o,id⟩,?_⟩
 ·have :=HP.o
  have e1:Hp.it { H with items:=H.items++[x],at_:=H.at_.set x.toNat H.items.length } (H.items.length:Nat)=x:=by simp [Hp.it]
  rw [e1] at this
  exact this
 ·exact HF.o.trans dy.o HX.o
theorem CO (w:World) (L:fD) (H:Hp) (h:ct w L H) (hn:H.items=[]):
  Calls Tryz.prog 154 #[.pointer (some ⟨L.a,0,none⟩)] w fun e w'=>e= .returned (.tuple #[.int .i64 0, .bool false])∧w=w':=by
 have hl:=CP w L H h
 rw [hn] at hl
 have HL:=ae hl
 clear hl h
 go_enter Tryz.func154,Tryz.ntmps154
 go_wp2_with fail
 refine HL.o.mono ?_
 rintro e w1 ⟨rfl,rfl⟩
 go_wp2
 go_ret2
 exact ⟨rfl,rfl⟩
def Hp.jS (H:Hp):Hp:=
 let n:=H.items.length-1
 let K:Hp:={ H with items:=H.items.take n,at_:=H.at_.set (H.it 0).toNat (-1) }
 if n=0 then K else Hp.fW (H.it n) n (K.put 0 (H.it n)) 0
theorem ct.cut {w:World} {L:fD} {H:Hp} (h:ct w L H) (k:Nat) (hk:k≤H.items.length):ct (w.setCell ⟨L.a,0,none⟩ (.slice L.A1 k L.c1)) L { H with items:=H.items.take k }:=by
 obtain ⟨h1,h2,h3⟩:=ig h.nodup
 refine ⟨?_,?_,?_,?_,h.nodup,h.same⟩
 ·have :=h.obj.eo 0 (.slice L.A1 k L.c1)
  have e:(H.items.take k).length=k:=by simp;omega
  simpa [e] using this
 ·exact (h.items.py k).gh (fun hk=>(h1 _ hk).1 rfl) _
 ·exact h.at_.gh (fun hk=>(h2 _ hk).1 rfl) _
 ·exact h.score.gh (fun hk=>(h3 _ hk).1 rfl) _
theorem Ao (w:World) (L:fD) (H:Hp) (h:ct w L H) (hr:H.Gf) (n:Nat) (hn:H.items.length=n+1) (hlen:H.items.length<1048576):
  Calls Tryz.prog 154 #[.pointer (some ⟨L.a,0,none⟩)] w fun e w'=>e= .returned (.tuple #[.int .i64 (H.it 0), .bool true])∧ct w' L H.jS∧Fr L.fp w w':=by
 have o0:=h.obj.cell 0
 have o1:=h.obj.cell 1
 simp at o0 o1
 obtain ⟨g,hg,c0,_⟩:=h.jy (i:=0) (by omega) (by omega)
 obtain ⟨g',pJ,cn,_⟩:=h.jy (i:=n) (by omega) (by omega)
 rw [hg] at pJ o0
 cases pJ
 have hx:=hr.it (i:=0) (by omega) (by omega)
 have hy:=hr.it (i:=n) (by omega) (by omega)
 obtain ⟨g2,eY,cx,fx⟩:=h.xa hx.1 hx.2
 rw [eY] at o1
 have hl:=CP w L H h
 rw [hn] at hl o0
 have sI:n+1≤L.c1:=by
  rcases h.items.form with ⟨_,_,h0⟩ |⟨_,_,_,h0,_⟩
  ·rw [h0] at hn;simp at hn
  ·omega
 have dI:g≠g2:=fun e=>((ig h.nodup).1 g (by simp [hg,ap])).2.1 (by simp [eY,ap,e])
 have hna:L.a≠g2:=fun e=>((ig h.nodup).2.1 g2 (by simp [eY,ap])).1 e.symm
 have oa:=h.obj.frozen 0
 have hM:=(h.cut n (by omega)).UQ (g:=g2) eY (H.it 0).toNat (-1)
 rw [hg] at hM
 have hF:Fr L.fp w ((w.setCell ⟨L.a,0,none⟩ (.slice (some ⟨g,0,none⟩) n L.c1)).setCell ⟨g2,(H.it 0).toNat,none⟩ (.int .i64 (-1))):=
  ((Fr.refl L.fp w).setCell (.inl (by simp [fD.fp])) _).setCell (.inl (by simp [fD.fp,eY,ap])) _
 have HM:=ae hM
 have HF:=ae hF
 have HL:=ae hl
 have HG:=ae hg
 have rV:=ae eY
 have HR:=ae hr
 have HN:=ae hn
 simp only [Int.toNat_zero,Int.toNat_natCast] at c0 cn
 obtain ⟨x,np⟩:∃x,H.it 0=x:=⟨_,rfl⟩
 obtain ⟨y,qt⟩:∃y,H.it n=y:=⟨_,rfl⟩
 rw [np] at c0 cx fx hx HM HF⊢
 rw [qt] at cn hy
 have HXE:=ae np
 have HYE:=ae qt
 have oZ:(n:Int)+1<1048576:=by omega
 clear hM hF hl hg eY hr hn np qt h hlen
 go_enter Tryz.func154,Tryz.ntmps154
 go_wp2_with fail
 refine HL.o.mono ?_
 rintro e w1 ⟨rfl,rfl⟩
 have ez:((n:Int)+1==0)=false:=beq_eq_false_iff_ne.2 (by omega)
 have ez':(((n+1:Nat):Int)==0)=false:=beq_eq_false_iff_ne.2 (by omega)
 go_wp2
 go_region
 go_wp2
 go_region
 obtain ⟨V,hV⟩:∃V,V=((w.setCell ⟨L.a,0,none⟩ (.slice (some ⟨g,0,none⟩) n L.c1)).setCell ⟨g2,x.toNat,none⟩ (.int .i64 (-1))).drew.drew:=⟨_,rfl⟩
 rw [←hV]
 have hM:ct V L { H with items:=H.items.take n,at_:=H.at_.set x.toNat (-1) }:=by rw [hV];exact HM.o.drew.drew
 have hF:Fr L.fp w V:=by rw [hV];exact HF.o.drew.drew
 clear hV HM HF o0 o1 c0 cn cx fx oa
 have hlen:(H.items.take n).length=n:=by have :=HN.o;simp;omega
 have HM:=ae hM
 have HF:=ae hF
 have Gv:=ae hlen
 clear hM hF hlen
 by_cases hz:n=0
 ·subst hz
  have HP:al (H.jS={ H with items:=H.items.take 0,at_:=H.at_.set x.toNat (-1) }):=by
   show _=_
   unfold Hp.jS
   rw [HN.o,HXE.o]
   simp
  go_wp2
  go_ret2
  exact ⟨rfl,by rw [HP.o];exact HM.o,HF.o⟩
 ·have TR:0<n:=by omega
  have HP:al (H.jS=Hp.fW y n (Hp.put { H with items:=H.items.take n,at_:=H.at_.set x.toNat (-1) } 0 y) 0):=by
   show _=_
   unfold Hp.jS
   rw [HN.o,HXE.o]
   simp only [eN]
   rw [if_neg hz,HYE.o]
  have hK:Hp.Gf (Hp.put { H with items:=H.items.take n,at_:=H.at_.set x.toNat (-1) } 0 y):=by
   refine Hp.Gf.put (fun j hj=> ?_) hy.1 (by simpa using hy.2)
   have hl:=Gv.o
   have hn':=HN.o
   have e:(H.items.take n)[j]! =H.items[j]! :=by
    simp only [aa,List.getElem?_take]
    rw [if_pos (by simp only [hl] at hj;exact hj)]
   simp only [e,aw]
   exact HR.o j (by simp only [hl] at hj;omega)
  have HK:=ae hK
  clear hK hz ez ez'
  go_wp2_with fail
  refine (fT _ L _ HM.o 0 y (by omega) (by rw [show ({ H with items:=H.items.take n,at_:=H.at_.set x.toNat (-1) }:Hp).items.length=n from Gv.o];omega) hy.1 (by simpa using hy.2)).mono ?_
  rintro e w1 ⟨rfl,hp,cU⟩
  have HP1:=ae hp
  have dy:=ae cU
  have xy:(Hp.put { H with items:=H.items.take n,at_:=H.at_.set x.toNat (-1) } 0 y).items.length=n:=by rw [Hp.dV];exact Gv.o
  have Z4:(Hp.put { H with items:=H.items.take n,at_:=H.at_.set x.toNat (-1) } 0 y).it (0:Nat)=y:=by
   have hl:=Gv.o
   have :0<(H.items.take n).length:=by omega
   simp [Hp.it,Hp.put,aa,List.getElem?_set_self this]
  have HPL:=ae xy
  have HPI:=ae Z4
  clear hp cU xy Z4
  go_wp2_with fail
  refine (JW _ L _ HP1.o HK.o 0 (by rw [HPL.o];omega) (by rw [HPL.o];omega)).mono ?_
  rintro e w2 ⟨rfl,hp,cU⟩
  have Bo:=ae hp
  have cH:=ae cU
  clear hp cU
  go_wp2
  go_ret2
  refine ⟨rfl,?_,(HF.o.aj dy.o).aj cH.o⟩
  rw [HP.o]
  have :=Bo.o
  rw [HPI.o,HPL.o] at this
  exact this
def Hp.jQ (H:Hp) (x b:Int):Hp:=
 if H.iV x=true∧0≤b∧b≤1099511627776∧H.sc x≤1125899906842624-b then
  let K:Hp:={ H with score:=H.score.set x.toNat (H.sc x+b) }
  if 0≤H.pl x then Hp.zu (K.it (H.pl x)) ((H.pl x).toNat+1) K (H.pl x).toNat else K
 else H
theorem xW (w:World) (L:fD) (H:Hp) (h:ct w L H) (x b:Int) (oq:¬(H.iV x=true∧0≤b∧b≤1099511627776∧H.sc x≤1125899906842624-b)):
  Calls Tryz.prog 160 #[.pointer (some ⟨L.a,0,none⟩), .int .i64 x, .int .i64 b] w fun e w'=>e= .returned (.tuple #[])∧w=w':=by
 have o2:=h.obj.cell 2
 simp at o2
 have hs:=h.same
 cases hb:H.iV x with
 |false=>
  have HB:=ae hb
  have HH:=ae h
  clear hb h oq hs
  go_enter Tryz.func160,Tryz.ntmps160
  go_wp2_with fail
  refine (ip _ L H HH.o x false HB.o).mono ?_
  rintro e w1 ⟨rfl,rfl⟩
  go_wp2_with fail
  refine bodyPost_ret (results_none rfl _ _ _) rfl ?_
  exact ⟨rfl,rfl⟩
 |true=>
  obtain ⟨h0,h1⟩:=Hp.dj hb
  obtain ⟨g,hg,ci⟩:=h.aT h0 h1
  rw [hg] at o2
  have h2:x<H.score.length:=by omega
  obtain ⟨s,hse⟩:∃s,H.sc x=s:=⟨_,rfl⟩
  rw [hse] at ci oq
  have HB:=ae hb
  have HH:=ae h
  by_cases J1:b<0
  ·clear hb h hs oq
   go_enter Tryz.func160,Tryz.ntmps160
   go_wp2_with fail
   refine (ip _ L H HH.o x true HB.o).mono ?_
   rintro e w1 ⟨rfl,rfl⟩
   go_wp2_with fail
   refine bodyPost_ret (results_none rfl _ _ _) rfl ?_
   exact ⟨rfl,rfl⟩
  ·by_cases Bf:1099511627776<b
   ·clear hb h hs oq
    go_enter Tryz.func160,Tryz.ntmps160
    go_wp2_with fail
    refine (ip _ L H HH.o x true HB.o).mono ?_
    rintro e w1 ⟨rfl,rfl⟩
    go_wp2_with fail
    refine bodyPost_ret (results_none rfl _ _ _) rfl ?_
    exact ⟨rfl,rfl⟩
   ·have jh:1125899906842624-b<s:=by
     rcases Int.lt_or_le (1125899906842624-b) s with h |h
     ·exact h
     ·exact absurd ⟨hb,by omega,by omega,h⟩ oq
    clear hb h hs oq
    go_enter Tryz.func160,Tryz.ntmps160
    go_wp2_with fail
    refine (ip _ L H HH.o x true HB.o).mono ?_
    rintro e w1 ⟨rfl,rfl⟩
    go_wp2_with fail
    refine bodyPost_ret (results_none rfl _ _ _) rfl ?_
    exact ⟨rfl,rfl⟩
theorem ct.adZ {w:World} {L:fD} {H:Hp} (h:ct w L H) {g:Nat} (hg:L.A3=some ⟨g,0,none⟩) (i:Nat) (x:Int):
  ct (w.setCell ⟨g,i,none⟩ (.int .i64 x)) L { H with score:=H.score.set i x }:=by
 obtain ⟨h1,h2,h3⟩:=ig h.nodup
 have hm:g∈ap L.A3:=by simp [hg,ap]
 refine ⟨?_,?_,?_,?_,h.nodup,by simpa using h.same⟩
 ·have :=h.obj.gh (p:=⟨g,i,none⟩) (fun e=>(h3 g hm).1 e.symm) (.int .i64 x)
  simpa using this
 ·exact h.items.gh (fun hk=>(h3 g hm).2.1 hk) _
 ·exact h.at_.gh (fun hk=>(h3 g hm).2.2 hk) _
 ·have :=h.score
  rw [hg] at this⊢
  exact this.eo i x
theorem vR (w:World) (L:fD) (H:Hp) (h:ct w L H) (hr:H.Gf) (x b:Int) (hb:H.iV x=true) (J1:0≤b) (Bf:b≤1099511627776) (jh:H.sc x≤1125899906842624-b) (hs0:0≤H.sc x)
  (xy:H.pl x<H.items.length):
  Calls Tryz.prog 160 #[.pointer (some ⟨L.a,0,none⟩), .int .i64 x, .int .i64 b] w fun e w'=>e= .returned (.tuple #[])∧ct w' L (H.jQ x b)∧Fr L.fp w w':=by
 have o1:=h.obj.cell 1
 have o2:=h.obj.cell 2
 simp at o1 o2
 have hs:=h.same
 obtain ⟨h0,h1⟩:=Hp.dj hb
 obtain ⟨g,hg,ci⟩:=h.aT h0 h1
 obtain ⟨g2,eY,cx,_⟩:=h.xa h0 h1
 have fi:w.frozen? ⟨g,x.toNat,none⟩=false:=by
  have :=h.score
  rw [hg] at this
  exact this.frozen _
 rw [hg] at o2
 rw [eY] at o1
 have dI:g2≠g:=fun e=>((ig h.nodup).2.1 g2 (by simp [eY,ap])).2.2 (by simp [hg,ap,e])
 have hna:L.a≠g:=fun e=>((ig h.nodup).2.2 g (by simp [hg,ap])).1 e.symm
 have h2:x<H.score.length:=by omega
 have hM:=h.adZ hg x.toNat (H.sc x+b)
 have hF:Fr L.fp w (w.setCell ⟨g,x.toNat,none⟩ (.int .i64 (H.sc x+b))):=(Fr.refl L.fp w).setCell (.inl (by simp [fD.fp,hg,ap])) _
 have hD:H.jQ x b=if 0≤H.pl x then Hp.zu (Hp.it { H with score:=H.score.set x.toNat (H.sc x+b) } (H.pl x)) ((H.pl x).toNat+1) { H with score:=H.score.set x.toNat (H.sc x+b) } (H.pl x).toNat else { H with score:=H.score.set x.toNat (H.sc x+b) }:=by
  unfold Hp.jQ
  rw [if_pos ⟨hb,J1,Bf,jh⟩]
 obtain ⟨s,hse⟩:∃s,H.sc x=s:=⟨_,rfl⟩
 obtain ⟨p,hpe⟩:∃p,H.pl x=p:=⟨_,rfl⟩
 rw [hse] at ci jh hs0 hM hF hD
 rw [hpe] at cx xy hD
 have cx2:(w.setCell ⟨g,x.toNat,none⟩ (.int .i64 (s+b))).cell? ⟨g2,x.toNat,none⟩=some (.int .i64 p):=by
  rw [World.cell?_setCell_other _ _ _ _ (by simp only [ne_eq,Addr.mk.injEq,not_and];exact fun e=>absurd e.symm dI)];exact cx
 have o12:(w.setCell ⟨g,x.toNat,none⟩ (.int .i64 (s+b))).cell? ⟨L.a,1,none⟩=some (.slice (some ⟨g2,0,none⟩) H.at_.length L.c2):=by
  rw [World.cell?_setCell_other _ _ _ _ (by simp only [ne_eq,Addr.mk.injEq,not_and];exact fun e=>absurd e.symm hna)];exact o1
 have HB:=ae hb
 have HH:=ae h
 have HM:=ae hM
 have HF:=ae hF
 have HD:=ae hD
 have HR:=ae hr
 have HC:=ae cx2
 have HO:=ae o12
 clear hb h hM hF hD hse hpe hr hs cx o1 cx2 o12 dI hna hg eY
 go_enter Tryz.func160,Tryz.ntmps160
 go_wp2_with fail
 refine (ip _ L H HH.o x true HB.o).mono ?_
 rintro e w1 ⟨rfl,rfl⟩
 obtain ⟨V,hV⟩:∃V,V=w.setCell ⟨g,x.toNat,none⟩ (.int .i64 (s+b)):=⟨_,rfl⟩
 have cx2:=HC.o
 have o12:=HO.o
 have CW: -1099511627776≤b:=by omega
 by_cases Nv:0≤p
 ·have TN:(p.toNat:Int)=p:=by omega
  go_wp2_with fail
  have e3:(Value.int .i64 p)= .int .i64 (p.toNat:Int):=by rw [TN]
  rw [e3]
  refine (Hw _ L _ HM.o (fun j hj=>HR.o j hj) p.toNat (by show p.toNat<H.items.length;omega)).mono ?_
  rintro e w2 ⟨rfl,hp,cU⟩
  have HP:=ae hp
  have dy:=ae cU
  clear hp cU TN e3
  go_wp2_with fail
  go_end0
  refine ⟨rfl,?_,HF.o.aj dy.o⟩
  rw [HD.o,if_pos Nv]
  have :=HP.o
  rw [show ((p.toNat:Int))=p from by omega] at this
  exact this
 ·go_wp2_with fail
  go_end0
  refine ⟨rfl,?_,HF.o⟩
  rw [HD.o,if_neg (by omega)]
  exact HM.o
def kH (nE n:Int):Int:=nE+min (max n 0) (262144-nE)
theorem JU (w:World) (nE n:Int) (h0:0≤nE) (h1:nE≤262144):
  Calls Tryz.prog 100 #[.int .i64 nE, .int .i64 n] w fun e w'=>e= .returned (.int .i64 (kH nE n))∧w=w':=by
 by_cases TR:n<0
 ·go_enter Tryz.func100,Tryz.ntmps100
  go_wp2
  go_ret
  exact ⟨zV (by unfold kH;omega),rfl⟩
 ·by_cases hb:262144-nE<n
  ·go_enter Tryz.func100,Tryz.ntmps100
   go_wp2
   go_ret
   exact ⟨zV (by unfold kH;omega),rfl⟩
  ·go_enter Tryz.func100,Tryz.ntmps100
   go_wp2
   go_ret
   exact ⟨zV (by unfold kH;omega),rfl⟩
end Go.Proofs.YtdgplmgfkliijaaGreat
namespace Go.Proofs.YtdgplmgfkliijaaGreat
open Go
section
variable {P:Program} {ops:Array Oper} {Q:Exit→Act→World→Prop} {md:Region.Mode} {S:World→Prop} {k:Nat}
def jD (S:World→Prop) (k:Nat) (aE:Array Bool) (w:World):Prop:=aE.getD k false=true∨S w
def du (P:Program) (md:Region.Mode) (ops:Array Oper) (Q:Exit→Act→World→Prop) (S:World→Prop) (k:Nat):Nat→Array Bool→Act→World→Prop
 |0,aE,a,w=>Region.ready md ops aE=[]∧Q .normal a w
 |fuel+1,aE,a,w=>
  (Region.ready md ops aE=[]→Q .normal a w)∧
  ∀i∈Region.ready md ops aE,wpOp P ops Q i (fun a' w'=>jD S k (aE.setIfInBounds i true) w'∧du P md ops Q S k fuel (aE.setIfInBounds i true) a' w') a w
theorem uU:∀(fuel:Nat) (aE:Array Bool) (a:Act) (w:World),du P md ops Q S k fuel aE a w→wpAny P md ops Q fuel aE a w
 |0,_,_,_,h=>h
 |fuel+1,_,_,_,h=>⟨h.1,fun i hi=>wpOp_mono (fun a' w' h'=>uU fuel _ a' w' h'.2) (h.2 i hi)⟩
def rP (md:Region.Mode) (ops:Array Oper) (C:List Nat) (i:Nat) (aE:Array Bool):Prop:=
 ∀x,x∈C→aE.getD x true=false∧(x=i∨∃y,y∈C∧∃ox e,ops[x]? =some ox∧e∈ox.after∧Region.binds md e=true∧e.on=y)
def chainB (md:Region.Mode) (ops:Array Oper) (C:List Nat) (i k:Nat) (aE:Array Bool):Bool:=
 C.contains k&&C.all fun x=> !aE.getD x true&&(x==i ||C.any fun y=>match ops[x]? with |some ox=>ox.after.any (fun e=>Region.binds md e&&e.on==y) |none=>false)
theorem Dl {C:List Nat} {i:Nat} {aE:Array Bool} (h:chainB md ops C i k aE=true):k∈C∧rP md ops C i aE:=by
 unfold chainB at h
 rw [aD] at h
 refine ⟨by simpa using h.1,fun x hx=> ?_⟩
 have :=kO.1 h.2 x hx
 rw [aD] at this
 refine ⟨by simpa using this.1,?_⟩
 rcases Bool.or_eq_true_iff.1 this.2 with h1 |h1
 ·exact .inl (by simpa using h1)
 ·right
  obtain ⟨y,hy,h2⟩:=bI.1 h1
  cases Ho:ops[x]? with
  |none=>rw [Ho] at h2;cases h2
  |some ox=>
   rw [Ho] at h2
   obtain ⟨e,he,hb⟩:=Array.any_eq_true'.1 h2
   simp only [aD,beq_iff_eq] at hb
   exact ⟨y,hy,ox,e,rfl,he,hb.1,hb.2⟩
theorem rP.IV {C:List Nat} {i j:Nat} {aE:Array Bool} (h:rP md ops C i aE) (hj:j∈C) (qy:j≠i):j∉Region.ready md ops aE:=by
 intro hr
 obtain ⟨_,hw⟩:=h j hj
 obtain ⟨_,oj,Rq,gV⟩:=mem_ready.1 hr
 rcases hw with hw |⟨y,hy,ox,e,Ho,he,hb,hon⟩
 ·exact qy hw
 ·rw [Rq] at Ho
  cases Ho
  have h1:=gV e he hb
  have h2:=(h y hy).1
  rw [hon] at h1
  rcases bK y aE.size with hl |hl
  ·simp [hl] at h1 h2;rw [h2] at h1;cases h1
  ·simp [Array.getElem?_eq_none hl] at h2
theorem rP.step {C:List Nat} {i j:Nat} {aE:Array Bool} (h:rP md ops C i aE) (hj:j∉C):rP md ops C i (aE.setIfInBounds j true):=by
 intro x hx
 obtain ⟨h1,h2⟩:=h x hx
 refine ⟨?_,h2⟩
 have dI:j≠x:=by rintro rfl;exact hj hx
 rw [getD_set_ne true dI]
 exact h1
theorem rP.Tv {C:List Nat} {i:Nat} {aE:Array Bool} (h:rP md ops C i aE) (hk:k∈C):aE.getD k false=false:=by
 have :=(h k hk).1
 rcases bK k aE.size with hl |hl
 ·simp [hl] at this⊢;exact this
 ·simp [Array.getElem?_eq_none hl] at this
theorem zr {i:Nat} {oi:Oper} {v:Value} {C:List Nat} (hi:ops[i]? =some oi) (Nn:∀(j:Nat) (o:Oper) cs b,ops[j]? =some o→o.op≠ .select cs b)
  (LM:k≠i) (hkC:k∈C) (hQ:∀c a w,Q (.panic c) (a.put oi.dst v) w→Q (.panic c) a w):
  ∀(fuel:Nat) (aE:Array Bool) (a:Act) (w:World),
   (∀j oj,ops[j]? =some oj→j≠i→aE.getD j true=false→(∀e∈oj.after,Region.binds md e=true→e.on≠i)→oi.apart ops oj=true)→
   rP md ops C i aE→i∈Region.ready md ops aE→YieldsIf P ops S oi v a→S w→
   du P md ops Q S k fuel (aE.setIfInBounds i true) (a.put oi.dst v) w→du P md ops Q S k (fuel+1) aE a w:=by
 intro fuel
 induction fuel with
 |zero=>
  intro aE a w _ _ hr hy hS H
  refine ⟨fun h=>(by rw [h] at hr;cases hr),fun j hj=> ?_⟩
  by_cases qy:j=i
  ·subst qy;exact hy.wpOp hi hS ⟨.inr hS,H⟩
  ·have :=ready_mono hj qy
   rw [H.1] at this
   cases this
 |succ fuel ih=>
  intro aE a w CM Ob hr hy hS H
  refine ⟨fun h=>(by rw [h] at hr;cases hr),fun j hj=> ?_⟩
  by_cases qy:j=i
  ·subst qy;exact hy.wpOp hi hS ⟨.inr hS,H⟩
  ·have h1:=H.2 j (ready_mono hj qy)
   have hjC:j∉C:=fun hC=>Ob.IV hC qy hj
   obtain ⟨NN,oj,Rq,gV⟩:=mem_ready.1 hj
   have VB:∀e∈oj.after,Region.binds md e=true→e.on≠i:=fun e he hb heq=>by
    have h1:=gV e he hb
    have h0:=(mem_ready.1 hr).1
    rw [heq] at h1
    rcases bK i aE.size with h' |h'
    ·simp [h'] at h0 h1;rw [h0] at h1;cases h1
    ·simp [Array.getElem?_eq_none h'] at h1
   have h2:=wpOp_putIf Rq (CM j oj Rq qy NN VB) (fun cs b=>Nn i oi cs b hi) (fun cs b=>Nn j oj cs b Rq) hQ hy h1
   have Fp:∀x ox,ops[x]? =some ox→x≠i→(aE.setIfInBounds j true).getD x true=false→
     (∀e∈ox.after,Region.binds md e=true→e.on≠i)→oi.apart ops ox=true:=fun x ox hx XK ZI oq=>by
    refine CM x ox hx XK ?_ oq
    by_cases XU:j=x
    ·subst XU;exact NN
    ·rw [getD_set_ne true XU] at ZI;exact ZI
   have aaZ:=Ob.step hjC
   refine wpOp_mono (fun a' w' h3=> ?_) h2
   have uJ:S w':=by
    rcases h3.2.1 with h4 |h4
    ·have h5:=aaZ.Tv hkC
     rw [Array.setIfInBounds_comm _ _ (Ne.symm qy),getD_set_ne false (Ne.symm LM),h5] at h4
     cases h4
    ·exact h4
   refine ⟨.inr uJ,ih (aE.setIfInBounds j true) a' w' Fp aaZ (ready_mono hr (Ne.symm qy)) h3.1 uJ ?_⟩
   rw [Array.setIfInBounds_comm _ _ qy]
   exact h3.2.2
theorem sQ {i:Nat} {oi:Oper} {v:Value} {fuel:Nat} {aE:Array Bool} {a:Act} {w:World} (C:List Nat) (hi:ops[i]? =some oi)
  (hs:Region.noSelect ops=true) (hf:Region.free md ops aE i=true) (hr:(Region.ready md ops aE).contains i=true) (hc:(chainB md ops C i k aE&&k !=i)=true)
  (hQ:∀c a w,Q (.panic c) (a.put oi.dst v) w→Q (.panic c) a w) (hy:YieldsIf P ops S oi v a) (hS:S w)
  (h:du P md ops Q S k fuel (aE.setIfInBounds i true) (a.put oi.dst v) w):du P md ops Q S k (fuel+1) aE a w:=by
 rw [aD] at hc
 obtain ⟨hkC,Ob⟩:=Dl hc.1
 exact zr hi (Region.noSelect_spec hs) (by simpa using hc.2) hkC hQ fuel aE a w (Region.free_spec hi hf) Ob (by simpa using hr) hy hS h
theorem jD.more {aE:Array Bool} {w:World} (i:Nat) (h:jD S k aE w):jD S k (aE.setIfInBounds i true) w:=
 h.imp (fun h=>getD_set_true h) id
theorem jD.less {aE:Array Bool} {w:World} {i j:Nat} (LM:k≠i) (h:jD S k ((aE.setIfInBounds i true).setIfInBounds j true) w) (qy:j≠i):jD S k (aE.setIfInBounds j true) w:=by
 rcases h with h |h
 ·rw [Array.setIfInBounds_comm _ _ (Ne.symm qy),getD_set_ne false (Ne.symm LM)] at h
  exact .inl h
 ·exact .inr h
theorem xJ {i:Nat} {oi:Oper} {v:Value} (hi:ops[i]? =some oi) (Nn:∀(j:Nat) (o:Oper) cs b,ops[j]? =some o→o.op≠ .select cs b)
  (LM:k≠i) (hQ:∀c a w,Q (.panic c) (a.put oi.dst v) w→Q (.panic c) a w):
  ∀(fuel:Nat) (aE:Array Bool) (a:Act) (w:World),
   (∀j oj,ops[j]? =some oj→j≠i→aE.getD j true=false→(∀e∈oj.after,Region.binds md e=true→e.on≠i)→oi.apart ops oj=true)→
   i∈Region.ready md ops aE→YieldsIf P ops (fun _=>True) oi v a→jD S k aE w→
   du P md ops Q S k fuel (aE.setIfInBounds i true) (a.put oi.dst v) w→du P md ops Q S k (fuel+1) aE a w:=by
 intro fuel
 induction fuel with
 |zero=>
  intro aE a w _ hr hy hS H
  refine ⟨fun h=>(by rw [h] at hr;cases hr),fun j hj=> ?_⟩
  by_cases qy:j=i
  ·subst qy;exact hy.wpOp hi trivial ⟨hS.more j,H⟩
  ·have :=ready_mono hj qy
   rw [H.1] at this
   cases this
 |succ fuel ih=>
  intro aE a w CM hr hy hS H
  refine ⟨fun h=>(by rw [h] at hr;cases hr),fun j hj=> ?_⟩
  by_cases qy:j=i
  ·subst qy;exact hy.wpOp hi trivial ⟨hS.more j,H⟩
  ·have h1:=H.2 j (ready_mono hj qy)
   obtain ⟨NN,oj,Rq,gV⟩:=mem_ready.1 hj
   have VB:∀e∈oj.after,Region.binds md e=true→e.on≠i:=fun e he hb heq=>by
    have h1:=gV e he hb
    have h0:=(mem_ready.1 hr).1
    rw [heq] at h1
    rcases bK i aE.size with h' |h'
    ·simp [h'] at h0 h1;rw [h0] at h1;cases h1
    ·simp [Array.getElem?_eq_none h'] at h1
   have h2:=wpOp_putIf Rq (CM j oj Rq qy NN VB) (fun cs b=>Nn i oi cs b hi) (fun cs b=>Nn j oj cs b Rq) hQ hy h1
   have Fp:∀x ox,ops[x]? =some ox→x≠i→(aE.setIfInBounds j true).getD x true=false→
     (∀e∈ox.after,Region.binds md e=true→e.on≠i)→oi.apart ops ox=true:=fun x ox hx XK ZI oq=>by
    refine CM x ox hx XK ?_ oq
    by_cases XU:j=x
    ·subst XU;exact NN
    ·rw [getD_set_ne true XU] at ZI;exact ZI
   refine wpOp_mono (fun a' w' h3=> ?_) h2
   have hT:=h3.2.1.less LM qy
   refine ⟨hT,ih (aE.setIfInBounds j true) a' w' Fp (ready_mono hr (Ne.symm qy)) h3.1 hT ?_⟩
   rw [Array.setIfInBounds_comm _ _ qy]
   exact h3.2.2
theorem gu {i:Nat} {oi:Oper} {v:Value} {fuel:Nat} {aE:Array Bool} {a:Act} {w:World} (hi:ops[i]? =some oi)
  (hs:Region.noSelect ops=true) (hf:Region.free md ops aE i=true) (hr:(Region.ready md ops aE).contains i=true) (hc:(k !=i)=true)
  (hQ:∀c a w,Q (.panic c) (a.put oi.dst v) w→Q (.panic c) a w) (hw:Region.wanted oi (yielded ops a.tmps)=true) (hy:∀w,(execOp a.eval oi).run P w= .ok (.value v) w) (hS:jD S k aE w)
  (h:du P md ops Q S k fuel (aE.setIfInBounds i true) (a.put oi.dst v) w):du P md ops Q S k (fuel+1) aE a w:=
 xJ hi (Region.noSelect_spec hs) (by simpa using hc) hQ fuel aE a w (Region.free_spec hi hf) (by simpa using hr) (.inl ⟨hw,fun w _=>hy w⟩) hS h
def bY (P:Program) (md:Region.Mode) (ops:Array Oper) (Q:Exit→Act→World→Prop) (S:World→Prop) (k fuel:Nat) (aE:Array Bool) (a:Act) (w:World) (rs:List Nat):Prop:=
 ∀i∈rs,wpOp P ops Q i (fun a' w'=>jD S k (aE.setIfInBounds i true) w'∧du P md ops Q S k fuel (aE.setIfInBounds i true) a' w') a w
theorem aU {rs:List Nat} {fuel:Nat} {aE:Array Bool} {a:Act} {w:World} (hr:Region.ready md ops aE=rs) (dI:rs≠[])
  (h:bY P md ops Q S k fuel aE a w rs):du P md ops Q S k (fuel+1) aE a w:=
 ⟨fun h0=>absurd (hr▸h0) dI,hr▸h⟩
theorem bY.nil {fuel:Nat} {aE:Array Bool} {a:Act} {w:World}:bY P md ops Q S k fuel aE a w []:=fun _ h=>by cases h
theorem bY.cons {fuel:Nat} {aE:Array Bool} {a:Act} {w:World} {i:Nat} {o:Oper} {rs:List Nat} (ho:ops[i]? =some o)
  (h:∀K':Act→World→Prop,Shut (∀a w,jD S k (aE.setIfInBounds i true) w→(jD S k (aE.setIfInBounds i true) w→du P md ops Q S k fuel (aE.setIfInBounds i true) a w)→K' a w)→
   if Region.wanted o (yielded ops a.tmps)=true then Oper.wp P o a w K' Q else K' (a.put o.dst undef) w)
  (hs:bY P md ops Q S k fuel aE a w rs):bY P md ops Q S k fuel aE a w (i::rs):=by
 intro j hj
 rcases av.1 hj with rfl |hj
 ·unfold wpOp
  simp only [ho]
  have :=h (fun a' w'=>jD S k (aE.setIfInBounds j true) w'∧du P md ops Q S k fuel (aE.setIfInBounds j true) a' w') (fun a w h1 h2=>⟨h1,h2 h1⟩)
  split
  ·rename_i hw;rw [if_pos hw] at this;exact .inl this
  ·rename_i hw;rw [if_neg hw] at this;exact this
 ·exact hs j hj
theorem kZ {aE:Array Bool} {a:Act} {w:World} (hr:Region.ready md ops aE=[]) (h:Q .normal a w):
  ∀fuel,du P md ops Q S k fuel aE a w
 |0=>⟨hr,h⟩
 |_+1=>⟨fun _=>h,by rw [hr];simp⟩
theorem bp {id:Nat} {a:Act} {w:World} (S:World→Prop) (k:Nat) (hm:P.follows .mixedOrders=true) (hS:S w.drew)
  (h:jD S k (Array.replicate ops.size false) w.drew→du P .any ops Q S k ops.size (Array.replicate ops.size false) a w.drew):(Code.region id ops true).wp P Q a w:=
 wp_region_any hm (uU _ _ _ _ (h (.inr hS)))
end
theorem q2 {α:Type} {a:α} {l:List α} {n:Nat}:(a::l)[n+1]? =l[n]? :=rfl
theorem q3 {α:Type} {a:α} {l:List α}:(a::l)[0]? =some a:=rfl
theorem q5 {α:Type} {l:List α} {n:Nat} {a:α}:l.toArray.setIfInBounds n a=(l.set n a).toArray:=List.setIfInBounds_toArray _ _ _
theorem q6 {α:Type} {a b:α} {l:List α}:(a::l).set 0 b=b::l:=rfl
theorem q7 {α:Type} {a b:α} {l:List α} {n:Nat}:(a::l).set (n+1) b=a::l.set n b:=rfl
variable {P:Program} {ops:Array Oper} {Q:Exit→Act→World→Prop} {md:Region.Mode} {S:World→Prop} {k:Nat}
theorem T0 {i:Nat} {oi:Oper} {v:Value} {fuel:Nat} {aE:Array Bool} {a:Act} {w:World} (hi:ops[i]? =some oi)
  (hb:(Region.noSelect ops&&Region.free md ops aE i&&(Region.ready md ops aE).contains i&&k !=i)=true) (hw:Region.wanted oi (yielded ops a.tmps)=true) (hy:∀w,(execOp a.eval oi).run P w= .ok (.value v) w) (hS:jD S k aE w)
  (h:du P md ops (NoPanic Q) S k fuel (aE.setIfInBounds i true) (a.put oi.dst v) w):du P md ops (NoPanic Q) S k (fuel+1) aE a w:=by
 simp only [aD] at hb
 exact gu hi hb.1.1.1 hb.1.1.2 hb.1.2 hb.2 (fun _ _ _ h=>h) hw hy hS h
theorem T1 {i:Nat} {oi:Oper} {v:Value} {fuel:Nat} {aE:Array Bool} {a:Act} {w:World} (C:List Nat) (hi:ops[i]? =some oi)
  (hb:(Region.noSelect ops&&Region.free md ops aE i&&(Region.ready md ops aE).contains i&&(chainB md ops C i k aE&&k !=i))=true) (hw:Region.wanted oi (yielded ops a.tmps)=true) (hy:∀w,S w→(execOp a.eval oi).run P w= .ok (.value v) w) (hS:S w)
  (h:du P md ops (NoPanic Q) S k fuel (aE.setIfInBounds i true) (a.put oi.dst v) w):du P md ops (NoPanic Q) S k (fuel+1) aE a w:=by
 simp only [aD] at hb
 exact sQ C hi hb.1.1.1 hb.1.1.2 hb.1.2 (by simp only [aD];exact hb.2) (fun _ _ _ h=>h) (.inl ⟨hw,hy⟩) hS h
theorem R1 {i:Nat} {o:Oper} {fuel:Nat} {aE:Array Bool} {a:Act} {w:World} (hr:Region.ready md ops aE=[i]) (ho:ops[i]? =some o)
  (h:∀K':Act→World→Prop,Shut (∀a w,jD S k (aE.setIfInBounds i true) w→(jD S k (aE.setIfInBounds i true) w→du P md ops Q S k fuel (aE.setIfInBounds i true) a w)→K' a w)→
   if Region.wanted o (yielded ops a.tmps)=true then Oper.wp P o a w K' Q else K' (a.put o.dst undef) w):du P md ops Q S k (fuel+1) aE a w:=
 aU hr (by simp) (bY.cons ho h bY.nil)
theorem R2 (i:Nat) {o:Oper} {fuel:Nat} {aE:Array Bool} {a:Act} {w:World} (hT:jD S k aE w)
  (h:∀K':Act→World→Prop,Shut (∀a w,jD S k (aE.setIfInBounds i true) w→(jD S k (aE.setIfInBounds i true) w→du P md ops Q S k fuel (aE.setIfInBounds i true) a w)→K' a w)→S w→
   if Region.wanted o (yielded ops a.tmps)=true then Oper.wp P o a w K' Q else K' (a.put o.dst undef) w) (hb:(Region.ready md ops aE==[i]&& !aE.getD k false)=true:=by kernel_rfl) (ho:ops[i]? =some o:=by rfl):du P md ops Q S k (fuel+1) aE a w:=by
 rw [aD] at hb
 have hS:S w:=hT.resolve_left (by simpa using hb.2)
 exact R1 (by simpa using hb.1) ho (fun K' hK=>h K' hK hS)
def Sq (P:Program) (ops:Array Oper) (S:World→Prop):List (Nat×List Nat)→Act→Act→Prop
 |[],a,a'=>a=a'
 | (i,C)::r,a,a'=>∃o v,ops[i]? =some o∧Region.wanted o (yielded ops a.tmps)=true∧(∀w,(C=[]∨S w)→(execOp a.eval o).run P w= .ok (.value v) w)∧Sq P ops S r (a.put o.dst v) a'
def wW (md:Region.Mode) (ops:Array Oper) (k:Nat):List (Nat×List Nat)→Array Bool→Bool
 |[],_=>true
 | (i,C)::r,l=>Region.noSelect ops&&Region.free md ops l i&&(Region.ready md ops l).contains i&&k !=i&&(C.isEmpty ||chainB md ops C i k l)&&wW md ops k r (l.setIfInBounds i true)
def U1:List (Nat×List Nat)→Array Bool→Array Bool
 |[],l=>l
 | (i,_)::r,l=>U1 r (l.setIfInBounds i true)
theorem Sr {a:Act}:Sq P ops S [] a a:=rfl
theorem Ss {i:Nat} {C:List Nat} {r:List (Nat×List Nat)} {a a':Act} {o:Oper} {v:Value} (ho:ops[i]? =some o) (hw:Region.wanted o (yielded ops a.tmps)=true) (hy:∀w,(C=[]∨S w)→(execOp a.eval o).run P w= .ok (.value v) w) (h:Sq P ops S r (a.put o.dst v) a'):Sq P ops S ((i,C)::r) a a':=⟨o,v,ho,hw,hy,h⟩
theorem TB_ {fuel:Nat}:∀{is:List (Nat×List Nat)} {aE:Array Bool} {a a':Act} {w:World},wW md ops k is aE=true→Sq P ops S is a a'→jD S k aE w→
  (jD S k (U1 is aE) w→du P md ops (NoPanic Q) S k fuel (U1 is aE) a' w)→du P md ops (NoPanic Q) S k (fuel+is.length) aE a w
 |[],aE,a,a',w,_,hr,hS,h=>by
  have :a=a':=hr
  subst this
  exact h hS
 | (i,C)::r,aE,a,a',w,hb,hr,hS,h=>by
  obtain ⟨o,v,ho,hw,hy,jU⟩:=hr
  simp only [wW,aD] at hb
  obtain ⟨⟨⟨⟨⟨h1,h2⟩,h3⟩,h4⟩,h5⟩,h6⟩:=hb
  have hm:=TB_ h6 jU (hS.more i) h
  cases C with
  |nil=>exact gu ho h1 h2 h3 h4 (fun _ _ _ h=>h) hw (fun w=>hy w (.inl rfl)) hS hm
  |cons c C=>
   have h5:chainB md ops (c::C) i k aE=true:=by simpa using h5
   have hc:=Dl h5
   have cm:S w:=by
    rcases hS with h7 |h7
    ·rw [hc.2.Tv hc.1] at h7
     cases h7
    ·exact h7
   exact sQ (c::C) ho h1 h2 h3 (by rw [h5,h4];rfl) (fun _ _ _ h=>h) (.inl ⟨hw,fun w hs=>hy w (.inr hs)⟩) cm hm
theorem TBm {M:World→Prop} (f:∀w,S w→M w):∀{is:List (Nat×List Nat)} {a a':Act},Sq P ops M is a a'→Sq P ops S is a a'
 |[],_,_,h=>h
 | (_,_)::_,_,_,⟨o,v,ho,hw,hy,h⟩=>⟨o,v,ho,hw,fun w h1=>hy w (h1.imp id (f w)),TBm f h⟩
theorem TB {fuel:Nat} (n:Nat) (is:List (Nat×List Nat)) {aE:Array Bool} {a a':Act} {w:World} (hS:jD S k aE w)
  (h:jD S k (U1 is aE) w→du P md ops (NoPanic Q) S k fuel (U1 is aE) a' w) (hb:wW md ops k is aE=true:=by kernel_rfl) (hn:is.length=n:=by rfl) (hr:Sq P ops S is a a':=by ((repeat (apply Ss;rfl;rfl;(intro w cm;(try have cm:=cm.resolve_left (List.cons_ne_nil _ _));go_simp<;>with_reducible rfl);try simp only [Act.put,q5,q6,q7]));exact Sr)):du P md ops (NoPanic Q) S k (fuel+n) aE a w:=by
 subst hn
 exact TB_ hb hr hS h
theorem pf {fuel:Nat} {M:World→Prop} (n:Nat) (is:List (Nat×List Nat)) {aE:Array Bool} {a a':Act} {w:World} (hS:jD S k aE w) (f:∀w,S w→M w)
  (h:jD S k (U1 is aE) w→du P md ops (NoPanic Q) S k fuel (U1 is aE) a' w) (hb:wW md ops k is aE=true:=by kernel_rfl) (hn:is.length=n:=by rfl) (hr:Sq P ops M is a a':=by ((repeat (apply Ss;rfl;rfl;(intro w cm;(try have cm:=cm.resolve_left (List.cons_ne_nil _ _));go_simp<;>with_reducible rfl);try simp only [Act.put,q5,q6,q7]));exact Sr)):du P md ops (NoPanic Q) S k (fuel+n) aE a w:=
 TB n is hS h hb hn (TBm f hr)
theorem fo {P:Program} {md:Region.Mode} {ops:Array Oper} {Q:Exit→Act→World→Prop} {S:World→Prop} {k fuel:Nat} {aE:Array Bool} {a:Act} {w:World} (h:Q .normal a w) (hr:Region.ready md ops aE=[]:=by kernel_rfl):du P md ops (NoPanic Q) S k fuel aE a w:=kZ hr (NoPanic.normal h) _
end Go.Proofs.YtdgplmgfkliijaaGreat
namespace Go.Proofs.YtdgplmgfkliijaaGreat
open Go.RowKit
theorem ct.z7 {w wA wB:World} {L:fD} {H:Hp} (h:ct w L H) {gA cA gB cB:Nat} {xs ys:List Int} (hl:xs.length=ys.length)
  (hA:Ints wA (some ⟨gA,0,none⟩) cA xs) (fA:Fr (ap L.A2) w wA) (qA:gA∈ap L.A2∨w.heap.size≤gA)
  (hB:Ints wB (some ⟨gB,0,none⟩) cB ys) (fB:Fr (ap L.A3) wA wB) (qB:gB∈ap L.A3∨wA.heap.size≤gB):
  ct ((wB.setCell ⟨L.a,1,none⟩ (.slice (some ⟨gA,0,none⟩) xs.length cA)).setCell ⟨L.a,2,none⟩ (.slice (some ⟨gB,0,none⟩) ys.length cB))
   { L with A2:=some ⟨gA,0,none⟩,c2:=cA,A3:=some ⟨gB,0,none⟩,c3:=cB } { H with at_:=xs,score:=ys }∧
  Fr L.fp w ((wB.setCell ⟨L.a,1,none⟩ (.slice (some ⟨gA,0,none⟩) xs.length cA)).setCell ⟨L.a,2,none⟩ (.slice (some ⟨gB,0,none⟩) ys.length cB))∧
  L.ext { L with A2:=some ⟨gA,0,none⟩,c2:=cA,A3:=some ⟨gB,0,none⟩,c3:=cB } w:=by
 obtain ⟨h1,h2,h3⟩:=ig h.nodup
 have lA:gA<wA.heap.size:=hA.lt gA (by simp [ap])
 have hs:=fA.size
 have nA:gA≠L.a∧gA∉ap L.A1∧gA∉ap L.A3:=by
  rcases qA with q |q
  ·exact h2 gA q
  ·refine ⟨?_,fun k=> ?_,fun k=> ?_⟩
   ·have :=h.obj.lt;omega
   ·have :=h.items.lt _ k;omega
   ·have :=h.score.lt _ k;omega
 have nB:gB≠L.a∧gB∉ap L.A1∧gB≠gA:=by
  rcases qB with q |q
  ·exact ⟨(h3 gB q).1,(h3 gB q).2.1,fun e=>nA.2.2 (e▸q)⟩
  ·refine ⟨?_,fun k=> ?_,?_⟩
   ·have :=h.obj.lt;omega
   ·have :=h.items.lt _ k;omega
   ·omega
 have bA:ap (some ⟨gA,0,none⟩)=[gA]:=rfl
 have bB:ap (some ⟨gB,0,none⟩)=[gB]:=rfl
 have oB:=fB.at_ (fA.at_ h.obj (fun k=>(h2 _ k).1 rfl)) (fun k=>(h3 _ k).1 rfl)
 have iB:=(h.items.fr fA (fun k hk pI=>(h1 k hk).2.1 pI)).fr fB (fun k hk pI=>(h1 k hk).2.2 pI)
 have aB:=hA.fr fB (fun k hk pI=>nA.2.2 (by rw [bA,ah] at hk;exact hk▸pI))
 refine ⟨⟨?_,?_,?_,?_,?_,hl⟩,?_,rfl,?_,fun _=>rfl⟩
 ·have :=(oB.eo 1 (.slice (some ⟨gA,0,none⟩) xs.length cA)).eo 2 (.slice (some ⟨gB,0,none⟩) ys.length cB)
  simpa using this
 ·exact (iB.gh (fun k=>(h1 _ k).1 rfl) _).gh (fun k=>(h1 _ k).1 rfl) _
 ·exact (aB.gh (by rw [bA];simpa using fun e=>nA.1 e.symm) _).gh (by rw [bA];simpa using fun e=>nA.1 e.symm) _
 ·exact (hB.gh (by rw [bB];simpa using fun e=>nB.1 e.symm) _).gh (by rw [bB];simpa using fun e=>nB.1 e.symm) _
 ·have hn:=h.nodup
  simp only [fD.fp,eB,ag,List.nodup_append,bA,bB,ah,cK,not_false_eq_true,List.nodup_nil,true_and] at hn⊢
  obtain ⟨n1,n2,n3,n4⟩:=hn
  refine ⟨?_,n2,?_,?_⟩
  ·rintro (hk |rfl |rfl)
   ·exact n1 (.inl hk)
   ·exact nA.1 rfl
   ·exact nB.1 rfl
  ·rintro _ rfl _ rfl e
   exact nB.2.2 e.symm
  ·rintro k hk _ (rfl |rfl) rfl
   ·exact nA.2.1 hk
   ·exact nB.2.1 hk
 ·exact ((((fA.mono (T:=L.fp) fun k hk=> .inl (by simp [fD.fp,hk])).trans fB fun k hk=> .inl (by simp [fD.fp,hk]))).setCell (.inl (by simp [fD.fp])) _).setCell (.inl (by simp [fD.fp])) _
 ·intro k hk
  simp only [fD.fp,bA,bB,av,ag,cK,or_false] at hk⊢
  rcases hk with hk |hk |hk |hk
  ·exact .inl (.inl hk)
  ·exact .inl (.inr (.inl hk))
  ·subst hk
   exact qA.elim (fun q=> .inl (.inr (.inr (.inl q)))) .inr
  ·subst hk
   exact qB.elim (fun q=> .inl (.inr (.inr (.inr q)))) (fun q=> .inr (by omega))
def Hp.growBy (H:Hp) (m:Nat):Hp:={ H with at_:=H.at_++List.replicate m (-1),score:=H.score++List.replicate m 0 }
def Hp.dS (H:Hp) (n:Int):Hp:=H.growBy (kH H.at_.length n-H.at_.length).toNat
theorem fD.aX {L M N:fD} {w w':World} {S:List Nat} (h:L.ext M w) (k:M.ext N w') (hf:Fr S w w'):L.ext N w:=
 ⟨k.1.trans h.1,fun x hx=>(k.2.1 x hx).elim (fun hm=>h.2.1 x hm) (fun hm=> .inr (aF hf.size hm)),fun m=>k.2.2 (h.2.2 m)⟩
theorem iO {H:Hp} {j:Nat}:((H.growBy j).at_++[-1]=(H.growBy (j+1)).at_)∧((H.growBy j).score++[0]=(H.growBy (j+1)).score):=by
 constructor<;>simp [Hp.growBy,List.replicate_succ']
theorem zc (w:World) (L:fD) (H:Hp) (h:ct w L H) (io:L.A2.isSome=true) (n:Int) (hm:H.at_.length≤262144):
  Calls Tryz.prog 76 #[.pointer (some ⟨L.a,0,none⟩), .int .i64 n] w fun e w'=>e= .returned (.tuple #[])∧∃L',ct w' L' (H.dS n)∧L.ext L' w∧Fr L.fp w w':=by
 have o1:=h.obj.cell 1
 simp at o1
 obtain ⟨g2,eY⟩:∃a,L.A2=some a:=Option.isSome_iff_exists.1 io
 rw [eY] at o1
 have he:∀w:World,(binOp .eql 22 (.slice (some g2) H.at_.length L.c2) (.slice none 0 0)).run Tryz.prog w= .ok (.bool false) w:=fun w=>Lib.run_eql_slice_nil w _ _ _ _ _ _ _ Tryz.underlying22
 obtain ⟨m,Ru⟩:∃m:Nat,kH H.at_.length n=(H.at_.length+m:Nat):=⟨(kH H.at_.length n-H.at_.length).toNat,by unfold kH;omega⟩
 have pF:H.at_.length+m≤262144:=by have :=Ru;unfold kH at this;omega
 have hgf:H.dS n=H.growBy m:=by unfold Hp.dS;rw [Ru];congr 1;omega
 rw [hgf]
 have HM:=ae Ru
 have HH:=ae h
 have HS:=ae h.same
 have XS:((H.at_.length+m:Nat):Int)≤262144:=by omega
 clear Ru h eY hgf
 go_enter Tryz.func76,Tryz.ntmps76
 go_wp2_with fail
 refine (JU _ _ n (by omega) (by omega)).mono ?_
 rintro e w1 ⟨rfl,rfl⟩
 rw [HM.o]
 clear o1 he
 go_wp2_with fail
 go_loopg [] m (fun gk wr=>∃(j:Nat) (M:fD),j+gk=m∧ct wr M (H.growBy j)∧L.ext M w∧Fr L.fp w wr)
 case atStart=>exact ⟨0,L,cS _,by simpa [Hp.growBy] using HH.o,⟨rfl,fun k hk=> .inl hk,id⟩,Fr.refl _ _⟩
 case round=>
  obtain ⟨j,M,hj,hK,hE,qe⟩:=hrel
  have ha:M.a=L.a:=hE.1
  have c1:=hK.obj.cell 1
  have c2:=hK.obj.cell 2
  have l1:(H.growBy j).at_.length=H.at_.length+j:=by simp [Hp.growBy]
  have l2:(H.growBy j).score.length=H.at_.length+j:=by rw [←hK.same,l1]
  rw [ha] at c1 c2
  simp [l1] at c1
  simp [l2] at c2
  have HK:=ae hK
  have HE:=ae hE
  have HA:=ae ha
  have lR:=ae l1
  have j5:=ae l2
  have HJ:=ae hj
  clear hK hE ha l1 l2
  by_cases hjm:j<m
  ·have t1:((H.at_.length+j:Nat):Int)<((H.at_.length+m:Nat):Int):=by omega
   have t2:(H.at_.length:Int)+j<(H.at_.length:Int)+m:=by omega
   have ho:At wr L.a 115 #[.slice M.A1 (H.growBy j).items.length M.c1, .slice M.A2 (H.at_.length+j) M.c2, .slice M.A3 (H.at_.length+j) M.c3]:=by
    have :=HK.o.obj
    rw [HA.o,lR.o,j5.o] at this
    exact this
   have HO:=ae ho
   have jN:al (L.a∉ap M.A2):=fun hk=>((ig HK.o.nodup).2.1 _ hk).1 HA.o.symm
   have mv:al (L.a∉ap M.A3):=fun hk=>((ig HK.o.nodup).2.2 _ hk).1 HA.o.symm
   have HD:al (∀k,k∈ap M.A3→k∉ap M.A2):=fun k hk pI=>((ig HK.o.nodup).2.2 k hk).2.2 pI
   have Mc:al (∀k,k∈ap M.A2→k<wr.heap.size):=HK.o.at_.lt
   have HL3:al ((H.growBy (j+1)).at_.length=H.at_.length+j+1):=by show _=_;simp [Hp.growBy];omega
   have SV:al ((H.growBy (j+1)).score.length=H.at_.length+j+1):=by show _=_;have :=HS.o;simp [Hp.growBy];omega
   have pu:al (At ((wr.drew.alloc (.cells #[.int .i64 (-1)] 3)).alloc (.cells #[.int .i64 0] 3)) (wr.heap.size+1) 3 #[.int .i64 0]):=by
    have :=At.new (wr.drew.alloc (.cells #[.int .i64 (-1)] 3)) 3 #[.int .i64 0]
    rwa [show (wr.drew.alloc (.cells #[.int .i64 (-1)] 3)).heap.size=wr.heap.size+1 from by simp] at this
   have oK:al (At ((wr.drew.alloc (.cells #[.int .i64 0] 3)).alloc (.cells #[.int .i64 (-1)] 3)) wr.heap.size 3 #[.int .i64 0]):=(At.new wr.drew _ _).alloc _
   clear hj ho
   go_wp2_with fail
   refine wp_region_noPanic ?_
   refine bp (fun w':World=>At w' L.a 115 #[.slice M.A1 (H.growBy j).items.length M.c1, .slice M.A2 (H.at_.length+j) M.c2, .slice M.A3 (H.at_.length+j) M.c3]) 16 (by kernel_rfl) (HO.o.drew) (fun db=> ?_)
   refine TB 10 [(0,[]),(1,[]),(2,[]),(3,[]),(4,[]),(5,[5,16]),(8,[]),(9,[]),(10,[]),(11,[11,16])] db ?_ (hr:=by (repeat (apply Ss;rfl;rfl;(intro w cm;(try (have cm:=cm.resolve_left (List.cons_ne_nil _ _);(have s1:=cm.cell 1;have s2:=cm.cell 2;simp at s1 s2)));go_simp<;>with_reducible rfl);try simp only [Act.put,q5,q6,q7]));exact Sr);intro db
   have aH:=db.resolve_left (by decide)
   refine aU (rs:=[6,12]) (by kernel_rfl) (by simp) ?_
   refine bY.cons (o:= ?aep) ?Rp ?Fa ?_
   case Rp=>rfl
   case Fa=>
    intro K hK
    go_simp
    refine hK.out _ _ (.inr ?_) (fun mn=> ?_)
    ·first |exact aH.alloc _ |exact kf.at_ aH jN.o |exact Am.at_ aH mv.o
    clear hK K
    try simp only [Act.put,q5,q6,q7]
    have aH:=mn.resolve_left (by decide)
    refine aU (rs:=[7,12]) (by kernel_rfl) (by simp) ?_
    refine bY.cons (o:= ?aeo) ?Ro ?E9 ?_
    case Ro=>rfl
    case E9=>
     intro K hK
     (refine bT rfl _ _ rfl M.A2 M.c2 (H.growBy j).at_ _ rfl lR.o.symm ?sB _ 1 (-1) rfl ?qg (by rw [lR.o];omega) ?_;(case sB=>first |exact HK.o.at_.drew.alloc _ |exact (HK.o.at_.drew.alloc _).alloc _);(case qg=>simp);intro gA cA wA JR kf JS XP)
     refine hK.out _ _ (.inr ?_) (fun jC=> ?_)
     ·first |exact aH.alloc _ |exact kf.at_ aH jN.o |exact Am.at_ aH mv.o
     clear hK K
     try simp only [Act.put,q5,q6,q7]
     refine R2 12 jC fun K hK aH=> ?_
     go_simp
     refine hK.out _ _ (.inr ?_) (fun qh=> ?_)
     ·first |exact aH.alloc _ |exact kf.at_ aH jN.o |exact Am.at_ aH mv.o
     clear hK K
     try simp only [Act.put,q5,q6,q7]
     refine R2 13 qh fun K hK aH=> ?_
     (refine bT rfl _ _ rfl M.A3 M.c3 (H.growBy j).score _ rfl j5.o.symm ?Jv _ 1 0 rfl ?FH (by rw [j5.o];omega) ?_;(case Jv=>first |exact ((HK.o.score.drew.alloc _).fr kf HD.o).alloc _ |exact ((HK.o.score.drew.alloc _).alloc _).fr kf HD.o);(case FH=>first | (simp;done) |exact (kf.at_ pu.o (fun hk=>absurd (Mc.o _ hk) (by omega))).cell 0 |exact (kf.at_ oK.o (fun hk=>absurd (Mc.o _ hk) (by omega))).cell 0);intro gB cB wB hiB Am hgB hsB)
     refine hK.out _ _ (.inr ?_) (fun ml=> ?_)
     ·first |exact aH.alloc _ |exact kf.at_ aH jN.o |exact Am.at_ aH mv.o
     clear hK K
     try simp only [Act.put,q5,q6,q7]
     refine TB 2 [(14,[]),(15,[])] ml ?_;intro ml
     refine R2 16 ml fun K hK aH=> ?_
     (have b1:=aH.cell 1;have b3:=aH.frozen 1;simp at b1;go_simp)
     refine hK.out _ _ (.inl rfl) (fun gM=> ?_)
     clear hK K
     try simp only [Act.put,q5,q6,q7]
     refine TB 2 [(17,[]),(18,[])] gM ?_;intro gM
     refine R1 (i:=19) (o:= ?ael) (by kernel_rfl) (by rfl) ?_
     intro K hK
     (have b2:=aH.cell 2;have b4:=aH.frozen 2;simp at b2;go_simp)
     refine hK.out _ _ (.inl rfl) (fun CY=> ?_)
     clear hK K
     try simp only [Act.put,q5,q6,q7]
     refine fo ?_
     have fA:Fr (ap M.A2) wr wA:=by first |exact ((Fr.refl _ wr).drew.alloc _).aj kf |exact (((Fr.refl _ wr).drew.alloc _).alloc _).aj kf
     have fB:Fr (ap M.A3) wA wB:=by first |exact Am |exact ((Fr.refl _ wA).alloc _).aj Am
     have qA:gA∈ap M.A2∨wr.heap.size≤gA:=JS.imp id (fun e=>by rw [e];simp <;>omega)
     have qB:gB∈ap M.A3∨wA.heap.size≤gB:=hgB.imp id (fun e=>by rw [e];simp <;>omega)
     obtain ⟨r1,r2,r3⟩:=ct.z7 HK.o (by simp [lR.o,j5.o]) JR fA qA hiB fB qB
     rw [HA.o] at r1 r2 r3
     rw [iO.1,iO.2,HL3.o,SV.o] at r1 r2
     have R1:=ae r1
     have R2:=ae r2
     have R3:=ae r3
     clear r1 r2 r3
     go_wp2
     go_roundg (gk-1)
     case measure=>have :=HJ.o;omega
     case rel=>exact ⟨j+1,_,by have :=HJ.o;omega,R1.o,fD.aX HE.o R3.o qe,qe.trans R2.o HE.o.2.1⟩
    refine bY.cons (o:= ?aek) ?Rk ?E6 ?_
    case Rk=>rfl
    case E6=>
     intro K hK
     go_simp
     refine hK.out _ _ (.inr ?_) (fun jC=> ?_)
     ·first |exact aH.alloc _ |exact kf.at_ aH jN.o |exact Am.at_ aH mv.o
     clear hK K
     try simp only [Act.put,q5,q6,q7]
     refine R2 7 jC fun K hK aH=> ?_
     (refine bT rfl _ _ rfl M.A2 M.c2 (H.growBy j).at_ _ rfl lR.o.symm ?Jt _ 1 (-1) rfl ?FE (by rw [lR.o];omega) ?_;(case Jt=>first |exact HK.o.at_.drew.alloc _ |exact (HK.o.at_.drew.alloc _).alloc _);(case FE=>simp);intro gA cA wA JR kf JS XP)
     refine hK.out _ _ (.inr ?_) (fun qh=> ?_)
     ·first |exact aH.alloc _ |exact kf.at_ aH jN.o |exact Am.at_ aH mv.o
     clear hK K
     try simp only [Act.put,q5,q6,q7]
     refine R2 13 qh fun K hK aH=> ?_
     (refine bT rfl _ _ rfl M.A3 M.c3 (H.growBy j).score _ rfl j5.o.symm ?Js _ 1 0 rfl ?FD (by rw [j5.o];omega) ?_;(case Js=>first |exact ((HK.o.score.drew.alloc _).fr kf HD.o).alloc _ |exact ((HK.o.score.drew.alloc _).alloc _).fr kf HD.o);(case FD=>first | (simp;done) |exact (kf.at_ pu.o (fun hk=>absurd (Mc.o _ hk) (by omega))).cell 0 |exact (kf.at_ oK.o (fun hk=>absurd (Mc.o _ hk) (by omega))).cell 0);intro gB cB wB hiB Am hgB hsB)
     refine hK.out _ _ (.inr ?_) (fun ml=> ?_)
     ·first |exact aH.alloc _ |exact kf.at_ aH jN.o |exact Am.at_ aH mv.o
     clear hK K
     try simp only [Act.put,q5,q6,q7]
     refine TB 2 [(14,[]),(15,[])] ml ?_;intro ml
     refine R2 16 ml fun K hK aH=> ?_
     (have b1:=aH.cell 1;have b3:=aH.frozen 1;simp at b1;go_simp)
     refine hK.out _ _ (.inl rfl) (fun gM=> ?_)
     clear hK K
     try simp only [Act.put,q5,q6,q7]
     refine TB 2 [(17,[]),(18,[])] gM ?_;intro gM
     refine R1 (i:=19) (o:= ?aei) (by kernel_rfl) (by rfl) ?_
     intro K hK
     (have b2:=aH.cell 2;have b4:=aH.frozen 2;simp at b2;go_simp)
     refine hK.out _ _ (.inl rfl) (fun CY=> ?_)
     clear hK K
     try simp only [Act.put,q5,q6,q7]
     refine fo ?_
     have fA:Fr (ap M.A2) wr wA:=by first |exact ((Fr.refl _ wr).drew.alloc _).aj kf |exact (((Fr.refl _ wr).drew.alloc _).alloc _).aj kf
     have fB:Fr (ap M.A3) wA wB:=by first |exact Am |exact ((Fr.refl _ wA).alloc _).aj Am
     have qA:gA∈ap M.A2∨wr.heap.size≤gA:=JS.imp id (fun e=>by rw [e];simp <;>omega)
     have qB:gB∈ap M.A3∨wA.heap.size≤gB:=hgB.imp id (fun e=>by rw [e];simp <;>omega)
     obtain ⟨r1,r2,r3⟩:=ct.z7 HK.o (by simp [lR.o,j5.o]) JR fA qA hiB fB qB
     rw [HA.o] at r1 r2 r3
     rw [iO.1,iO.2,HL3.o,SV.o] at r1 r2
     have R1:=ae r1
     have R2:=ae r2
     have R3:=ae r3
     clear r1 r2 r3
     go_wp2
     go_roundg (gk-1)
     case measure=>have :=HJ.o;omega
     case rel=>exact ⟨j+1,_,by have :=HJ.o;omega,R1.o,fD.aX HE.o R3.o qe,qe.trans R2.o HE.o.2.1⟩
    exact bY.nil
   refine bY.cons (o:= ?aeh) ?Ri ?E5 ?_
   case Ri=>rfl
   case E5=>
    intro K hK
    go_simp
    refine hK.out _ _ (.inr ?_) (fun mn=> ?_)
    ·first |exact aH.alloc _ |exact kf.at_ aH jN.o |exact Am.at_ aH mv.o
    clear hK K
    try simp only [Act.put,q5,q6,q7]
    refine R2 6 mn fun K hK aH=> ?_
    go_simp
    refine hK.out _ _ (.inr ?_) (fun jC=> ?_)
    ·first |exact aH.alloc _ |exact kf.at_ aH jN.o |exact Am.at_ aH mv.o
    clear hK K
    try simp only [Act.put,q5,q6,q7]
    refine R2 7 jC fun K hK aH=> ?_
    (refine bT rfl _ _ rfl M.A2 M.c2 (H.growBy j).at_ _ rfl lR.o.symm ?Jq _ 1 (-1) rfl ?FB (by rw [lR.o];omega) ?_;(case Jq=>first |exact HK.o.at_.drew.alloc _ |exact (HK.o.at_.drew.alloc _).alloc _);(case FB=>simp);intro gA cA wA JR kf JS XP)
    refine hK.out _ _ (.inr ?_) (fun qh=> ?_)
    ·first |exact aH.alloc _ |exact kf.at_ aH jN.o |exact Am.at_ aH mv.o
    clear hK K
    try simp only [Act.put,q5,q6,q7]
    refine R2 13 qh fun K hK aH=> ?_
    (refine bT rfl _ _ rfl M.A3 M.c3 (H.growBy j).score _ rfl j5.o.symm ?Jp _ 1 0 rfl ?FA (by rw [j5.o];omega) ?_;(case Jp=>first |exact ((HK.o.score.drew.alloc _).fr kf HD.o).alloc _ |exact ((HK.o.score.drew.alloc _).alloc _).fr kf HD.o);(case FA=>first | (simp;done) |exact (kf.at_ pu.o (fun hk=>absurd (Mc.o _ hk) (by omega))).cell 0 |exact (kf.at_ oK.o (fun hk=>absurd (Mc.o _ hk) (by omega))).cell 0);intro gB cB wB hiB Am hgB hsB)
    refine hK.out _ _ (.inr ?_) (fun ml=> ?_)
    ·first |exact aH.alloc _ |exact kf.at_ aH jN.o |exact Am.at_ aH mv.o
    clear hK K
    try simp only [Act.put,q5,q6,q7]
    refine TB 2 [(14,[]),(15,[])] ml ?_;intro ml
    refine R2 16 ml fun K hK aH=> ?_
    (have b1:=aH.cell 1;have b3:=aH.frozen 1;simp at b1;go_simp)
    refine hK.out _ _ (.inl rfl) (fun gM=> ?_)
    clear hK K
    try simp only [Act.put,q5,q6,q7]
    refine TB 2 [(17,[]),(18,[])] gM ?_;intro gM
    refine R1 (i:=19) (o:= ?aef) (by kernel_rfl) (by rfl) ?_
    intro K hK
    (have b2:=aH.cell 2;have b4:=aH.frozen 2;simp at b2;go_simp)
    refine hK.out _ _ (.inl rfl) (fun CY=> ?_)
    clear hK K
    try simp only [Act.put,q5,q6,q7]
    refine fo ?_
    have fA:Fr (ap M.A2) wr wA:=by first |exact ((Fr.refl _ wr).drew.alloc _).aj kf |exact (((Fr.refl _ wr).drew.alloc _).alloc _).aj kf
    have fB:Fr (ap M.A3) wA wB:=by first |exact Am |exact ((Fr.refl _ wA).alloc _).aj Am
    have qA:gA∈ap M.A2∨wr.heap.size≤gA:=JS.imp id (fun e=>by rw [e];simp <;>omega)
    have qB:gB∈ap M.A3∨wA.heap.size≤gB:=hgB.imp id (fun e=>by rw [e];simp <;>omega)
    obtain ⟨r1,r2,r3⟩:=ct.z7 HK.o (by simp [lR.o,j5.o]) JR fA qA hiB fB qB
    rw [HA.o] at r1 r2 r3
    rw [iO.1,iO.2,HL3.o,SV.o] at r1 r2
    have R1:=ae r1
    have R2:=ae r2
    have R3:=ae r3
    clear r1 r2 r3
    go_wp2
    go_roundg (gk-1)
    case measure=>have :=HJ.o;omega
    case rel=>exact ⟨j+1,_,by have :=HJ.o;omega,R1.o,fD.aX HE.o R3.o qe,qe.trans R2.o HE.o.2.1⟩
   exact bY.nil
  ·have t2:(H.at_.length:Int)+m≤(H.at_.length:Int)+j:=by omega
   obtain rfl :j=m:=by omega
   go_wp2_with fail
   go_end0
   exact ⟨rfl,M,HK.o,HE.o,qe⟩
theorem Qv {a b:Nat} (h:a=b):Ending.returned (.pointer (some ⟨a,0,none⟩))= .returned (.pointer (some ⟨b,0,none⟩)):=by rw [h]
def Hp.none_:Hp:={ items:=[],at_:=[],score:=[] }
theorem ct.new (w:World):ct ((w.alloc (.cells #[] 3)).alloc (.cells #[.slice none 0 0, .slice (some ⟨w.heap.size,0,none⟩) 0 0, .slice none 0 0] 115))
  { a:=w.heap.size+1,A1:=none,c1:=0,A2:=some ⟨w.heap.size,0,none⟩,c2:=0,A3:=none,c3:=0 } Hp.none_:=by
 refine ⟨?_,Ints.nil _,?_,Ints.nil _,by simp [fD.fp,ap],rfl⟩
 ·have :=At.new (w.alloc (.cells #[] 3)) 115 #[.slice none 0 0, .slice (some ⟨w.heap.size,0,none⟩) 0 0, .slice none 0 0]
  rwa [show (w.alloc (.cells #[] 3)).heap.size=w.heap.size+1 from by simp] at this
 ·have :Ints (w.alloc (.cells #[] 3)) (some ⟨w.heap.size,0,none⟩) 0 []:=World.ownsRow_lit w #[] 0 (bH _) (by simp [maxLen]) (by simp)
  exact this.alloc _
theorem N4 (w:World) (n:Int):
  Calls Tryz.prog 44 #[.int .i64 n] w fun e w'=>∃L:fD,e= .returned (.pointer (some ⟨L.a,0,none⟩))∧ct w' L (Hp.none_.dS n)∧L.A2.isSome=true∧(∀k,k∈L.fp→w.heap.size≤k)∧Fr [] w w':=by
 have HN:=ae (ct.new w)
 go_enter Tryz.func44,Tryz.ntmps44
 go_wp2_with fail
 refine (zc _ _ _ HN.o rfl n (by simp [Hp.none_])).mono ?_
 rintro e w1 ⟨rfl,L',hL,hE,hF⟩
 have HL:=ae hL
 have HE:=ae hE
 have HF:=ae hF
 clear hL hE hF
 go_wp2
 go_ret
 have hk:∀k,k∈fD.fp { a:=w.heap.size+1,A1:=none,c1:=0,A2:=some ⟨w.heap.size,0,none⟩,c2:=0,A3:=none,c3:=0 }→w.heap.size≤k:=by
  intro k hk
  simp only [fD.fp,ap,Option.map_none,cu,Option.toList_none,fq,List.nil_append,bU,av,cK,or_false] at hk
  omega
 refine ⟨L',Qv HE.o.1.symm,HL.o,HE.o.2.2 rfl,fun k h=> ?_,?_⟩
 ·rcases HE.o.2.1 k h with h |h
  ·exact hk k h
  ·exact aF (by simp;omega) h
 ·exact (((Fr.refl [] w).alloc _).alloc _).trans HF.o (fun k h=> .inr (hk k h))
--a nil heap
end Go.Proofs.YtdgplmgfkliijaaGreat
