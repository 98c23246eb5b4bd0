/- The steps of a region that draws, in short words. -/
import Derived.Test.YtjmmpfjcpdepjaaGreatDoorRows
import Derived.WalkKit
import Derived.WalkSpells
import Derived.WalkLawsBesides
import Derived.Maps.AppendAt
import Derived.Deep.Draws
import Derived.Deep.QuietTactic
import Derived.BigQuiet
import Derived.Lib.Hide
import Derived.Deep.RegionLaw
import Derived.Deep.RegionHeld3
import Derived.OrdersHeld
import Derived.Deep.RegionHeld
set_option linter.unusedVariables false
set_option maxHeartbeats 2000000
set_option maxRecDepth 100000
namespace Go.Proofs.YtjmmpfjcpdepjaaGreatDoor
open Go.RowKit
def At (w:World) (g:Nat) (t:TypeId) (cs:Array Value):Prop:=w.heap[g]? =some (.cells cs t (0,0))
structure Fr (S:List Nat) (w w':World):Prop where
 os:w'.os=w.os
 tape:w'.tape=w.tape
 output:w'.output=w.output
 size:w.heap.size≤w'.heap.size
 block:∀k,k<w.heap.size→k∉S→w'.heap[k]? =w.heap[k]?
namespace Fr
variable {S T:List Nat} {w w' a b c:World}
theorem refl (S:List Nat) (w:World):Fr S w w:=⟨rfl,rfl,rfl,Nat.le_refl _,fun _ _ _=>rfl⟩
theorem mono (h:Fr S w w') (hs:∀k,k∈S→k∈T∨w.heap.size≤k):Fr T w w':=
 ⟨h.os,h.tape,h.output,h.size,fun k hk hn=>h.block k hk fun hm=>(hs k hm).elim hn (by omega)⟩
theorem trans (h:Fr S a b) (k:Fr T b c) (hs:∀x,x∈T→x∈S∨a.heap.size≤x):Fr S a c:=
 ⟨k.os.trans h.os,k.tape.trans h.tape,k.output.trans h.output,Nat.le_trans h.size k.size,fun i hi hn=>
  (k.block i (Nat.lt_of_lt_of_le hi h.size) fun hm=>(hs i hm).elim hn (by omega)).trans (h.block i hi hn)⟩
theorem then_ (h:Fr S a b) (k:Fr S b c):Fr S a c:=h.trans k fun _ hx=> .inl hx
theorem drew (h:Fr S w w'):Fr S w w'.drew:=⟨h.os,h.tape,h.output,h.size,h.block⟩
theorem drewN (h:Fr S w w') (n:Nat):Fr S w (w'.drewN n):=⟨h.os,h.tape,h.output,h.size,h.block⟩
theorem alloc (h:Fr S w w') (o:Obj):Fr S w (w'.alloc o):=
 h.then_ ⟨rfl,rfl,rfl,by simp,fun k hk _=>Below.heap_alloc _ _ _ hk⟩
theorem setCell (h:Fr S w w') {p:Addr} (hp:p.block∈S∨w.heap.size≤p.block) (u:Value):Fr S w (w'.setCell p u):=
 ⟨h.os,h.tape,h.output,by simpa [World.setCell] using h.size,fun k hk hn=>(Below.heap_setCell _ _ _ _ (by
  rintro rfl
  rcases hp with hp |hp
  ·exact hn hp
  ·omega)).trans (h.block k hk hn)⟩
theorem grown (h:Fr S w w') {row:Option Nat} {w'':World} (hg:w'.grownBy w'' row) (hr:∀k,row=some k→k∈S∨w.heap.size≤k):Fr S w w'':=
 ⟨hg.os.trans h.os,hg.tape.trans h.tape,hg.output.trans h.output,Nat.le_trans h.size hg.size,fun k hk hn=>
  (hg.block k (Nat.lt_of_lt_of_le hk h.size) fun e=>(hr k e.symm).elim hn (by omega)).trans (h.block k hk hn)⟩
theorem of_below (h:Below w.heap.size w w'):Fr S w w':=⟨h.os,h.tape,h.output,h.size,fun k hk _=>h.block k hk⟩
theorem below (h:Fr [] w w'):Below w.heap.size w w':=⟨h.os,h.tape,h.output,h.size,fun k hk=>h.block k hk (by simp)⟩
theorem at_ (h:Fr S w w') {g:Nat} {t:TypeId} {cs:Array Value} (hg:At w g t cs) (hn:g∉S):At w' g t cs:=
 (h.block g (by
  rcases Nat.lt_or_ge g w.heap.size with hl |hl
  ·exact hl
  ·unfold At at hg;rw [Array.getElem?_eq_none hl] at hg;cases hg) hn).trans hg
theorem own (h:Fr S w w') {base:Nat} {e:TypeId} {size n:Nat} {v:Value} {xs:List Value} (ho:w.ownsRow base e size v n xs) (hn:∀k,v.ownBlock=some k→k∉S):w'.ownsRow base e size v n xs:=by
 refine ⟨ho.1,?_⟩
 rcases ho.2 with h0 |⟨g,cap,cur,hv,hb,hg,r⟩
 ·exact .inl h0
 ·exact .inr ⟨g,cap,cur,hv,hb,h.at_ (t:=e) hg (hn g (by rw [hv];rfl)),r⟩
end Fr
namespace At
variable {w w':World} {g:Nat} {t:TypeId} {cs:Array Value}
theorem lt (h:At w g t cs):g<w.heap.size:=by
 rcases Nat.lt_or_ge g w.heap.size with hl |hl
 ·exact hl
 ·unfold At at h;rw [Array.getElem?_eq_none hl] at h;cases h
theorem cell (h:At w g t cs) (i:Nat):w.cell? ⟨g,i,none⟩=cs[i]? :=cell_of_row w g i cs t (0,0) h
theorem frozen (h:At w g t cs) (i:Nat):w.frozen? ⟨g,i,none⟩=false:=by
 unfold At at h
 simp [World.frozen?,h]
theorem new (w:World) (t:TypeId) (cs:Array Value):At (w.alloc (.cells cs t)) w.heap.size t cs:=heap_alloc_new w _
theorem drew (h:At w g t cs):At w.drew g t cs:=h
theorem alloc (h:At w g t cs) (o:Obj):At (w.alloc o) g t cs:=(Below.heap_alloc w o g h.lt).trans h
theorem set_ (h:At w g t cs) (i:Nat) (u:Value):At (w.setCell ⟨g,i,none⟩ u) g t (cs.setIfInBounds i u):=by
 unfold At at h⊢
 simp [World.setCell,Array.getElem?_modify,h]
theorem far (h:At w g t cs) {p:Addr} (hp:g≠p.block) (u:Value):At (w.setCell p u) g t cs:=(Below.heap_setCell w p u g hp).trans h
end At
def Ints (w:World) (A:Option Addr) (c:Nat) (xs:List Int):Prop:=w.ownsRow 0 3 1 (.slice A xs.length c) xs.length (xs.map (Value.int .i64))
def blks (A:Option Addr):List Nat:=(A.map (·.block)).toList
namespace Ints
variable {w w':World} {A:Option Addr} {c:Nat} {xs:List Int}
theorem form (h:Ints w A c xs):(A=none∧c=0∧xs=[])∨∃g,A=some ⟨g,0,none⟩∧g<w.heap.size∧xs.length≤c∧c≤maxLen:=by
 rcases h.2 with ⟨h1,h2⟩ |⟨g,cap,cur,hv,_,hg,hn,hm,_⟩
 ·simp only [Value.slice.injEq] at h1
  exact .inl ⟨h1.1,h1.2.2,List.eq_nil_of_length_eq_zero h2⟩
 ·simp only [Value.slice.injEq,true_and] at hv
  obtain ⟨rfl,rfl⟩:=hv
  exact .inr ⟨g,rfl,At.lt (t:=3) hg,hn,hm⟩
theorem pos {i:Nat} (h:Ints w A c xs) (hi:i<xs.length):∃g,A=some ⟨g,0,none⟩∧g<w.heap.size:=by
 rcases h.form with ⟨_,_,rfl⟩ |⟨g,h1,h2,_⟩
 ·simp at hi
 ·exact ⟨g,h1,h2⟩
theorem len (h:Ints w A c xs):xs.length≤maxLen:=by
 rcases h.form with ⟨_,_,rfl⟩ |⟨g,_,_,h1,h2⟩
 ·simp [maxLen]
 ·omega
theorem cell {g:Nat} (h:Ints w (some ⟨g,0,none⟩) c xs) {i:Nat} (hi:i<xs.length):w.cell? ⟨g,i,none⟩=some (.int .i64 (xs[i]!)):=by
 rw [World.ownsRow.cellAt h i (by omega)]
 simp [hi]
theorem frozen {g:Nat} (h:Ints w (some ⟨g,0,none⟩) c xs) (i:Nat):w.frozen? ⟨g,i,none⟩=false:=World.ownsRow.frozenAt h i
theorem set_ {g:Nat} (h:Ints w (some ⟨g,0,none⟩) c xs) (i:Nat) (x:Int):Ints (w.setCell ⟨g,i,none⟩ (.int .i64 x)) (some ⟨g,0,none⟩) c (xs.set i x):=by
 have :=(World.ownsRow.stored h i (.int .i64 x)).1
 unfold Ints
 rw [List.length_set,List.map_set]
 exact this
theorem far (h:Ints w A c xs) {p:Addr} (hp:p.block∉blks A) (u:Value):Ints (w.setCell p u) A c xs:=
 Fr.own (S:=[p.block]) ((Fr.refl [p.block] w).setCell (.inl (by simp)) u) h (fun k hk=>by
  rcases A with _ |ad
  ·simp [Value.ownBlock] at hk
  ·simp only [Value.ownBlock,Option.some.injEq] at hk
   subst hk
   simp only [blks,Option.map_some,Option.toList_some,List.mem_singleton] at hp⊢
   exact fun e=>hp e.symm)
theorem fr {S:List Nat} (h:Ints w A c xs) (hf:Fr S w w') (hd:∀k,k∈blks A→k∉S):Ints w' A c xs:=
 hf.own h (fun k hk=>hd k (by
  rcases A with _ |ad
  ·simp [Value.ownBlock] at hk
  ·simp only [Value.ownBlock,Option.some.injEq] at hk
   subst hk
   simp [blks]))
theorem take_ (h:Ints w A c xs) (k:Nat):Ints w A c (xs.take k):=by
 refine ⟨by simp,?_⟩
 rcases h.2 with ⟨h1,h2⟩ |⟨g,cap,cur,hv,hb,hg,hn,hm,hs,ht⟩
 ·have :xs=[]:=List.eq_nil_of_length_eq_zero h2
  subst this
  simp only [Value.slice.injEq,List.length_nil,true_and] at h1
  exact .inl ⟨by simp [h1.1,h1.2],by simp⟩
 ·simp only [Value.slice.injEq,true_and] at hv
  obtain ⟨rfl,rfl⟩:=hv
  refine .inr ⟨g,c,cur,rfl,hb,hg,by simp;omega,hm,hs,?_⟩
  simp only [Nat.mul_one] at ht⊢
  rw [List.map_take,←ht,List.take_take,List.length_take]
theorem drew (h:Ints w A c xs):Ints w.drew A c xs:=h
theorem alloc (h:Ints w A c xs) (o:Obj):Ints (w.alloc o) A c xs:=World.ownsRow.alloc h o
theorem nil (w:World):Ints w none 0 []:=World.ownsRow_nil w 0 _ 1
theorem lt (h:Ints w A c xs):∀k,k∈blks A→k<w.heap.size:=by
 rcases h.form with ⟨rfl,_⟩ |⟨g,rfl,h1,_⟩
 ·simp [blks]
 ·simpa [blks] using h1
end Ints
theorem quiet_l {P:Program} {f:FuncId} {args:Array Value} {w:World} {n:Nat} {v:Value}
  (h:Calls P f args (w.drewN n) fun e w'=>e= .returned v∧∃m,(w.drewN n).drewN m=w'):Calls P f args (w.drewN n) fun e w''=>e= .returned v∧∃m,w''=w.drewN m:=
 h.mono fun _ _ ⟨he,m,hm⟩=>⟨he,n+m,by rw [←hm,World.drewN_drewN]⟩
structure Hp where
 items:List Int
 at_:List Int
 score:List Int
structure HpL where
 a:Nat
 A1:Option Addr
 c1:Nat
 A2:Option Addr
 c2:Nat
 A3:Option Addr
 c3:Nat
def HpL.fp (L:HpL):List Nat:=L.a::(blks L.A1++(blks L.A2++blks L.A3))
structure HpAt (w:World) (L:HpL) (H:Hp):Prop where
 obj:At w L.a 155 #[.slice L.A1 H.items.length L.c1, .slice L.A2 H.at_.length L.c2, .slice L.A3 H.score.length L.c3]
 items:Ints w L.A1 L.c1 H.items
 at_:Ints w L.A2 L.c2 H.at_
 score:Ints w L.A3 L.c3 H.score
 nodup:L.fp.Nodup
 same:H.at_.length=H.score.length
def Hp.sc (H:Hp) (x:Int):Int:=H.score[x.toNat]!
def Hp.pl (H:Hp) (x:Int):Int:=H.at_[x.toNat]!
def Hp.it (H:Hp) (i:Int):Int:=H.items[i.toNat]!
def Hp.isB (H:Hp) (x:Int):Bool:=decide (0≤x)&&decide (x<H.at_.length)
def Hp.aheadB (H:Hp) (x y:Int):Bool:=decide (H.sc y<H.sc x) || (decide (H.sc x=H.sc y)&&decide (x<y))
theorem ret_bool {a b:Bool} (h:a=b):Ending.returned (.bool a)= .returned (.bool b):=by rw [h]
theorem ret_int {k:IntKind} {a b:Int} (h:a=b):Ending.returned (.int k a)= .returned (.int k b):=by rw [h]
theorem heap_is (w:World) (L:HpL) (H:Hp) (h:HpAt w L H) (x:Int):
  Calls Tryz.prog 147 #[.pointer (some ⟨L.a,0,none⟩), .int .i64 x] w fun e w'=>e= .returned (.bool (H.isB x))∧w=w':=by
 have c1:=h.obj.cell 1
 simp at c1
 unfold Hp.isB
 by_cases h0:0≤x
 ·by_cases h1:x<H.at_.length
  ·go_enter Tryz.func147,Tryz.ntmps147
   go_wp2
   go_ret
   exact ⟨ret_bool (by simp [h0,h1]),rfl⟩
  ·go_enter Tryz.func147,Tryz.ntmps147
   go_wp2
   go_ret
   exact ⟨ret_bool (by simp [h1]),rfl⟩
 ·go_enter Tryz.func147,Tryz.ntmps147
  go_wp2
  go_ret
  exact ⟨ret_bool (by simp;omega),rfl⟩
theorem HpAt.cellS {w:World} {L:HpL} {H:Hp} (h:HpAt w L H) {x:Int} (h0:0≤x) (h1:x<H.at_.length):
  ∃g,L.A3=some ⟨g,0,none⟩∧w.cell? ⟨g,x.toNat,none⟩=some (.int .i64 (H.sc x)):=by
 have hs:=h.same
 obtain ⟨g,hg,_⟩:=h.score.pos (i:=x.toNat) (by omega)
 refine ⟨g,hg,?_⟩
 have :=h.score
 rw [hg] at this
 exact this.cell (by omega)
theorem heap_ahead (w:World) (L:HpL) (H:Hp) (h:HpAt w L H) (x y:Int) (hx0:0≤x) (hx1:x<H.at_.length) (hy0:0≤y) (hy1:y<H.at_.length):
  Calls Tryz.prog 176 #[.pointer (some ⟨L.a,0,none⟩), .int .i64 x, .int .i64 y] w fun e w'=>e= .returned (.bool (H.aheadB x y))∧∃n,w.drewN n=w':=by
 have hs:=h.same
 have c1:=h.obj.cell 2
 simp at c1
 obtain ⟨g,hg,cx⟩:=h.cellS hx0 hx1
 obtain ⟨g',hg',cy⟩:=h.cellS hy0 hy1
 rw [hg] at hg' c1
 cases hg'
 have hx2:x<H.score.length:=by omega
 have hy2:y<H.score.length:=by omega
 unfold Hp.aheadB
 clear h hs hx1 hy1
 generalize H.sc x=sx at cx⊢
 generalize H.sc y=sy at cy⊢
 by_cases h1:sy<sx
 ·go_enter Tryz.func176,Tryz.ntmps176
  go_wp2_with fail
  go_quiet (fail)
  go_wp2
  go_ret
  exact ⟨ret_bool (by simp [h1]),_,rfl⟩
 ·have h1':decide (sy<sx)=false:=decide_eq_false h1
  by_cases h2:sx=sy
  ·subst h2
   by_cases h3:x<y
   ·go_enter Tryz.func176,Tryz.ntmps176
    go_wp2_with fail
    go_quiet (fail)
    go_wp2
    go_ret
    exact ⟨ret_bool (by simp [h3]),_,rfl⟩
   ·go_enter Tryz.func176,Tryz.ntmps176
    go_wp2_with fail
    go_quiet (fail)
    go_wp2
    go_ret
    exact ⟨ret_bool (by simp),_,rfl⟩
  ·have h2':(sx==sy)=false:=beq_eq_false_iff_ne.2 h2
   go_enter Tryz.func176,Tryz.ntmps176
   go_wp2_with fail
   go_quiet (fail)
   go_wp2
   go_ret
   exact ⟨ret_bool (by simp [h1',h2]),_,rfl⟩
def Hp.put (H:Hp) (i x:Int):Hp:={ H with items:=H.items.set i.toNat x,at_:=H.at_.set x.toNat i }
theorem nodup3 {a:Nat} {x y z:List Nat} (h:(a::(x++(y++z))).Nodup):
  (∀k,k∈x→k≠a∧k∉y∧k∉z)∧(∀k,k∈y→k≠a∧k∉x∧k∉z)∧(∀k,k∈z→k≠a∧k∉x∧k∉y):=by
 simp only [List.nodup_cons,List.mem_append,List.nodup_append] at h
 obtain ⟨h1,h2,⟨h3,h4,h5⟩,h6⟩:=h
 refine ⟨fun k hk=>⟨?_,?_,?_⟩,fun k hk=>⟨?_,?_,?_⟩,fun k hk=>⟨?_,?_,?_⟩⟩
 ·rintro rfl;exact h1 (.inl hk)
 ·exact fun hy=>h6 k hk k (.inl hy) rfl
 ·exact fun hz=>h6 k hk k (.inr hz) rfl
 ·rintro rfl;exact h1 (.inr (.inl hk))
 ·exact fun hx=>h6 k hx k (.inl hk) rfl
 ·exact fun hz=>h5 k hk k hz rfl
 ·rintro rfl;exact h1 (.inr (.inr hk))
 ·exact fun hx=>h6 k hx k (.inr hk) rfl
 ·exact fun hy=>h5 k hy k hk rfl
theorem HpAt.items_at {w:World} {L:HpL} {H:Hp} (h:HpAt w L H) {i:Int} (h0:0≤i) (h1:i<H.items.length):
  ∃g,L.A1=some ⟨g,0,none⟩∧w.cell? ⟨g,i.toNat,none⟩=some (.int .i64 (H.it i))∧w.frozen? ⟨g,i.toNat,none⟩=false:=by
 obtain ⟨g,hg,_⟩:=h.items.pos (i:=i.toNat) (by omega)
 refine ⟨g,hg,?_⟩
 have :=h.items
 rw [hg] at this
 exact ⟨this.cell (by omega),this.frozen _⟩
theorem HpAt.at_at {w:World} {L:HpL} {H:Hp} (h:HpAt w L H) {i:Int} (h0:0≤i) (h1:i<H.at_.length):
  ∃g,L.A2=some ⟨g,0,none⟩∧w.cell? ⟨g,i.toNat,none⟩=some (.int .i64 (H.pl i))∧w.frozen? ⟨g,i.toNat,none⟩=false:=by
 obtain ⟨g,hg,_⟩:=h.at_.pos (i:=i.toNat) (by omega)
 refine ⟨g,hg,?_⟩
 have :=h.at_
 rw [hg] at this
 exact ⟨this.cell (by omega),this.frozen _⟩
theorem HpAt.set1 {w:World} {L:HpL} {H:Hp} (h:HpAt w L H) {g:Nat} (hg:L.A1=some ⟨g,0,none⟩) (i:Nat) (x:Int):
  HpAt (w.setCell ⟨g,i,none⟩ (.int .i64 x)) L { H with items:=H.items.set i x }:=by
 obtain ⟨h1,h2,h3⟩:=nodup3 h.nodup
 have hm:g∈blks L.A1:=by simp [hg,blks]
 refine ⟨?_,?_,?_,?_,h.nodup,h.same⟩
 ·have :=h.obj.far (p:=⟨g,i,none⟩) (fun e=>(h1 g hm).1 e.symm) (.int .i64 x)
  simpa using this
 ·have :=h.items
  rw [hg] at this⊢
  exact this.set_ i x
 ·exact h.at_.far (fun hk=>(h1 g hm).2.1 hk) _
 ·exact h.score.far (fun hk=>(h1 g hm).2.2 hk) _
theorem HpAt.set2 {w:World} {L:HpL} {H:Hp} (h:HpAt w L H) {g:Nat} (hg:L.A2=some ⟨g,0,none⟩) (i:Nat) (x:Int):
  HpAt (w.setCell ⟨g,i,none⟩ (.int .i64 x)) L { H with at_:=H.at_.set i x }:=by
 obtain ⟨h1,h2,h3⟩:=nodup3 h.nodup
 have hm:g∈blks L.A2:=by simp [hg,blks]
 refine ⟨?_,?_,?_,?_,h.nodup,by simpa using h.same⟩
 ·have :=h.obj.far (p:=⟨g,i,none⟩) (fun e=>(h2 g hm).1 e.symm) (.int .i64 x)
  simpa using this
 ·exact h.items.far (fun hk=>(h2 g hm).2.1 hk) _
 ·have :=h.at_
  rw [hg] at this⊢
  exact this.set_ i x
 ·exact h.score.far (fun hk=>(h2 g hm).2.2 hk) _
theorem HpAt.drewN {w:World} {L:HpL} {H:Hp} (h:HpAt w L H) (n:Nat):HpAt (w.drewN n) L H:=⟨h.obj,h.items,h.at_,h.score,h.nodup,h.same⟩
theorem HpAt.drew {w:World} {L:HpL} {H:Hp} (h:HpAt w L H):HpAt w.drew L H:=⟨h.obj,h.items,h.at_,h.score,h.nodup,h.same⟩
theorem heap_put (w:World) (L:HpL) (H:Hp) (h:HpAt w L H) (i x:Int) (hi0:0≤i) (hi1:i<H.items.length) (hx0:0≤x) (hx1:x<H.at_.length):
  Calls Tryz.prog 177 #[.pointer (some ⟨L.a,0,none⟩), .int .i64 i, .int .i64 x] w fun e w'=>e= .returned (.tuple #[])∧HpAt w' L (H.put i x)∧Fr L.fp w w':=by
 have o0:=h.obj.cell 0
 have o1:=h.obj.cell 1
 simp at o0 o1
 obtain ⟨g,hg,ci,fi⟩:=h.items_at hi0 hi1
 obtain ⟨g',hg',cx,fx⟩:=h.at_at hx0 hx1
 have hne:g≠g':=fun e=>((nodup3 h.nodup).1 g (by simp [hg,blks])).2.1 (by simp [hg',blks,e])
 rw [hg] at o0
 rw [hg'] at o1
 have fin:=(h.set1 hg i.toNat x).set2 hg' x.toNat i
 have fr:Fr L.fp w ((w.setCell ⟨g,i.toNat,none⟩ (.int .i64 x)).setCell ⟨g',x.toNat,none⟩ (.int .i64 i)):=
  ((Fr.refl L.fp w).setCell (.inl (by simp [HpL.fp,hg,blks])) _).setCell (.inl (by simp [HpL.fp,hg',blks])) _
 clear h
 go_enter Tryz.func177,Tryz.ntmps177
 go_wp2
 go_region
 go_wp2
 go_end0
 exact ⟨rfl,fin.drew,fr.drew⟩
theorem heap_ahead_is (w:World) (L:HpL) (H:Hp) (h:HpAt w L H) (x y:Int) (b:Bool) (hb:H.aheadB x y=b) (hx:0≤x∧x<H.at_.length) (hy:0≤y∧y<H.at_.length):
  Calls Tryz.prog 176 #[.pointer (some ⟨L.a,0,none⟩), .int .i64 x, .int .i64 y] w fun e w'=>e= .returned (.bool b)∧∃n,w.drewN n=w':=
 (heap_ahead w L H h x y hx.1 hx.2 hy.1 hy.2).mono fun _ _ ⟨he,hw⟩=>⟨by rw [he,hb],hw⟩
theorem Hp.put_items (H:Hp) (i x:Int):(H.put i x).items.length=H.items.length:=by simp [Hp.put]
theorem Hp.put_at (H:Hp) (i x:Int):(H.put i x).at_.length=H.at_.length:=by simp [Hp.put]
def Hp.InR (H:Hp):Prop:=∀j:Nat,j<H.items.length→0≤H.items[j]! ∧H.items[j]! <H.at_.length
theorem Hp.InR.it {H:Hp} (h:H.InR) {i:Int} (h0:0≤i) (h1:i<H.items.length):0≤H.it i∧H.it i<H.at_.length:=h i.toNat (by omega)
theorem Hp.InR.put {H:Hp} (h:H.InR) {i x:Int} (hx0:0≤x) (hx1:x<H.at_.length):(H.put i x).InR:=by
 intro j hj
 have hj':j<H.items.length:=by simpa [Hp.put] using hj
 have :=h j hj'
 simp only [Hp.put,List.length_set]
 by_cases e:i.toNat=j
 ·subst e;simp [hj'];omega
 ·have :(H.items.set i.toNat x)[j]! =H.items[j]! :=by simp [List.getElem!_eq_getElem?_getD,e]
  rw [this];assumption
def Hp.upF (x:Int):Nat→Hp→Nat→Hp
 |0,H,i=>H.put i x
 |f+1,H,i=>if 0<i∧H.aheadB x (H.it (((i-1)/2:Nat):Int))=true then upF x f (H.put i (H.it (((i-1)/2:Nat):Int))) ((i-1)/2) else H.put i x
theorem Hp.upF_go {x:Int} {f:Nat} {H:Hp} {i:Nat} (hi:0<i) (ha:H.aheadB x (H.it (((i-1)/2:Nat):Int))=true) (hf:i<f):
  Hp.upF x f H i=Hp.upF x (f-1) (H.put i (H.it (((i-1)/2:Nat):Int))) ((i-1)/2):=by
 obtain ⟨f,rfl⟩:∃g,f=g+1:=⟨f-1,by omega⟩
 simp only [Hp.upF,Nat.add_sub_cancel];rw [if_pos ⟨hi,ha⟩]
theorem Hp.upF_stop {x:Int} {f:Nat} {H:Hp} {i:Nat} (h:¬(0<i∧H.aheadB x (H.it (((i-1)/2:Nat):Int))=true)):Hp.upF x f H i=H.put i x:=by
 cases f with
 |zero=>rfl
 |succ f=>simp only [Hp.upF];rw [if_neg h]
theorem heap_up (w:World) (L:HpL) (H:Hp) (h:HpAt w L H) (hr:H.InR) (i:Nat) (hi1:i<H.items.length):
  Calls Tryz.prog 148 #[.pointer (some ⟨L.a,0,none⟩), .int .i64 i] w fun e w'=>e= .returned (.tuple #[])∧HpAt w' L (Hp.upF (H.it i) (i+1) H i)∧Fr L.fp w w':=by
 have o0:=h.obj.cell 0
 simp at o0
 have hm:=h.items.len
 unfold maxLen at hm
 obtain ⟨g,hg,ci,fi⟩:=h.items_at (i:=i) (by omega) (by omega)
 rw [hg] at o0
 have hx:=hr.it (i:=i) (by omega) (by omega)
 obtain ⟨x,hxe⟩:∃x,H.it i=x:=⟨_,rfl⟩
 rw [hxe] at ci hx⊢
 have ci':w.cell? ⟨g,i,none⟩=some (.int .i64 x):=by simpa using ci
 clear ci fi hxe
 have hi2:(i:Int)<H.items.length:=by omega
 go_enter Tryz.func148,Tryz.ntmps148
 go_wp2
 go_loopw [1] (fun iv wr=>∃(k f:Nat) (K:Hp),iv= .int .i64 k∧HpAt wr L K∧K.InR∧K.items.length=H.items.length∧K.at_.length=H.at_.length∧k<H.items.length∧k<f∧
   Hid (Hp.upF x (i+1) H i=Hp.upF x f K k)∧Fr L.fp w wr) (fun iv _=>(intOf iv).toNat)
 case atStart=>exact ⟨i,i+1,H,rfl,h,hr,rfl,rfl,hi1,by omega,rfl,Fr.refl _ _⟩
 case round=>
  obtain ⟨k,f,K,rfl,hK,hKr,l1,l2,hk,hkf,HE,hfr⟩:=hrel
  have q0:=hK.obj.cell 0
  simp only [l1,hg,List.getElem?_toArray,List.getElem?_cons_zero] at q0
  by_cases hk0:0<k
  ·obtain ⟨g',hg',cp,_⟩:=hK.items_at (i:=((k-1)/2:Nat)) (by omega) (by omega)
   rw [hg] at hg'
   cases hg'
   have hy:=hKr.it (i:=((k-1)/2:Nat)) (by omega) (by omega)
   obtain ⟨y,hye⟩:∃y,K.it (((k-1)/2:Nat):Int)=y:=⟨_,rfl⟩
   rw [hye] at cp hy
   have cp':wr.cell? ⟨g,(k-1)/2,none⟩=some (.int .i64 y):=cp
   clear cp
   have hk0':(0:Int)<(k:Int):=by omega
   have HK:=Lib.hid hK
   have HL:=Lib.hid l1
   have HM:=Lib.hid l2
   have hk1:(k:Int)<H.items.length:=by omega
   cases ha:K.aheadB x y with
   |true=>
    have HS:Hid (Hp.upF x f K k=Hp.upF x (f-1) (K.put k y) ((k-1)/2)):=by
     have :=Hp.upF_go (x:=x) (f:=f) (H:=K) hk0 (by rw [hye];exact ha) hkf
     rw [hye] at this
     exact this
    have HA:=Lib.hid ha
    have HY:=Lib.hid hye
    clear ha hye hK l1 l2
    go_wp2_with fail
    refine (heap_ahead_is _ L K HK.out x y true HA.out (by rw [HM.out];exact hx) hy).mono ?_
    rintro e w1 ⟨rfl,n1,rfl⟩
    go_wp2_with fail
    refine (heap_put _ L K (HK.out.drewN _) k y (by omega) (by rw [HL.out];omega) hy.1 hy.2).mono ?_
    rintro e w1 ⟨rfl,hp,hf1⟩
    have HP:=Lib.hid hp
    clear hp
    go_wp2_with fail
    go_roundw
    case rel=>
     exact ⟨(k-1)/2,f-1,K.put k y,by go_num,HP.out,hKr.put hy.1 hy.2,by rw [Hp.put_items];exact HL.out,by rw [Hp.put_at];exact HM.out,by omega,by omega,HE.out.trans HS.out,
      hfr.then_ (((Fr.refl L.fp wr).drewN n1).then_ hf1)⟩
    case measure=>simp [intOf];omega
   |false=>
    have HS:Hid (Hp.upF x f K k=K.put k x):=Hp.upF_stop (by rw [hye,ha];simp)
    have HA:=Lib.hid ha
    clear ha hye hK l1 l2
    go_wp2_with fail
    refine (heap_ahead_is _ L K HK.out x y false HA.out (by rw [HM.out];exact hx) hy).mono ?_
    rintro e w1 ⟨rfl,n1,rfl⟩
    go_wp2_with fail
    refine (heap_put _ L K (HK.out.drewN _) k x (by omega) (by rw [HL.out];omega) hx.1 (by rw [HM.out];exact hx.2)).mono ?_
    rintro e w1 ⟨rfl,hp,hf1⟩
    have HP:=Lib.hid hp
    clear hp
    go_wp2_with fail
    go_end0
    exact ⟨rfl,by rw [HE.out,HS.out];exact HP.out,hfr.then_ (((Fr.refl L.fp wr).drewN n1).then_ hf1)⟩
  ·have HS:Hid (Hp.upF x f K k=K.put k x):=Hp.upF_stop (fun h=>hk0 h.1)
   have hz:k=0:=by omega
   subst hz
   have HK:=Lib.hid hK
   have HL:=Lib.hid l1
   have HM:=Lib.hid l2
   clear hK l1 l2
   go_wp2_with fail
   refine (heap_put _ L K HK.out _ x (by omega) (by rw [HL.out];omega) hx.1 (by rw [HM.out];exact hx.2)).mono ?_
   rintro e w1 ⟨rfl,hp,hf1⟩
   have HP:=Lib.hid hp
   clear hp
   go_wp2_with fail
   go_end0
   exact ⟨rfl,by rw [HE.out,HS.out];exact HP.out,hfr.then_ hf1⟩
def Hp.bestBelow (H:Hp) (i:Nat):Nat:=if 2*i+2<H.items.length∧H.aheadB (H.it ((2*i+2:Nat):Int)) (H.it ((2*i+1:Nat):Int))=true then 2*i+2 else 2*i+1
def Hp.downF (x:Int):Nat→Hp→Nat→Hp
 |0,H,i=>H.put i x
 |f+1,H,i=>if 2*i+1<H.items.length∧H.aheadB (H.it ((H.bestBelow i:Nat):Int)) x=true then Hp.downF x f (H.put i (H.it ((H.bestBelow i:Nat):Int))) (H.bestBelow i) else H.put i x
theorem Hp.downF_go {x:Int} {f:Nat} {H:Hp} {i b:Nat} (hb:H.bestBelow i=b) (hi:2*i+1<H.items.length) (ha:H.aheadB (H.it ((b:Nat):Int)) x=true) (hf:1≤f):
  Hp.downF x f H i=Hp.downF x (f-1) (H.put i (H.it ((b:Nat):Int))) b:=by
 obtain ⟨f,rfl⟩:∃g,f=g+1:=⟨f-1,by omega⟩
 simp only [Hp.downF,Nat.add_sub_cancel];rw [hb,if_pos ⟨hi,ha⟩]
theorem Hp.downF_stop {x:Int} {f:Nat} {H:Hp} {i:Nat} (h:¬(2*i+1<H.items.length∧H.aheadB (H.it ((H.bestBelow i:Nat):Int)) x=true)):Hp.downF x f H i=H.put i x:=by
 cases f with
 |zero=>rfl
 |succ f=>simp only [Hp.downF];rw [if_neg h]
theorem heap_down (w:World) (L:HpL) (H:Hp) (h:HpAt w L H) (hr:H.InR) (i:Nat) (hi1:i<H.items.length) (hsm:H.items.length≤4611686018427387903):
  Calls Tryz.prog 219 #[.pointer (some ⟨L.a,0,none⟩), .int .i64 i] w fun e w'=>e= .returned (.tuple #[])∧HpAt w' L (Hp.downF (H.it i) H.items.length H i)∧Fr L.fp w w':=by
 have o0:=h.obj.cell 0
 simp at o0
 obtain ⟨g,hg,ci,fi⟩:=h.items_at (i:=i) (by omega) (by omega)
 rw [hg] at o0
 have hx:=hr.it (i:=i) (by omega) (by omega)
 obtain ⟨x,hxe⟩:∃x,H.it i=x:=⟨_,rfl⟩
 rw [hxe] at ci hx⊢
 have ci':w.cell? ⟨g,i,none⟩=some (.int .i64 x):=by simpa using ci
 clear ci fi hxe
 have hi2:(i:Int)<H.items.length:=by omega
 go_enter Tryz.func219,Tryz.ntmps219
 go_wp2
 go_loopw [1,5] (fun iv kv wr=>∃(k f:Nat) (K:Hp),iv= .int .i64 k∧HpAt wr L K∧K.InR∧K.items.length=H.items.length∧K.at_.length=H.at_.length∧k<H.items.length∧H.items.length≤k+f∧
   Hid (Hp.downF x H.items.length H i=Hp.downF x f K k)∧Fr L.fp w wr) (fun iv _ _=>H.items.length-(intOf iv).toNat)
 case atStart=>exact ⟨i,H.items.length,H,rfl,h,hr,rfl,rfl,hi1,by omega,rfl,Fr.refl _ _⟩
 case round=>
  obtain ⟨k,f,K,rfl,hK,hKr,l1,l2,hk,hkf,HE,hfr⟩:=hrel
  have q0:=hK.obj.cell 0
  simp only [l1,hg,List.getElem?_toArray,List.getElem?_cons_zero] at q0
  by_cases hc:2*k+1<H.items.length
  ·have hc':2*(k:Int)+1<H.items.length:=by omega
   obtain ⟨g',hg',cp,_⟩:=hK.items_at (i:=(2*k+1:Nat)) (by omega) (by omega)
   rw [hg] at hg'
   cases hg'
   have hy:=hKr.it (i:=(2*k+1:Nat)) (by omega) (by omega)
   obtain ⟨y,hye⟩:∃y,K.it ((2*k+1:Nat):Int)=y:=⟨_,rfl⟩
   rw [hye] at cp hy
   have cp':wr.cell? ⟨g,2*k+1,none⟩=some (.int .i64 y):=cp
   clear cp
   have hk1:(k:Int)<H.items.length:=by omega
   have HK:=Lib.hid hK
   have HL:=Lib.hid l1
   have HM:=Lib.hid l2
   --what the round does with the one that is found
   by_cases hc2:2*k+2<H.items.length
   ·have hc2':2*(k:Int)+1+1<H.items.length:=by omega
    obtain ⟨g',hg',cp,_⟩:=hK.items_at (i:=(2*k+2:Nat)) (by omega) (by omega)
    rw [hg] at hg'
    cases hg'
    have hz:=hKr.it (i:=(2*k+2:Nat)) (by omega) (by omega)
    obtain ⟨z,hze⟩:∃z,K.it ((2*k+2:Nat):Int)=z:=⟨_,rfl⟩
    rw [hze] at cp hz
    have cz':wr.cell? ⟨g,2*k+1+1,none⟩=some (.int .i64 z):=cp
    clear cp
    have e1:IntKind.i64.wrap (2*(k:Int)+1+1)=2*(k:Int)+1+1:=IntWalk.i64_in _ (by omega)
    have HY:=Lib.hid hye
    have HZ:=Lib.hid hze
    have HE1:=Lib.hid e1
    cases ha:K.aheadB z y with
    |true=>
     have hb:K.bestBelow k=2*k+2:=by unfold Hp.bestBelow;rw [if_pos ⟨by omega,by rw [hze,hye];exact ha⟩]
     have HB:=Lib.hid hb
     have HA:=Lib.hid ha
     clear ha hye hze hb hK l1 l2 e1
     go_wp2_with fail
     have e1:=HE1.out
     have e2:(2*(k:Int)+1+1).toNat=2*k+1+1:=by omega
     have e3:(0:Int)≤2*(k:Int)+1+1:=by omega
     have e4:(2*(k:Int)+1).toNat=2*k+1:=by omega
     have e5:(0:Int)≤2*(k:Int)+1:=by omega
     go_quiet ((go_at_call 176;exact quiet_l (heap_ahead_is _ L K (HK.out.drewN _) z y true HA.out hz hy)))
     clear e1 e2 e3 e4 e5
     go_wp2_with fail
     cases ha2:K.aheadB z x with
     |true=>
      have HS:Hid (Hp.downF x f K k=Hp.downF x (f-1) (K.put k z) (2*k+2)):=by
       have :=Hp.downF_go (x:=x) (f:=f) (H:=K) (i:=k) HB.out (by rw [HL.out];exact hc) (by rw [HZ.out];exact ha2) (by omega)
       rw [HZ.out] at this
       exact this
      have HA2:=Lib.hid ha2
      clear ha2
      refine (heap_ahead_is _ L K (HK.out.drewN _) z x true HA2.out hz (by rw [HM.out];exact hx)).mono ?_
      rintro e w1 ⟨rfl,n1,rfl⟩
      go_wp2_with fail
      refine (heap_put _ L K (HK.out.drewN _) k z (by omega) (by rw [HL.out];omega) hz.1 hz.2).mono ?_
      rintro e w1 ⟨rfl,hp,hf1⟩
      have HP:=Lib.hid hp
      clear hp
      go_wp2_with fail
      go_roundw
      case rel=>
       exact ⟨2*k+2,f-1,K.put k z,by go_num,HP.out,hKr.put hz.1 hz.2,by rw [Hp.put_items];exact HL.out,by rw [Hp.put_at];exact HM.out,by omega,by omega,HE.out.trans HS.out,
        hfr.then_ (((Fr.refl L.fp wr).drewN _).then_ hf1)⟩
      case measure=>simp [intOf];omega
     |false=>
      have HS:Hid (Hp.downF x f K k=K.put k x):=Hp.downF_stop (by rw [HB.out,HZ.out,ha2];simp)
      have HA2:=Lib.hid ha2
      clear ha2
      refine (heap_ahead_is _ L K (HK.out.drewN _) z x false HA2.out hz (by rw [HM.out];exact hx)).mono ?_
      rintro e w1 ⟨rfl,n1,rfl⟩
      go_wp2_with fail
      refine (heap_put _ L K (HK.out.drewN _) k x (by omega) (by rw [HL.out];omega) hx.1 (by rw [HM.out];exact hx.2)).mono ?_
      rintro e w1 ⟨rfl,hp,hf1⟩
      have HP:=Lib.hid hp
      clear hp
      go_wp2_with fail
      go_end0
      exact ⟨rfl,by rw [HE.out,HS.out];exact HP.out,hfr.then_ (((Fr.refl L.fp wr).drewN _).then_ hf1)⟩
    |false=>
     have hb:K.bestBelow k=2*k+1:=by unfold Hp.bestBelow;rw [if_neg (by rw [hze,hye,ha];simp)]
     have HB:=Lib.hid hb
     have HA:=Lib.hid ha
     clear ha hye hze hb hK l1 l2 e1
     go_wp2_with fail
     have e1:=HE1.out
     have e2:(2*(k:Int)+1+1).toNat=2*k+1+1:=by omega
     have e3:(0:Int)≤2*(k:Int)+1+1:=by omega
     have e4:(2*(k:Int)+1).toNat=2*k+1:=by omega
     have e5:(0:Int)≤2*(k:Int)+1:=by omega
     go_quiet ((go_at_call 176;exact quiet_l (heap_ahead_is _ L K (HK.out.drewN _) z y false HA.out hz hy)))
     clear e1 e2 e3 e4 e5
     go_wp2_with fail
     cases ha2:K.aheadB y x with
     |true=>
      have HS:Hid (Hp.downF x f K k=Hp.downF x (f-1) (K.put k y) (2*k+1)):=by
       have :=Hp.downF_go (x:=x) (f:=f) (H:=K) (i:=k) HB.out (by rw [HL.out];exact hc) (by rw [HY.out];exact ha2) (by omega)
       rw [HY.out] at this
       exact this
      have HA2:=Lib.hid ha2
      clear ha2
      refine (heap_ahead_is _ L K (HK.out.drewN _) y x true HA2.out hy (by rw [HM.out];exact hx)).mono ?_
      rintro e w1 ⟨rfl,n1,rfl⟩
      go_wp2_with fail
      refine (heap_put _ L K (HK.out.drewN _) k y (by omega) (by rw [HL.out];omega) hy.1 hy.2).mono ?_
      rintro e w1 ⟨rfl,hp,hf1⟩
      have HP:=Lib.hid hp
      clear hp
      go_wp2_with fail
      go_roundw
      case rel=>
       exact ⟨2*k+1,f-1,K.put k y,by go_num,HP.out,hKr.put hy.1 hy.2,by rw [Hp.put_items];exact HL.out,by rw [Hp.put_at];exact HM.out,by omega,by omega,HE.out.trans HS.out,
        hfr.then_ (((Fr.refl L.fp wr).drewN _).then_ hf1)⟩
      case measure=>simp [intOf];omega
     |false=>
      have HS:Hid (Hp.downF x f K k=K.put k x):=Hp.downF_stop (by rw [HB.out,HY.out,ha2];simp)
      have HA2:=Lib.hid ha2
      clear ha2
      refine (heap_ahead_is _ L K (HK.out.drewN _) y x false HA2.out hy (by rw [HM.out];exact hx)).mono ?_
      rintro e w1 ⟨rfl,n1,rfl⟩
      go_wp2_with fail
      refine (heap_put _ L K (HK.out.drewN _) k x (by omega) (by rw [HL.out];omega) hx.1 (by rw [HM.out];exact hx.2)).mono ?_
      rintro e w1 ⟨rfl,hp,hf1⟩
      have HP:=Lib.hid hp
      clear hp
      go_wp2_with fail
      go_end0
      exact ⟨rfl,by rw [HE.out,HS.out];exact HP.out,hfr.then_ (((Fr.refl L.fp wr).drewN _).then_ hf1)⟩
   ·have hc2':decide (2*(k:Int)+1+1<H.items.length)=false:=decide_eq_false (by omega)
    have hb:K.bestBelow k=2*k+1:=by unfold Hp.bestBelow;rw [if_neg (by rw [l1];omega)]
    have e1:IntKind.i64.wrap (2*(k:Int)+1+1)=2*(k:Int)+1+1:=IntWalk.i64_in _ (by omega)
    have HB:=Lib.hid hb
    have HY:=Lib.hid hye
    have HE1:=Lib.hid e1
    clear hye hb hK l1 l2 e1
    go_wp2_with fail
    have e1:=HE1.out
    go_quiet (fail)
    clear e1
    go_wp2_with fail
    cases ha2:K.aheadB y x with
    |true=>
     have HS:Hid (Hp.downF x f K k=Hp.downF x (f-1) (K.put k y) (2*k+1)):=by
      have :=Hp.downF_go (x:=x) (f:=f) (H:=K) (i:=k) HB.out (by rw [HL.out];exact hc) (by rw [HY.out];exact ha2) (by omega)
      rw [HY.out] at this
      exact this
     have HA2:=Lib.hid ha2
     clear ha2
     refine (heap_ahead_is _ L K (HK.out.drewN _) y x true HA2.out hy (by rw [HM.out];exact hx)).mono ?_
     rintro e w1 ⟨rfl,n1,rfl⟩
     go_wp2_with fail
     refine (heap_put _ L K (HK.out.drewN _) k y (by omega) (by rw [HL.out];omega) hy.1 hy.2).mono ?_
     rintro e w1 ⟨rfl,hp,hf1⟩
     have HP:=Lib.hid hp
     clear hp
     go_wp2_with fail
     go_roundw
     case rel=>
      exact ⟨2*k+1,f-1,K.put k y,by go_num,HP.out,hKr.put hy.1 hy.2,by rw [Hp.put_items];exact HL.out,by rw [Hp.put_at];exact HM.out,by omega,by omega,HE.out.trans HS.out,
       hfr.then_ (((Fr.refl L.fp wr).drewN _).then_ hf1)⟩
     case measure=>simp [intOf];omega
    |false=>
     have HS:Hid (Hp.downF x f K k=K.put k x):=Hp.downF_stop (by rw [HB.out,HY.out,ha2];simp)
     have HA2:=Lib.hid ha2
     clear ha2
     refine (heap_ahead_is _ L K (HK.out.drewN _) y x false HA2.out hy (by rw [HM.out];exact hx)).mono ?_
     rintro e w1 ⟨rfl,n1,rfl⟩
     go_wp2_with fail
     refine (heap_put _ L K (HK.out.drewN _) k x (by omega) (by rw [HL.out];omega) hx.1 (by rw [HM.out];exact hx.2)).mono ?_
     rintro e w1 ⟨rfl,hp,hf1⟩
     have HP:=Lib.hid hp
     clear hp
     go_wp2_with fail
     go_end0
     exact ⟨rfl,by rw [HE.out,HS.out];exact HP.out,hfr.then_ (((Fr.refl L.fp wr).drewN _).then_ hf1)⟩
  ·have HS:Hid (Hp.downF x f K k=K.put k x):=Hp.downF_stop (fun h=>hc (by rw [←l1];exact h.1))
   have hc':¬2*(k:Int)+1<H.items.length:=by omega
   have HK:=Lib.hid hK
   have HL:=Lib.hid l1
   have HM:=Lib.hid l2
   clear hK l1 l2
   go_wp2_with fail
   refine (heap_put _ L K HK.out k x (by omega) (by rw [HL.out];omega) hx.1 (by rw [HM.out];exact hx.2)).mono ?_
   rintro e w1 ⟨rfl,hp,hf1⟩
   have HP:=Lib.hid hp
   clear hp
   go_wp2_with fail
   go_end0
   exact ⟨rfl,by rw [HE.out,HS.out];exact HP.out,hfr.then_ hf1⟩
theorem infoInt:(Tryz.prog.info? 3).map (fun i=>(i.zero,i.size,i.bytes))=some (some (.int .i64 0),1,8):=by kernel_rfl
theorem blks_own {A:Option Addr} {n c:Nat}:∀k,(Value.slice A n c).ownBlock=some k↔k∈blks A:=by
 intro k
 rcases A with _ |ad
 ·simp [Value.ownBlock,blks]
 ·simp [Value.ownBlock,blks,eq_comm]
theorem run_append_int (w:World) (ty:TypeId) (A:Option Addr) (c:Nat) (xs:List Int) (hown:Ints w A c xs) (ad:Addr) (c':Nat) (y:Int) (hy:w.cell? ad=some (.int .i64 y)) (hlen:xs.length<17592186044416):
  ∃g cap w',(Builtin.append_ #[22,22] ty #[.slice A xs.length c, .slice (some ad) 1 c']).run Tryz.prog w= .ok (.slice (some ⟨g,0,none⟩) (xs.length+1) cap) w'∧
   Ints w' (some ⟨g,0,none⟩) cap (xs++[y])∧Fr (blks A) w w'∧(g∈blks A∨g=w.heap.size)∧w.heap.size≤w'.heap.size:=by
 obtain ⟨i0,hi,hz0,hz1,hz2⟩:=info_parts infoInt
 obtain ⟨v',w',hr,h2,h3,h4,h5⟩:=run_append_own_at (P:=Tryz.prog) w 0 22 ty 3 i0 (.int .i64 0) 1 8 Tryz.underlying22 hi hz0 hz1 hz2 rfl (by decide) (.slice A xs.length c) xs.length _ hown
  ad 1 c' [.int .i64 y] rfl (by
   intro j u hj
   match j,hj with
   |0,hj=>
    simp at hj
    subst hj
    simpa [Addr.add] using hy) (by simp [Value.oneCell']) (by unfold maxLen;omega) (by omega) (Nat.zero_le _)
 have hv:∃g cap,v'= .slice (some ⟨g,0,none⟩) (xs.length+1) cap:=by
  rcases h2.2 with ⟨_,h0⟩ |⟨g,cap,cur,hv,_⟩
  ·omega
  ·exact ⟨g,cap,hv⟩
 obtain ⟨g,cap,rfl⟩:=hv
 refine ⟨g,cap,w',hr,?_,?_,?_,h3.size⟩
 ·unfold Ints
  simpa using h2
 ·exact (Fr.refl _ w).grown h3 fun k hk=> .inl ((blks_own k).1 hk)
 ·rcases h5 with h5 |h5
  ·exact .inl ((blks_own g).1 h5.symm)
  ·simp only [Value.ownBlock,Option.some.injEq] at h5
   exact .inr h5
theorem wpList_append_int (w:World) {ops:Array Oper} {rest:List Oper} {o:Oper} {a:Act} {Q:Exit→Act→World→Prop} (hgd:o.guard=none) (s x:Operand)
  (ho:o.op= .call { callee:= .builtin .append,args:=#[s,x],argTypes:=#[22,22] }) (A:Option Addr) (c:Nat) (xs:List Int) (n:Nat) (hs:a.eval s= .slice A n c) (hn:n=xs.length) (hown:Ints w A c xs)
  (ad:Addr) (c':Nat) (y:Int) (hx:a.eval x= .slice (some ad) 1 c') (hy:w.cell? ad=some (.int .i64 y)) (hlen:xs.length<17592186044416)
  (h:∀g cap w',Ints w' (some ⟨g,0,none⟩) cap (xs++[y])→Fr (blks A) w w'→(g∈blks A∨g=w.heap.size)→w.heap.size≤w'.heap.size→wpList Tryz.prog ops Q rest (a.put o.dst (.slice (some ⟨g,0,none⟩) (n+1) cap)) w'):
  wpList Tryz.prog ops Q (o::rest) a w:=by
 subst hn
 refine wpList_plain hgd fun K hK=> ?_
 obtain ⟨g,cap,w',hr,h2,h3,h4,h5⟩:=run_append_int w o.type A c xs hown ad c' y hy hlen
 unfold Oper.wp execOp
 simp only [ho,resolve,invoke,builtin,Sem.run_bind,Sem.run_pure,Result.andThen_ok,List.map_toArray,List.map_cons,List.map_nil,hs,hx,hr]
 exact hK _ _ (h g cap w' h2 h3 h4 h5)
theorem step_append_int {w:World} {ops:Array Oper} {o:Oper} {a:Act} {K:Act→World→Prop} {Q:Exit→Act→World→Prop} {E:Prop} (hgd:o.guard=none) (s x:Operand)
  (ho:o.op= .call { callee:= .builtin .append,args:=#[s,x],argTypes:=#[22,22] }) (A:Option Addr) (c:Nat) (xs:List Int) (n:Nat) (hs:a.eval s= .slice A n c) (hn:n=xs.length) (hown:Ints w A c xs)
  (ad:Addr) (c':Nat) (y:Int) (hx:a.eval x= .slice (some ad) 1 c') (hy:w.cell? ad=some (.int .i64 y)) (hlen:xs.length<17592186044416)
  (h:∀g cap w',Ints w' (some ⟨g,0,none⟩) cap (xs++[y])→Fr (blks A) w w'→(g∈blks A∨g=w.heap.size)→w.heap.size≤w'.heap.size→K (a.put o.dst (.slice (some ⟨g,0,none⟩) (n+1) cap)) w'):
  if Region.wanted o (yielded ops a.tmps)=true then Oper.wp Tryz.prog o a w K Q else E:=by
 have hw:Region.wanted o (yielded ops a.tmps)=true:=by simp [Region.wanted,hgd]
 rw [if_pos hw]
 subst hn
 obtain ⟨g,cap,w',hr,h2,h3,h4,h5⟩:=run_append_int w o.type A c xs hown ad c' y hy hlen
 unfold Oper.wp execOp
 simp only [ho,resolve,invoke,builtin,Sem.run_bind,Sem.run_pure,Result.andThen_ok,List.map_toArray,List.map_cons,List.map_nil,hs,hx,hr]
 exact h g cap w' h2 h3 h4 h5
theorem heap_len (w:World) (L:HpL) (H:Hp) (h:HpAt w L H):
  Calls Tryz.prog 218 #[.pointer (some ⟨L.a,0,none⟩)] w fun e w'=>e= .returned (.int .i64 H.items.length)∧w=w':=by
 have o0:=h.obj.cell 0
 simp at o0
 go_enter Tryz.func218,Tryz.ntmps218
 go_wp2
 go_ret
 exact ⟨rfl,rfl⟩
theorem Hp.isB_true {H:Hp} {x:Int} (h:H.isB x=true):0≤x∧x<H.at_.length:=by simpa [Hp.isB] using h
theorem heap_is_b (w:World) (L:HpL) (H:Hp) (h:HpAt w L H) (x:Int) (b:Bool) (hb:H.isB x=b):
  Calls Tryz.prog 147 #[.pointer (some ⟨L.a,0,none⟩), .int .i64 x] w fun e w'=>e= .returned (.bool b)∧w=w':=by
 subst hb;exact heap_is w L H h x
theorem HpAt.alloc {w:World} {L:HpL} {H:Hp} (h:HpAt w L H) (o:Obj):HpAt (w.alloc o) L H:=
 ⟨h.obj.alloc o,h.items.alloc o,h.at_.alloc o,h.score.alloc o,h.nodup,h.same⟩
theorem HpAt.fr {w w':World} {L:HpL} {H:Hp} {S:List Nat} (h:HpAt w L H) (hf:Fr S w w') (hd:∀k,k∈L.fp→k∉S):HpAt w' L H:=
 ⟨hf.at_ h.obj (hd _ (by simp [HpL.fp])),h.items.fr hf fun k hk=>hd k (by simp [HpL.fp,hk]),h.at_.fr hf fun k hk=>hd k (by simp [HpL.fp,hk]),h.score.fr hf fun k hk=>hd k (by simp [HpL.fp,hk]),h.nodup,h.same⟩
theorem HpAt.lt {w:World} {L:HpL} {H:Hp} (h:HpAt w L H):∀k,k∈L.fp→k<w.heap.size:=by
 intro k hk
 simp only [HpL.fp,List.mem_cons,List.mem_append] at hk
 rcases hk with rfl |hk |hk |hk
 ·exact h.obj.lt
 ·exact h.items.lt k hk
 ·exact h.at_.lt k hk
 ·exact h.score.lt k hk
theorem HpAt.newItems {w w':World} {L:HpL} {H:Hp} (h:HpAt w L H) {g cap:Nat} {items:List Int} (hi:Ints w' (some ⟨g,0,none⟩) cap items) (hf:Fr (blks L.A1) w w') (hg:g∈blks L.A1∨g=w.heap.size):
  HpAt (w'.setCell ⟨L.a,0,none⟩ (.slice (some ⟨g,0,none⟩) items.length cap)) { L with A1:=some ⟨g,0,none⟩,c1:=cap } { H with items:=items }:=by
 obtain ⟨h1,h2,h3⟩:=nodup3 h.nodup
 have hlt:=h.lt
 have hga:g≠L.a:=by
  rcases hg with hg |hg
  ·exact (h1 g hg).1
  ·have :=h.obj.lt;omega
 have hg2:g∉blks L.A2:=by
  rcases hg with hg |hg
  ·exact (h1 g hg).2.1
  ·intro hk;have :=h.at_.lt g hk;omega
 have hg3:g∉blks L.A3:=by
  rcases hg with hg |hg
  ·exact (h1 g hg).2.2
  ·intro hk;have :=h.score.lt g hk;omega
 have hb:blks (some ⟨g,0,none⟩)=[g]:=rfl
 refine ⟨?_,?_,?_,?_,?_,h.same⟩
 ·have :=(hf.at_ h.obj (fun hk=>(h1 _ hk).1 rfl)).set_ 0 (.slice (some ⟨g,0,none⟩) items.length cap)
  simpa using this
 ·exact hi.far (by rw [hb];simpa using fun e=>hga e.symm) _
 ·exact (h.at_.fr hf fun k hk hk'=>(h1 k hk').2.1 hk).far (fun hk=>(h2 _ hk).1 rfl) _
 ·exact (h.score.fr hf fun k hk hk'=>(h1 k hk').2.2 hk).far (fun hk=>(h3 _ hk).1 rfl) _
 ·have hn:=h.nodup
  simp only [HpL.fp,List.nodup_cons,List.mem_append,List.nodup_append,hb,List.mem_singleton,List.not_mem_nil,not_false_eq_true,List.nodup_nil,true_and,and_true] at hn⊢
  obtain ⟨n1,n2,n3,n4⟩:=hn
  refine ⟨?_,n3,?_⟩
  ·rintro (e |hk)
   ·exact hga e.symm
   ·exact n1 (.inr hk)
  ·rintro _ rfl b hb' rfl
   exact hb'.elim hg2 hg3
def Hp.pushF (H:Hp) (x:Int):Hp:=Hp.upF x (H.items.length+1) { H with items:=H.items++[x],at_:=H.at_.set x.toNat H.items.length } H.items.length
def HpL.ext (L L':HpL) (w:World):Prop:=L'.a=L.a∧(∀k,k∈L'.fp→k∈L.fp∨w.heap.size≤k)∧(L.A2.isSome=true→L'.A2.isSome=true)
theorem heap_push_no (w:World) (L:HpL) (H:Hp) (h:HpAt w L H) (x:Int) (hx:H.isB x=false∨H.isB x=true∧0≤H.pl x):
  Calls Tryz.prog 119 #[.pointer (some ⟨L.a,0,none⟩), .int .i64 x] w fun e w'=>e= .returned (.bool false)∧w=w':=by
 have o1:=h.obj.cell 1
 simp at o1
 rcases hx with hb |⟨hb,hp⟩
 ·have HB:=Lib.hid hb
  have HH:=Lib.hid h
  clear hb h
  go_enter Tryz.func119,Tryz.ntmps119
  go_wp2_with fail
  refine (heap_is_b _ L H HH.out x false HB.out).mono ?_
  rintro e w1 ⟨rfl,rfl⟩
  go_wp2_with fail
  go_ret
  exact ⟨rfl,rfl⟩
 ·obtain ⟨h0,h1⟩:=Hp.isB_true hb
  obtain ⟨g,hg,ci,fi⟩:=h.at_at h0 h1
  rw [hg] at o1
  have HB:=Lib.hid hb
  have HH:=Lib.hid h
  clear hb h
  go_enter Tryz.func119,Tryz.ntmps119
  go_wp2_with fail
  refine (heap_is_b _ L H HH.out x true HB.out).mono ?_
  rintro e w1 ⟨rfl,rfl⟩
  go_wp2_with fail
  go_ret
  exact ⟨rfl,rfl⟩
theorem heap_push_yes (w:World) (L:HpL) (H:Hp) (h:HpAt w L H) (hr:H.InR) (x:Int) (hb:H.isB x=true) (hp:H.pl x<0) (hlen:H.items.length<1048576):
  Calls Tryz.prog 119 #[.pointer (some ⟨L.a,0,none⟩), .int .i64 x] w fun e w'=>e= .returned (.bool true)∧∃L',HpAt w' L' (H.pushF x)∧L.ext L' w∧Fr L.fp w w':=by
 have o0:=h.obj.cell 0
 have o1:=h.obj.cell 1
 simp at o0 o1
 obtain ⟨h0,h1⟩:=Hp.isB_true hb
 obtain ⟨g2,hg2,ci,fi⟩:=h.at_at h0 h1
 rw [hg2] at o1
 have oa:=h.obj.frozen 0
 have HB:=Lib.hid hb
 have HH:=Lib.hid h
 have HR:=Lib.hid hr
 have HG2:=Lib.hid hg2
 have hlt:=h.obj.lt
 clear hb h hr hg2
 go_enter Tryz.func119,Tryz.ntmps119
 go_wp2_with fail
 refine (heap_is_b _ L H HH.out x true HB.out).mono ?_
 rintro e w1 ⟨rfl,rfl⟩
 have HN1:Hid (L.a∉blks L.A1):=fun hk=>((nodup3 HH.out.nodup).1 _ hk).1 rfl
 go_wp2_with (at_builtin;refine wpList_append_int _ rfl _ _ rfl L.A1 L.c1 H.items _ rfl rfl (HH.out.items.alloc _) ⟨w.heap.size,0,none⟩ 1 x rfl (by simp) (by omega) ?_;intro g cap w2 hi2 hf2 hg2 hs2;have q2:=hf2.at_ (HH.out.obj.alloc _) HN1.out;have q3:=q2.cell 0;have q4:=q2.frozen 0;simp at q3;have HI:=Lib.hid hi2;have HF:=Lib.hid hf2;have HQ:=Lib.hid hg2;have HS:=Lib.hid hs2;clear q2 hi2 hf2 hg2 hs2)
 have hN:HpAt (w2.setCell ⟨L.a,0,none⟩ (.slice (some ⟨g,0,none⟩) (H.items.length+1) cap)) { L with A1:=some ⟨g,0,none⟩,c1:=cap } { H with items:=H.items++[x] }:=by
  have :=HpAt.newItems (HH.out.alloc _) HI.out HF.out HQ.out
  simpa using this
 have hF:Fr L.fp w (w2.setCell ⟨L.a,0,none⟩ (.slice (some ⟨g,0,none⟩) (H.items.length+1) cap)):=
  (((Fr.refl L.fp w).alloc _).trans HF.out (fun k hk=> .inl (by simp [HpL.fp,hk]))).setCell (.inl (by simp [HpL.fp])) _
 have hX:∀k,k∈({ L with A1:=some ⟨g,0,none⟩,c1:=cap }:HpL).fp→k∈L.fp∨w.heap.size≤k:=by
  intro k hk
  simp only [HpL.fp,List.mem_cons,List.mem_append,blks,Option.map_some,Option.toList_some,List.not_mem_nil,or_false] at hk⊢
  rcases hk with hk |hk |hk |hk
  ·exact .inl (.inl hk)
  ·rcases HQ.out with hq |hq
   ·exact .inl (.inr (.inl (by rw [hk];exact hq)))
   ·right;rw [hk,hq];simp
  ·exact .inl (.inr (.inr (.inl hk)))
  ·exact .inl (.inr (.inr (.inr hk)))
 obtain ⟨W,hW⟩:∃W,W=w2.setCell ⟨L.a,0,none⟩ (.slice (some ⟨g,0,none⟩) (H.items.length+1) cap):=⟨_,rfl⟩
 rw [←hW] at hN hF⊢
 clear hW o0 o1 ci fi oa q3 q4
 have p0:=hN.obj.cell 0
 have p1:=hN.obj.cell 1
 simp [HG2.out] at p0 p1
 have hg2:=HG2.out
 obtain ⟨g',hg',ci,fi⟩:=hN.at_at (i:=x) h0 h1
 simp only [hg2,Option.some.injEq,Addr.mk.injEq,and_true] at hg'
 subst hg'
 have hM:=hN.set2 (g:=g2) hg2 x.toNat H.items.length
 have HM:=Lib.hid hM
 have HF:=Lib.hid hF
 have HX:=Lib.hid hX
 clear hM hF hX hN hg2
 have hlen':(H.items.length:Int)<1048576:=by omega
 go_region
 obtain ⟨V,hV⟩:∃V,V=(W.setCell ⟨g2,x.toNat,none⟩ (.int .i64 H.items.length)).drew:=⟨_,rfl⟩
 rw [←hV]
 have hM:HpAt V { L with A1:=some ⟨g,0,none⟩,c1:=cap } { H with items:=H.items++[x],at_:=H.at_.set x.toNat H.items.length }:=by
  rw [hV];exact HM.out.drew
 have hF2:Fr L.fp w V:=by
  rw [hV];exact (HF.out.setCell (.inl (by simp [HpL.fp,HG2.out,blks])) _).drew
 clear hV p0 p1 ci fi HM HF hp
 have p1:=hM.obj.cell 1
 simp [HG2.out] at p1
 have hg2:=HG2.out
 obtain ⟨g',hg',ci,_⟩:=hM.at_at (i:=x) h0 (by simpa using h1)
 simp only [hg2,Option.some.injEq,Addr.mk.injEq,and_true] at hg'
 subst hg'
 have hx2:x.toNat<H.at_.length:=by omega
 simp only [Hp.pl,List.getElem!_eq_getElem?_getD,List.getElem?_set_self hx2,Option.getD_some] at ci
 have HM:=Lib.hid hM
 have HF:=Lib.hid hF2
 clear hM hF2 hg2
 go_wp2_with fail
 refine (heap_up _ _ _ HM.out ?_ H.items.length (by simp)).mono ?_
 ·intro j hj
  have hj':j<H.items.length+1:=by simpa using hj
  simp only [List.length_set]
  by_cases e:j<H.items.length
  ·have :(H.items++[x])[j]! =H.items[j]! :=by simp [List.getElem!_eq_getElem?_getD,List.getElem?_append_left e]
   rw [this];exact HR.out j e
  ·have e':j=H.items.length:=by omega
   subst e'
   have :(H.items++[x])[H.items.length]! =x:=by simp
   rw [this];exact ⟨h0,h1⟩
 rintro e w1 ⟨rfl,hp,hf1⟩
 have HP:=Lib.hid hp
 have HF1:=Lib.hid hf1
 clear hp hf1 p1 ci
 go_wp2_with fail
 go_ret
 refine ⟨rfl,{ L with A1:=some ⟨g,0,none⟩,c1:=cap },?_,⟨rfl,HX.out,id⟩,?_⟩
 ·have :=HP.out
  have e1:Hp.it { H with items:=H.items++[x],at_:=H.at_.set x.toNat H.items.length } (H.items.length:Nat)=x:=by simp [Hp.it]
  rw [e1] at this
  exact this
 ·exact HF.out.trans HF1.out HX.out
theorem heap_pop_no (w:World) (L:HpL) (H:Hp) (h:HpAt w L H) (hn:H.items=[]):
  Calls Tryz.prog 204 #[.pointer (some ⟨L.a,0,none⟩)] w fun e w'=>e= .returned (.tuple #[.int .i64 0, .bool false])∧w=w':=by
 have hl:=heap_len w L H h
 rw [hn] at hl
 have HL:=Lib.hid hl
 clear hl h
 go_enter Tryz.func204,Tryz.ntmps204
 go_wp2_with fail
 refine HL.out.mono ?_
 rintro e w1 ⟨rfl,rfl⟩
 go_wp2_with fail
 go_ret2
 exact ⟨rfl,rfl⟩
def Hp.popF (H:Hp):Hp:=
 let n:=H.items.length-1
 let K:Hp:={ H with items:=H.items.take n,at_:=H.at_.set (H.it 0).toNat (-1) }
 if n=0 then K else Hp.downF (H.it n) n (K.put 0 (H.it n)) 0
theorem HpAt.cut {w:World} {L:HpL} {H:Hp} (h:HpAt w L H) (k:Nat) (hk:k≤H.items.length):HpAt (w.setCell ⟨L.a,0,none⟩ (.slice L.A1 k L.c1)) L { H with items:=H.items.take k }:=by
 obtain ⟨h1,h2,h3⟩:=nodup3 h.nodup
 refine ⟨?_,?_,?_,?_,h.nodup,h.same⟩
 ·have :=h.obj.set_ 0 (.slice L.A1 k L.c1)
  have e:(H.items.take k).length=k:=by simp;omega
  simpa [e] using this
 ·exact (h.items.take_ k).far (fun hk=>(h1 _ hk).1 rfl) _
 ·exact h.at_.far (fun hk=>(h2 _ hk).1 rfl) _
 ·exact h.score.far (fun hk=>(h3 _ hk).1 rfl) _
theorem heap_pop_yes (w:World) (L:HpL) (H:Hp) (h:HpAt w L H) (hr:H.InR) (n:Nat) (hn:H.items.length=n+1) (hlen:H.items.length<1048576):
  Calls Tryz.prog 204 #[.pointer (some ⟨L.a,0,none⟩)] w fun e w'=>e= .returned (.tuple #[.int .i64 (H.it 0), .bool true])∧HpAt w' L H.popF∧Fr L.fp w w':=by
 have o0:=h.obj.cell 0
 have o1:=h.obj.cell 1
 simp at o0 o1
 obtain ⟨g,hg,c0,_⟩:=h.items_at (i:=0) (by omega) (by omega)
 obtain ⟨g',hg',cn,_⟩:=h.items_at (i:=n) (by omega) (by omega)
 rw [hg] at hg' o0
 cases hg'
 have hx:=hr.it (i:=0) (by omega) (by omega)
 have hy:=hr.it (i:=n) (by omega) (by omega)
 obtain ⟨g2,hg2,cx,fx⟩:=h.at_at hx.1 hx.2
 rw [hg2] at o1
 have hl:=heap_len w L H h
 rw [hn] at hl o0
 have hcap:n+1≤L.c1:=by
  rcases h.items.form with ⟨_,_,h0⟩ |⟨_,_,_,h0,_⟩
  ·rw [h0] at hn;simp at hn
  ·omega
 have hne:g≠g2:=fun e=>((nodup3 h.nodup).1 g (by simp [hg,blks])).2.1 (by simp [hg2,blks,e])
 have hna:L.a≠g2:=fun e=>((nodup3 h.nodup).2.1 g2 (by simp [hg2,blks])).1 e.symm
 have oa:=h.obj.frozen 0
 have hM:=(h.cut n (by omega)).set2 (g:=g2) hg2 (H.it 0).toNat (-1)
 rw [hg] at hM
 have hF:Fr L.fp w ((w.setCell ⟨L.a,0,none⟩ (.slice (some ⟨g,0,none⟩) n L.c1)).setCell ⟨g2,(H.it 0).toNat,none⟩ (.int .i64 (-1))):=
  ((Fr.refl L.fp w).setCell (.inl (by simp [HpL.fp])) _).setCell (.inl (by simp [HpL.fp,hg2,blks])) _
 have HM:=Lib.hid hM
 have HF:=Lib.hid hF
 have HL:=Lib.hid hl
 have HG:=Lib.hid hg
 have HG2:=Lib.hid hg2
 have HR:=Lib.hid hr
 have HN:=Lib.hid hn
 simp only [Int.toNat_zero,Int.toNat_natCast] at c0 cn
 obtain ⟨x,hxe⟩:∃x,H.it 0=x:=⟨_,rfl⟩
 obtain ⟨y,hye⟩:∃y,H.it n=y:=⟨_,rfl⟩
 rw [hxe] at c0 cx fx hx HM HF⊢
 rw [hye] at cn hy
 have HXE:=Lib.hid hxe
 have HYE:=Lib.hid hye
 have hn1:(n:Int)+1<1048576:=by omega
 clear hM hF hl hg hg2 hr hn hxe hye h hlen
 go_enter Tryz.func204,Tryz.ntmps204
 go_wp2_with fail
 refine HL.out.mono ?_
 rintro e w1 ⟨rfl,rfl⟩
 have ez:((n:Int)+1==0)=false:=beq_eq_false_iff_ne.2 (by omega)
 have ez':(((n+1:Nat):Int)==0)=false:=beq_eq_false_iff_ne.2 (by omega)
 go_wp2_with fail
 go_region
 go_wp2_with fail
 go_region
 obtain ⟨V,hV⟩:∃V,V=((w.setCell ⟨L.a,0,none⟩ (.slice (some ⟨g,0,none⟩) n L.c1)).setCell ⟨g2,x.toNat,none⟩ (.int .i64 (-1))).drew.drew:=⟨_,rfl⟩
 rw [←hV]
 have hM:HpAt V L { H with items:=H.items.take n,at_:=H.at_.set x.toNat (-1) }:=by rw [hV];exact HM.out.drew.drew
 have hF:Fr L.fp w V:=by rw [hV];exact HF.out.drew.drew
 clear hV HM HF o0 o1 c0 cn cx fx oa
 have hlen:(H.items.take n).length=n:=by have :=HN.out;simp;omega
 have HM:=Lib.hid hM
 have HF:=Lib.hid hF
 have HLN:=Lib.hid hlen
 clear hM hF hlen
 by_cases hz:n=0
 ·subst hz
  have HP:Hid (H.popF={ H with items:=H.items.take 0,at_:=H.at_.set x.toNat (-1) }):=by
   show _=_
   unfold Hp.popF
   rw [HN.out,HXE.out]
   simp
  go_wp2_with fail
  go_ret2
  exact ⟨rfl,by rw [HP.out];exact HM.out,HF.out⟩
 ·have hn0:0<n:=by omega
  have HP:Hid (H.popF=Hp.downF y n (Hp.put { H with items:=H.items.take n,at_:=H.at_.set x.toNat (-1) } 0 y) 0):=by
   show _=_
   unfold Hp.popF
   rw [HN.out,HXE.out]
   simp only [Nat.add_sub_cancel]
   rw [if_neg hz,HYE.out]
  have hK:Hp.InR (Hp.put { H with items:=H.items.take n,at_:=H.at_.set x.toNat (-1) } 0 y):=by
   refine Hp.InR.put (fun j hj=> ?_) hy.1 (by simpa using hy.2)
   have hl:=HLN.out
   have hn':=HN.out
   have e:(H.items.take n)[j]! =H.items[j]! :=by
    simp only [List.getElem!_eq_getElem?_getD,List.getElem?_take]
    rw [if_pos (by simp only [hl] at hj;exact hj)]
   simp only [e,List.length_set]
   exact HR.out j (by simp only [hl] at hj;omega)
  have HK:=Lib.hid hK
  clear hK hz ez ez'
  go_wp2_with fail
  refine (heap_put _ L _ HM.out 0 y (by omega) (by rw [show ({ H with items:=H.items.take n,at_:=H.at_.set x.toNat (-1) }:Hp).items.length=n from HLN.out];omega) hy.1 (by simpa using hy.2)).mono ?_
  rintro e w1 ⟨rfl,hp,hf1⟩
  have HP1:=Lib.hid hp
  have HF1:=Lib.hid hf1
  have hpl:(Hp.put { H with items:=H.items.take n,at_:=H.at_.set x.toNat (-1) } 0 y).items.length=n:=by rw [Hp.put_items];exact HLN.out
  have hpit:(Hp.put { H with items:=H.items.take n,at_:=H.at_.set x.toNat (-1) } 0 y).it (0:Nat)=y:=by
   have hl:=HLN.out
   have :0<(H.items.take n).length:=by omega
   simp [Hp.it,Hp.put,List.getElem!_eq_getElem?_getD,List.getElem?_set_self this]
  have HPL:=Lib.hid hpl
  have HPI:=Lib.hid hpit
  clear hp hf1 hpl hpit
  go_wp2_with fail
  refine (heap_down _ L _ HP1.out HK.out 0 (by rw [HPL.out];omega) (by rw [HPL.out];omega)).mono ?_
  rintro e w2 ⟨rfl,hp,hf1⟩
  have HP2:=Lib.hid hp
  have HF2:=Lib.hid hf1
  clear hp hf1
  go_wp2_with fail
  go_ret2
  refine ⟨rfl,?_,(HF.out.then_ HF1.out).then_ HF2.out⟩
  rw [HP.out]
  have :=HP2.out
  rw [HPI.out,HPL.out] at this
  exact this
def Hp.raiseF (H:Hp) (x b:Int):Hp:=
 if H.isB x=true∧0≤b∧b≤1099511627776∧H.sc x≤1125899906842624-b then
  let K:Hp:={ H with score:=H.score.set x.toNat (H.sc x+b) }
  if 0≤H.pl x then Hp.upF (K.it (H.pl x)) ((H.pl x).toNat+1) K (H.pl x).toNat else K
 else H
theorem heap_raise_no (w:World) (L:HpL) (H:Hp) (h:HpAt w L H) (x b:Int) (hno:¬(H.isB x=true∧0≤b∧b≤1099511627776∧H.sc x≤1125899906842624-b)):
  Calls Tryz.prog 215 #[.pointer (some ⟨L.a,0,none⟩), .int .i64 x, .int .i64 b] w fun e w'=>e= .returned (.tuple #[])∧w=w':=by
 have o2:=h.obj.cell 2
 simp at o2
 have hs:=h.same
 cases hb:H.isB x with
 |false=>
  have HB:=Lib.hid hb
  have HH:=Lib.hid h
  clear hb h hno hs
  go_enter Tryz.func215,Tryz.ntmps215
  go_wp2_with fail
  refine (heap_is_b _ L H HH.out x false HB.out).mono ?_
  rintro e w1 ⟨rfl,rfl⟩
  go_wp2_with fail
  refine bodyPost_ret (results_none rfl _ _ _) rfl ?_
  exact ⟨rfl,rfl⟩
 |true=>
  obtain ⟨h0,h1⟩:=Hp.isB_true hb
  obtain ⟨g,hg,ci⟩:=h.cellS h0 h1
  rw [hg] at o2
  have h2:x<H.score.length:=by omega
  obtain ⟨s,hse⟩:∃s,H.sc x=s:=⟨_,rfl⟩
  rw [hse] at ci hno
  have HB:=Lib.hid hb
  have HH:=Lib.hid h
  by_cases hb0:b<0
  ·clear hb h hs hno
   go_enter Tryz.func215,Tryz.ntmps215
   go_wp2_with fail
   refine (heap_is_b _ L H HH.out x true HB.out).mono ?_
   rintro e w1 ⟨rfl,rfl⟩
   go_wp2_with fail
   refine bodyPost_ret (results_none rfl _ _ _) rfl ?_
   exact ⟨rfl,rfl⟩
  ·by_cases hb1:1099511627776<b
   ·clear hb h hs hno
    go_enter Tryz.func215,Tryz.ntmps215
    go_wp2_with fail
    refine (heap_is_b _ L H HH.out x true HB.out).mono ?_
    rintro e w1 ⟨rfl,rfl⟩
    go_wp2_with fail
    refine bodyPost_ret (results_none rfl _ _ _) rfl ?_
    exact ⟨rfl,rfl⟩
   ·have hb2:1125899906842624-b<s:=by
     rcases Int.lt_or_le (1125899906842624-b) s with h |h
     ·exact h
     ·exact absurd ⟨hb,by omega,by omega,h⟩ hno
    clear hb h hs hno
    go_enter Tryz.func215,Tryz.ntmps215
    go_wp2_with fail
    refine (heap_is_b _ L H HH.out x true HB.out).mono ?_
    rintro e w1 ⟨rfl,rfl⟩
    go_wp2_with fail
    refine bodyPost_ret (results_none rfl _ _ _) rfl ?_
    exact ⟨rfl,rfl⟩
theorem HpAt.set3 {w:World} {L:HpL} {H:Hp} (h:HpAt w L H) {g:Nat} (hg:L.A3=some ⟨g,0,none⟩) (i:Nat) (x:Int):
  HpAt (w.setCell ⟨g,i,none⟩ (.int .i64 x)) L { H with score:=H.score.set i x }:=by
 obtain ⟨h1,h2,h3⟩:=nodup3 h.nodup
 have hm:g∈blks L.A3:=by simp [hg,blks]
 refine ⟨?_,?_,?_,?_,h.nodup,by simpa using h.same⟩
 ·have :=h.obj.far (p:=⟨g,i,none⟩) (fun e=>(h3 g hm).1 e.symm) (.int .i64 x)
  simpa using this
 ·exact h.items.far (fun hk=>(h3 g hm).2.1 hk) _
 ·exact h.at_.far (fun hk=>(h3 g hm).2.2 hk) _
 ·have :=h.score
  rw [hg] at this⊢
  exact this.set_ i x
theorem heap_raise_yes (w:World) (L:HpL) (H:Hp) (h:HpAt w L H) (hr:H.InR) (x b:Int) (hb:H.isB x=true) (hb0:0≤b) (hb1:b≤1099511627776) (hb2:H.sc x≤1125899906842624-b) (hs0:0≤H.sc x)
  (hpl:H.pl x<H.items.length):
  Calls Tryz.prog 215 #[.pointer (some ⟨L.a,0,none⟩), .int .i64 x, .int .i64 b] w fun e w'=>e= .returned (.tuple #[])∧HpAt w' L (H.raiseF x b)∧Fr L.fp w w':=by
 have o1:=h.obj.cell 1
 have o2:=h.obj.cell 2
 simp at o1 o2
 have hs:=h.same
 obtain ⟨h0,h1⟩:=Hp.isB_true hb
 obtain ⟨g,hg,ci⟩:=h.cellS h0 h1
 obtain ⟨g2,hg2,cx,_⟩:=h.at_at h0 h1
 have fi:w.frozen? ⟨g,x.toNat,none⟩=false:=by
  have :=h.score
  rw [hg] at this
  exact this.frozen _
 rw [hg] at o2
 rw [hg2] at o1
 have hne:g2≠g:=fun e=>((nodup3 h.nodup).2.1 g2 (by simp [hg2,blks])).2.2 (by simp [hg,blks,e])
 have hna:L.a≠g:=fun e=>((nodup3 h.nodup).2.2 g (by simp [hg,blks])).1 e.symm
 have h2:x<H.score.length:=by omega
 have hM:=h.set3 hg x.toNat (H.sc x+b)
 have hF:Fr L.fp w (w.setCell ⟨g,x.toNat,none⟩ (.int .i64 (H.sc x+b))):=(Fr.refl L.fp w).setCell (.inl (by simp [HpL.fp,hg,blks])) _
 have hD:H.raiseF x b=if 0≤H.pl x then Hp.upF (Hp.it { H with score:=H.score.set x.toNat (H.sc x+b) } (H.pl x)) ((H.pl x).toNat+1) { H with score:=H.score.set x.toNat (H.sc x+b) } (H.pl x).toNat else { H with score:=H.score.set x.toNat (H.sc x+b) }:=by
  unfold Hp.raiseF
  rw [if_pos ⟨hb,hb0,hb1,hb2⟩]
 obtain ⟨s,hse⟩:∃s,H.sc x=s:=⟨_,rfl⟩
 obtain ⟨p,hpe⟩:∃p,H.pl x=p:=⟨_,rfl⟩
 rw [hse] at ci hb2 hs0 hM hF hD
 rw [hpe] at cx hpl hD
 have cx2:(w.setCell ⟨g,x.toNat,none⟩ (.int .i64 (s+b))).cell? ⟨g2,x.toNat,none⟩=some (.int .i64 p):=by
  rw [World.cell?_setCell_other _ _ _ _ (by simp only [ne_eq,Addr.mk.injEq,not_and];exact fun e=>absurd e.symm hne)];exact cx
 have o12:(w.setCell ⟨g,x.toNat,none⟩ (.int .i64 (s+b))).cell? ⟨L.a,1,none⟩=some (.slice (some ⟨g2,0,none⟩) H.at_.length L.c2):=by
  rw [World.cell?_setCell_other _ _ _ _ (by simp only [ne_eq,Addr.mk.injEq,not_and];exact fun e=>absurd e.symm hna)];exact o1
 have HB:=Lib.hid hb
 have HH:=Lib.hid h
 have HM:=Lib.hid hM
 have HF:=Lib.hid hF
 have HD:=Lib.hid hD
 have HR:=Lib.hid hr
 have HC:=Lib.hid cx2
 have HO:=Lib.hid o12
 clear hb h hM hF hD hse hpe hr hs cx o1 cx2 o12 hne hna hg hg2
 go_enter Tryz.func215,Tryz.ntmps215
 go_wp2_with fail
 refine (heap_is_b _ L H HH.out x true HB.out).mono ?_
 rintro e w1 ⟨rfl,rfl⟩
 obtain ⟨V,hV⟩:∃V,V=w.setCell ⟨g,x.toNat,none⟩ (.int .i64 (s+b)):=⟨_,rfl⟩
 have cx2:=HC.out
 have o12:=HO.out
 have hbb: -1099511627776≤b:=by omega
 by_cases hp0:0≤p
 ·have hpn:(p.toNat:Int)=p:=by omega
  go_wp2_with fail
  have e3:(Value.int .i64 p)= .int .i64 (p.toNat:Int):=by rw [hpn]
  rw [e3]
  refine (heap_up _ L _ HM.out (fun j hj=>HR.out j hj) p.toNat (by show p.toNat<H.items.length;omega)).mono ?_
  rintro e w2 ⟨rfl,hp,hf1⟩
  have HP:=Lib.hid hp
  have HF1:=Lib.hid hf1
  clear hp hf1 hpn e3
  go_wp2_with fail
  go_end0
  refine ⟨rfl,?_,HF.out.then_ HF1.out⟩
  rw [HD.out,if_pos hp0]
  have :=HP.out
  rw [show ((p.toNat:Int))=p from by omega] at this
  exact this
 ·go_wp2_with fail
  go_end0
  refine ⟨rfl,?_,HF.out⟩
  rw [HD.out,if_neg (by omega)]
  exact HM.out
def growTo (was n:Int):Int:=was+min (max n 0) (262144-was)
theorem heap_size (w:World) (was n:Int) (h0:0≤was) (h1:was≤262144):
  Calls Tryz.prog 146 #[.int .i64 was, .int .i64 n] w fun e w'=>e= .returned (.int .i64 (growTo was n))∧w=w':=by
 by_cases hn0:n<0
 ·go_enter Tryz.func146,Tryz.ntmps146
  go_wp2
  go_ret
  exact ⟨ret_int (by unfold growTo;omega),rfl⟩
 ·by_cases hb:262144-was<n
  ·go_enter Tryz.func146,Tryz.ntmps146
   go_wp2
   go_ret
   exact ⟨ret_int (by unfold growTo;omega),rfl⟩
  ·go_enter Tryz.func146,Tryz.ntmps146
   go_wp2
   go_ret
   exact ⟨ret_int (by unfold growTo;omega),rfl⟩
end Go.Proofs.YtjmmpfjcpdepjaaGreatDoor
namespace Go.Proofs.YtjmmpfjcpdepjaaGreatDoor
open Go
section
variable {P:Program} {ops:Array Oper} {Q:Exit→Act→World→Prop} {md:Region.Mode} {S:World→Prop} {k:Nat}
def Till (S:World→Prop) (k:Nat) (listed:Array Bool) (w:World):Prop:=listed.getD k false=true∨S w
def wpAnyC (P:Program) (md:Region.Mode) (ops:Array Oper) (Q:Exit→Act→World→Prop) (S:World→Prop) (k:Nat):Nat→Array Bool→Act→World→Prop
 |0,listed,a,w=>Region.ready md ops listed=[]∧Q .normal a w
 |fuel+1,listed,a,w=>
  (Region.ready md ops listed=[]→Q .normal a w)∧
  ∀i∈Region.ready md ops listed,wpOp P ops Q i (fun a' w'=>Till S k (listed.setIfInBounds i true) w'∧wpAnyC P md ops Q S k fuel (listed.setIfInBounds i true) a' w') a w
theorem wpAny_of_C:∀(fuel:Nat) (listed:Array Bool) (a:Act) (w:World),wpAnyC P md ops Q S k fuel listed a w→wpAny P md ops Q fuel listed a w
 |0,_,_,_,h=>h
 |fuel+1,_,_,_,h=>⟨h.1,fun i hi=>wpOp_mono (fun a' w' h'=>wpAny_of_C fuel _ a' w' h'.2) (h.2 i hi)⟩
def Chain (md:Region.Mode) (ops:Array Oper) (C:List Nat) (i:Nat) (listed:Array Bool):Prop:=
 ∀x,x∈C→listed.getD x true=false∧(x=i∨∃y,y∈C∧∃ox e,ops[x]? =some ox∧e∈ox.after∧Region.binds md e=true∧e.on=y)
def chainB (md:Region.Mode) (ops:Array Oper) (C:List Nat) (i k:Nat) (listed:Array Bool):Bool:=
 C.contains k&&C.all fun x=> !listed.getD x true&&(x==i ||C.any fun y=>match ops[x]? with |some ox=>ox.after.any (fun e=>Region.binds md e&&e.on==y) |none=>false)
theorem chain_of {C:List Nat} {i:Nat} {listed:Array Bool} (h:chainB md ops C i k listed=true):k∈C∧Chain md ops C i listed:=by
 unfold chainB at h
 rw [Bool.and_eq_true] at h
 refine ⟨by simpa using h.1,fun x hx=> ?_⟩
 have :=List.all_eq_true.1 h.2 x hx
 rw [Bool.and_eq_true] at this
 refine ⟨by simpa using this.1,?_⟩
 rcases Bool.or_eq_true_iff.1 this.2 with h1 |h1
 ·exact .inl (by simpa using h1)
 ·right
  obtain ⟨y,hy,h2⟩:=List.any_eq_true.1 h1
  cases hox:ops[x]? with
  |none=>rw [hox] at h2;cases h2
  |some ox=>
   rw [hox] at h2
   obtain ⟨e,he,hb⟩:=Array.any_eq_true'.1 h2
   simp only [Bool.and_eq_true,beq_iff_eq] at hb
   exact ⟨y,hy,ox,e,rfl,he,hb.1,hb.2⟩
theorem Chain.not_ready {C:List Nat} {i j:Nat} {listed:Array Bool} (h:Chain md ops C i listed) (hj:j∈C) (hji:j≠i):j∉Region.ready md ops listed:=by
 intro hr
 obtain ⟨_,hw⟩:=h j hj
 obtain ⟨_,oj,hoj,hall⟩:=mem_ready.1 hr
 rcases hw with hw |⟨y,hy,ox,e,hox,he,hb,hon⟩
 ·exact hji hw
 ·rw [hoj] at hox
  cases hox
  have h1:=hall e he hb
  have h2:=(h y hy).1
  rw [hon] at h1
  rcases Nat.lt_or_ge y listed.size with hl |hl
  ·simp [hl] at h1 h2;rw [h2] at h1;cases h1
  ·simp [Array.getElem?_eq_none hl] at h2
theorem Chain.step {C:List Nat} {i j:Nat} {listed:Array Bool} (h:Chain md ops C i listed) (hj:j∉C):Chain md ops C i (listed.setIfInBounds j true):=by
 intro x hx
 obtain ⟨h1,h2⟩:=h x hx
 refine ⟨?_,h2⟩
 have hne:j≠x:=by rintro rfl;exact hj hx
 rw [getD_set_ne true hne]
 exact h1
theorem Chain.k_not {C:List Nat} {i:Nat} {listed:Array Bool} (h:Chain md ops C i listed) (hk:k∈C):listed.getD k false=false:=by
 have :=(h k hk).1
 rcases Nat.lt_or_ge k listed.size with hl |hl
 ·simp [hl] at this⊢;exact this
 ·simp [Array.getElem?_eq_none hl] at this
theorem wpAnyC_first {i:Nat} {oi:Oper} {v:Value} {C:List Nat} (hi:ops[i]? =some oi) (hsel:∀(j:Nat) (o:Oper) cs b,ops[j]? =some o→o.op≠ .select cs b)
  (hki:k≠i) (hkC:k∈C) (hQ:∀c a w,Q (.panic c) (a.put oi.dst v) w→Q (.panic c) a w):
  ∀(fuel:Nat) (listed:Array Bool) (a:Act) (w:World),
   (∀j oj,ops[j]? =some oj→j≠i→listed.getD j true=false→(∀e∈oj.after,Region.binds md e=true→e.on≠i)→oi.apart ops oj=true)→
   Chain md ops C i listed→i∈Region.ready md ops listed→YieldsIf P ops S oi v a→S w→
   wpAnyC P md ops Q S k fuel (listed.setIfInBounds i true) (a.put oi.dst v) w→wpAnyC P md ops Q S k (fuel+1) listed a w:=by
 intro fuel
 induction fuel with
 |zero=>
  intro listed a w _ _ hr hy hS H
  refine ⟨fun h=>(by rw [h] at hr;cases hr),fun j hj=> ?_⟩
  by_cases hji:j=i
  ·subst hji;exact hy.wpOp hi hS ⟨.inr hS,H⟩
  ·have :=ready_mono hj hji
   rw [H.1] at this
   cases this
 |succ fuel ih=>
  intro listed a w hfree hch hr hy hS H
  refine ⟨fun h=>(by rw [h] at hr;cases hr),fun j hj=> ?_⟩
  by_cases hji:j=i
  ·subst hji;exact hy.wpOp hi hS ⟨.inr hS,H⟩
  ·have h1:=H.2 j (ready_mono hj hji)
   have hjC:j∉C:=fun hC=>hch.not_ready hC hji hj
   obtain ⟨hjun,oj,hoj,hall⟩:=mem_ready.1 hj
   have hnot:∀e∈oj.after,Region.binds md e=true→e.on≠i:=fun e he hb heq=>by
    have h1:=hall e he hb
    have h0:=(mem_ready.1 hr).1
    rw [heq] at h1
    rcases Nat.lt_or_ge i listed.size with h' |h'
    ·simp [h'] at h0 h1;rw [h0] at h1;cases h1
    ·simp [Array.getElem?_eq_none h'] at h1
   have h2:=wpOp_putIf hoj (hfree j oj hoj hji hjun hnot) (fun cs b=>hsel i oi cs b hi) (fun cs b=>hsel j oj cs b hoj) hQ hy h1
   have hfree':∀x ox,ops[x]? =some ox→x≠i→(listed.setIfInBounds j true).getD x true=false→
     (∀e∈ox.after,Region.binds md e=true→e.on≠i)→oi.apart ops ox=true:=fun x ox hx hxi hun hno=>by
    refine hfree x ox hx hxi ?_ hno
    by_cases hjx:j=x
    ·subst hjx;exact hjun
    ·rw [getD_set_ne true hjx] at hun;exact hun
   have hch':=hch.step hjC
   refine wpOp_mono (fun a' w' h3=> ?_) h2
   have hS':S w':=by
    rcases h3.2.1 with h4 |h4
    ·have h5:=hch'.k_not hkC
     rw [Array.setIfInBounds_comm _ _ (Ne.symm hji),getD_set_ne false (Ne.symm hki),h5] at h4
     cases h4
    ·exact h4
   refine ⟨.inr hS',ih (listed.setIfInBounds j true) a' w' hfree' hch' (ready_mono hr (Ne.symm hji)) h3.1 hS' ?_⟩
   rw [Array.setIfInBounds_comm _ _ hji]
   exact h3.2.2
theorem wpAnyC_take {i:Nat} {oi:Oper} {v:Value} {fuel:Nat} {listed:Array Bool} {a:Act} {w:World} (C:List Nat) (hi:ops[i]? =some oi)
  (hs:Region.noSelect ops=true) (hf:Region.free md ops listed i=true) (hr:(Region.ready md ops listed).contains i=true) (hc:(chainB md ops C i k listed&&k !=i)=true)
  (hQ:∀c a w,Q (.panic c) (a.put oi.dst v) w→Q (.panic c) a w) (hy:YieldsIf P ops S oi v a) (hS:S w)
  (h:wpAnyC P md ops Q S k fuel (listed.setIfInBounds i true) (a.put oi.dst v) w):wpAnyC P md ops Q S k (fuel+1) listed a w:=by
 rw [Bool.and_eq_true] at hc
 obtain ⟨hkC,hch⟩:=chain_of hc.1
 exact wpAnyC_first hi (Region.noSelect_spec hs) (by simpa using hc.2) hkC hQ fuel listed a w (Region.free_spec hi hf) hch (by simpa using hr) hy hS h
theorem Till.more {listed:Array Bool} {w:World} (i:Nat) (h:Till S k listed w):Till S k (listed.setIfInBounds i true) w:=
 h.imp (fun h=>getD_set_true h) id
theorem Till.less {listed:Array Bool} {w:World} {i j:Nat} (hki:k≠i) (h:Till S k ((listed.setIfInBounds i true).setIfInBounds j true) w) (hji:j≠i):Till S k (listed.setIfInBounds j true) w:=by
 rcases h with h |h
 ·rw [Array.setIfInBounds_comm _ _ (Ne.symm hji),getD_set_ne false (Ne.symm hki)] at h
  exact .inl h
 ·exact .inr h
theorem wpAnyC_first0 {i:Nat} {oi:Oper} {v:Value} (hi:ops[i]? =some oi) (hsel:∀(j:Nat) (o:Oper) cs b,ops[j]? =some o→o.op≠ .select cs b)
  (hki:k≠i) (hQ:∀c a w,Q (.panic c) (a.put oi.dst v) w→Q (.panic c) a w):
  ∀(fuel:Nat) (listed:Array Bool) (a:Act) (w:World),
   (∀j oj,ops[j]? =some oj→j≠i→listed.getD j true=false→(∀e∈oj.after,Region.binds md e=true→e.on≠i)→oi.apart ops oj=true)→
   i∈Region.ready md ops listed→YieldsIf P ops (fun _=>True) oi v a→Till S k listed w→
   wpAnyC P md ops Q S k fuel (listed.setIfInBounds i true) (a.put oi.dst v) w→wpAnyC P md ops Q S k (fuel+1) listed a w:=by
 intro fuel
 induction fuel with
 |zero=>
  intro listed a w _ hr hy hS H
  refine ⟨fun h=>(by rw [h] at hr;cases hr),fun j hj=> ?_⟩
  by_cases hji:j=i
  ·subst hji;exact hy.wpOp hi trivial ⟨hS.more j,H⟩
  ·have :=ready_mono hj hji
   rw [H.1] at this
   cases this
 |succ fuel ih=>
  intro listed a w hfree hr hy hS H
  refine ⟨fun h=>(by rw [h] at hr;cases hr),fun j hj=> ?_⟩
  by_cases hji:j=i
  ·subst hji;exact hy.wpOp hi trivial ⟨hS.more j,H⟩
  ·have h1:=H.2 j (ready_mono hj hji)
   obtain ⟨hjun,oj,hoj,hall⟩:=mem_ready.1 hj
   have hnot:∀e∈oj.after,Region.binds md e=true→e.on≠i:=fun e he hb heq=>by
    have h1:=hall e he hb
    have h0:=(mem_ready.1 hr).1
    rw [heq] at h1
    rcases Nat.lt_or_ge i listed.size with h' |h'
    ·simp [h'] at h0 h1;rw [h0] at h1;cases h1
    ·simp [Array.getElem?_eq_none h'] at h1
   have h2:=wpOp_putIf hoj (hfree j oj hoj hji hjun hnot) (fun cs b=>hsel i oi cs b hi) (fun cs b=>hsel j oj cs b hoj) hQ hy h1
   have hfree':∀x ox,ops[x]? =some ox→x≠i→(listed.setIfInBounds j true).getD x true=false→
     (∀e∈ox.after,Region.binds md e=true→e.on≠i)→oi.apart ops ox=true:=fun x ox hx hxi hun hno=>by
    refine hfree x ox hx hxi ?_ hno
    by_cases hjx:j=x
    ·subst hjx;exact hjun
    ·rw [getD_set_ne true hjx] at hun;exact hun
   refine wpOp_mono (fun a' w' h3=> ?_) h2
   have hT:=h3.2.1.less hki hji
   refine ⟨hT,ih (listed.setIfInBounds j true) a' w' hfree' (ready_mono hr (Ne.symm hji)) h3.1 hT ?_⟩
   rw [Array.setIfInBounds_comm _ _ hji]
   exact h3.2.2
theorem wpAnyC_take0 {i:Nat} {oi:Oper} {v:Value} {fuel:Nat} {listed:Array Bool} {a:Act} {w:World} (hi:ops[i]? =some oi)
  (hs:Region.noSelect ops=true) (hf:Region.free md ops listed i=true) (hr:(Region.ready md ops listed).contains i=true) (hc:(k !=i)=true)
  (hQ:∀c a w,Q (.panic c) (a.put oi.dst v) w→Q (.panic c) a w) (hw:Region.wanted oi (yielded ops a.tmps)=true) (hy:∀w,(execOp a.eval oi).run P w= .ok (.value v) w) (hS:Till S k listed w)
  (h:wpAnyC P md ops Q S k fuel (listed.setIfInBounds i true) (a.put oi.dst v) w):wpAnyC P md ops Q S k (fuel+1) listed a w:=
 wpAnyC_first0 hi (Region.noSelect_spec hs) (by simpa using hc) hQ fuel listed a w (Region.free_spec hi hf) (by simpa using hr) (.inl ⟨hw,fun w _=>hy w⟩) hS h
def ReadyC (P:Program) (md:Region.Mode) (ops:Array Oper) (Q:Exit→Act→World→Prop) (S:World→Prop) (k fuel:Nat) (listed:Array Bool) (a:Act) (w:World) (rs:List Nat):Prop:=
 ∀i∈rs,wpOp P ops Q i (fun a' w'=>Till S k (listed.setIfInBounds i true) w'∧wpAnyC P md ops Q S k fuel (listed.setIfInBounds i true) a' w') a w
theorem wpAnyC_ready {rs:List Nat} {fuel:Nat} {listed:Array Bool} {a:Act} {w:World} (hr:Region.ready md ops listed=rs) (hne:rs≠[])
  (h:ReadyC P md ops Q S k fuel listed a w rs):wpAnyC P md ops Q S k (fuel+1) listed a w:=
 ⟨fun h0=>absurd (hr▸h0) hne,hr▸h⟩
theorem ReadyC.nil {fuel:Nat} {listed:Array Bool} {a:Act} {w:World}:ReadyC P md ops Q S k fuel listed a w []:=fun _ h=>by cases h
theorem ReadyC.cons {fuel:Nat} {listed:Array Bool} {a:Act} {w:World} {i:Nat} {o:Oper} {rs:List Nat} (ho:ops[i]? =some o)
  (h:∀K':Act→World→Prop,Shut (∀a w,Till S k (listed.setIfInBounds i true) w→(Till S k (listed.setIfInBounds i true) w→wpAnyC P md ops Q S k fuel (listed.setIfInBounds i true) a w)→K' a w)→
   if Region.wanted o (yielded ops a.tmps)=true then Oper.wp P o a w K' Q else K' (a.put o.dst undef) w)
  (hs:ReadyC P md ops Q S k fuel listed a w rs):ReadyC P md ops Q S k fuel listed a w (i::rs):=by
 intro j hj
 rcases List.mem_cons.1 hj with rfl |hj
 ·unfold wpOp
  simp only [ho]
  have :=h (fun a' w'=>Till S k (listed.setIfInBounds j true) w'∧wpAnyC P md ops Q S k fuel (listed.setIfInBounds j true) a' w') (fun a w h1 h2=>⟨h1,h2 h1⟩)
  split
  ·rename_i hw;rw [if_pos hw] at this;exact .inl this
  ·rename_i hw;rw [if_neg hw] at this;exact this
 ·exact hs j hj
theorem wpAnyC_done {listed:Array Bool} {a:Act} {w:World} (hr:Region.ready md ops listed=[]) (h:Q .normal a w):
  ∀fuel,wpAnyC P md ops Q S k fuel listed a w
 |0=>⟨hr,h⟩
 |_+1=>⟨fun _=>h,by rw [hr];simp⟩
theorem wp_region_C {id:Nat} {a:Act} {w:World} (S:World→Prop) (k:Nat) (hm:P.follows .mixedOrders=true) (hS:S w.drew)
  (h:Till S k (Array.replicate ops.size false) w.drew→wpAnyC P .any ops Q S k ops.size (Array.replicate ops.size false) a w.drew):(Code.region id ops true).wp P Q a w:=
 wp_region_any hm (wpAny_of_C _ _ _ _ (h (.inr hS)))
end
theorem q2 {α:Type} {a:α} {l:List α} {n:Nat}:(a::l)[n+1]? =l[n]? :=rfl
theorem q3 {α:Type} {a:α} {l:List α}:(a::l)[0]? =some a:=rfl
theorem q5 {α:Type} {l:List α} {n:Nat} {a:α}:l.toArray.setIfInBounds n a=(l.set n a).toArray:=List.setIfInBounds_toArray _ _ _
theorem q6 {α:Type} {a b:α} {l:List α}:(a::l).set 0 b=b::l:=rfl
theorem q7 {α:Type} {a b:α} {l:List α} {n:Nat}:(a::l).set (n+1) b=a::l.set n b:=rfl
variable {P:Program} {ops:Array Oper} {Q:Exit→Act→World→Prop} {md:Region.Mode} {S:World→Prop} {k:Nat}
theorem T0 {i:Nat} {oi:Oper} {v:Value} {fuel:Nat} {listed:Array Bool} {a:Act} {w:World} (hi:ops[i]? =some oi)
  (hb:(Region.noSelect ops&&Region.free md ops listed i&&(Region.ready md ops listed).contains i&&k !=i)=true) (hw:Region.wanted oi (yielded ops a.tmps)=true) (hy:∀w,(execOp a.eval oi).run P w= .ok (.value v) w) (hS:Till S k listed w)
  (h:wpAnyC P md ops (NoPanic Q) S k fuel (listed.setIfInBounds i true) (a.put oi.dst v) w):wpAnyC P md ops (NoPanic Q) S k (fuel+1) listed a w:=by
 simp only [Bool.and_eq_true] at hb
 exact wpAnyC_take0 hi hb.1.1.1 hb.1.1.2 hb.1.2 hb.2 (fun _ _ _ h=>h) hw hy hS h
theorem T1 {i:Nat} {oi:Oper} {v:Value} {fuel:Nat} {listed:Array Bool} {a:Act} {w:World} (C:List Nat) (hi:ops[i]? =some oi)
  (hb:(Region.noSelect ops&&Region.free md ops listed i&&(Region.ready md ops listed).contains i&&(chainB md ops C i k listed&&k !=i))=true) (hw:Region.wanted oi (yielded ops a.tmps)=true) (hy:∀w,S w→(execOp a.eval oi).run P w= .ok (.value v) w) (hS:S w)
  (h:wpAnyC P md ops (NoPanic Q) S k fuel (listed.setIfInBounds i true) (a.put oi.dst v) w):wpAnyC P md ops (NoPanic Q) S k (fuel+1) listed a w:=by
 simp only [Bool.and_eq_true] at hb
 exact wpAnyC_take C hi hb.1.1.1 hb.1.1.2 hb.1.2 (by simp only [Bool.and_eq_true];exact hb.2) (fun _ _ _ h=>h) (.inl ⟨hw,hy⟩) hS h
theorem R1 {i:Nat} {o:Oper} {fuel:Nat} {listed:Array Bool} {a:Act} {w:World} (hr:Region.ready md ops listed=[i]) (ho:ops[i]? =some o)
  (h:∀K':Act→World→Prop,Shut (∀a w,Till S k (listed.setIfInBounds i true) w→(Till S k (listed.setIfInBounds i true) w→wpAnyC P md ops Q S k fuel (listed.setIfInBounds i true) a w)→K' a w)→
   if Region.wanted o (yielded ops a.tmps)=true then Oper.wp P o a w K' Q else K' (a.put o.dst undef) w):wpAnyC P md ops Q S k (fuel+1) listed a w:=
 wpAnyC_ready hr (by simp) (ReadyC.cons ho h ReadyC.nil)
theorem R2 (i:Nat) {o:Oper} {fuel:Nat} {listed:Array Bool} {a:Act} {w:World} (hb:(Region.ready md ops listed==[i]&& !listed.getD k false)=true) (ho:ops[i]? =some o) (hT:Till S k listed w)
  (h:∀K':Act→World→Prop,Shut (∀a w,Till S k (listed.setIfInBounds i true) w→(Till S k (listed.setIfInBounds i true) w→wpAnyC P md ops Q S k fuel (listed.setIfInBounds i true) a w)→K' a w)→S w→
   if Region.wanted o (yielded ops a.tmps)=true then Oper.wp P o a w K' Q else K' (a.put o.dst undef) w):wpAnyC P md ops Q S k (fuel+1) listed a w:=by
 rw [Bool.and_eq_true] at hb
 have hS:S w:=hT.resolve_left (by simpa using hb.2)
 exact R1 (by simpa using hb.1) ho (fun K' hK=>h K' hK hS)
def TBr (P:Program) (ops:Array Oper) (S:World→Prop):List (Nat×List Nat)→Act→Act→Prop
 |[],a,a'=>a=a'
 | (i,C)::r,a,a'=>∃o v,ops[i]? =some o∧Region.wanted o (yielded ops a.tmps)=true∧(∀w,(C=[]∨S w)→(execOp a.eval o).run P w= .ok (.value v) w)∧TBr P ops S r (a.put o.dst v) a'
def batchB (md:Region.Mode) (ops:Array Oper) (k:Nat):List (Nat×List Nat)→Array Bool→Bool
 |[],_=>true
 | (i,C)::r,l=>Region.noSelect ops&&Region.free md ops l i&&(Region.ready md ops l).contains i&&k !=i&&(C.isEmpty ||chainB md ops C i k l)&&batchB md ops k r (l.setIfInBounds i true)
def lst:List (Nat×List Nat)→Array Bool→Array Bool
 |[],l=>l
 | (i,_)::r,l=>lst r (l.setIfInBounds i true)
theorem TBn {a:Act}:TBr P ops S [] a a:=rfl
theorem TBc {i:Nat} {C:List Nat} {r:List (Nat×List Nat)} {a a':Act} {o:Oper} {v:Value} (ho:ops[i]? =some o) (hw:Region.wanted o (yielded ops a.tmps)=true) (hy:∀w,(C=[]∨S w)→(execOp a.eval o).run P w= .ok (.value v) w) (h:TBr P ops S r (a.put o.dst v) a'):TBr P ops S ((i,C)::r) a a':=⟨o,v,ho,hw,hy,h⟩
theorem TB_ {fuel:Nat}:∀{is:List (Nat×List Nat)} {listed:Array Bool} {a a':Act} {w:World},batchB md ops k is listed=true→TBr P ops S is a a'→Till S k listed w→
  (Till S k (lst is listed) w→wpAnyC P md ops (NoPanic Q) S k fuel (lst is listed) a' w)→wpAnyC P md ops (NoPanic Q) S k (fuel+is.length) listed a w
 |[],listed,a,a',w,_,hr,hS,h=>by
  have :a=a':=hr
  subst this
  exact h hS
 | (i,C)::r,listed,a,a',w,hb,hr,hS,h=>by
  obtain ⟨o,v,ho,hw,hy,hr2⟩:=hr
  simp only [batchB,Bool.and_eq_true] at hb
  obtain ⟨⟨⟨⟨⟨h1,h2⟩,h3⟩,h4⟩,h5⟩,h6⟩:=hb
  have hm:=TB_ h6 hr2 (hS.more i) h
  cases C with
  |nil=>exact wpAnyC_take0 ho h1 h2 h3 h4 (fun _ _ _ h=>h) hw (fun w=>hy w (.inl rfl)) hS hm
  |cons c C=>
   have h5:chainB md ops (c::C) i k listed=true:=by simpa using h5
   have hc:=chain_of h5
   have hSw:S w:=by
    rcases hS with h7 |h7
    ·rw [hc.2.k_not hc.1] at h7
     cases h7
    ·exact h7
   exact wpAnyC_take (c::C) ho h1 h2 h3 (by rw [h5,h4];rfl) (fun _ _ _ h=>h) (.inl ⟨hw,fun w hs=>hy w (.inr hs)⟩) hSw hm
theorem TB {fuel:Nat} (n:Nat) (is:List (Nat×List Nat)) {listed:Array Bool} {a a':Act} {w:World} (hb:batchB md ops k is listed=true) (hn:is.length=n) (hr:TBr P ops S is a a') (hS:Till S k listed w)
  (h:Till S k (lst is listed) w→wpAnyC P md ops (NoPanic Q) S k fuel (lst is listed) a' w):wpAnyC P md ops (NoPanic Q) S k (fuel+n) listed a w:=by
 subst hn
 exact TB_ hb hr hS h
end Go.Proofs.YtjmmpfjcpdepjaaGreatDoor
