/- The steps of a region that draws, in short words. -/
import Derived.Test.YtpjbaobgnhjgoaaGreatRows
import Derived.WalkSpells
import Derived.WalkLawsBesides
import Derived.BigQuiet
import Derived.Lib.Hide
import Derived.Deep.RegionLaw
import Derived.Deep.RegionHeld3
import Derived.Deep.LoopGhost
set_option linter.unusedVariables false
set_option linter.unusedSimpArgs false
set_option maxHeartbeats 4000000
set_option maxRecDepth 100000
namespace Go.Proofs.YtpjbaobgnhjgoaaGreat
section
open Go.RowKit
theorem qah.{u}:∀{c:Prop}{h:Decidable c},¬c->∀{α:Sort u}{t e:α},(if c then t else e)=e:=@if_neg
theorem qai.{u}:∀{c:Prop}{h:Decidable c},c->∀{α:Sort u}{t e:α},(if c then t else e)=t:=@if_pos
theorem qaj:∀{p:Prop}[inst:Decidable p],¬p->decide p=false:=@decide_eq_false
theorem qak:∀{p:Prop}[inst:Decidable p],p->decide p=true:=@decide_eq_true
theorem qal:∀{P:Program}{ops:Array Oper}{C:World->Prop}{Q:Act->Prop}{a:Act},Q a->wpQuiet P ops C Q [] a:=@wpQuiet_nil
theorem qam:∀{p:Prop}[inst:Decidable p],(decide p=true)=p:=@decide_eq_true_eq
theorem qan:∀{P:Program}{id:Nat}{ops:Array Oper}{b:Bool}{Q:Exit->Act->World->Prop}{a:Act}{w:World},Code.wp P (Code.region id ops b) (NoPanic Q) a w->Code.wp P (Code.region id ops b) Q a w:=@wp_region_noPanic
theorem aaa.{u,v}:∀{α:Sort u}{β:Sort v}{a₁ a₂:α}(f:α->β),a₁=a₂->f a₁=f a₂:=@congrArg
theorem aab.{u_1}:∀{α:Type u_1}[inst:BEq α][LawfulBEq α]{a b:α},(a==b)=false↔a≠b:=@beq_eq_false_iff_ne
theorem aa.{u_1}:∀{α:Type u_1}[inst:Inhabited α]{l:List α}{i:Nat},l[i]! =l[i]?.getD default:=@List.getElem!_eq_getElem?_getD
theorem af.{u_1}:∀{α:Type u_1}{l:List α}{i:Nat}(h:i<l.length),l[i]? =some l[i]:=@List.getElem?_eq_getElem
theorem ag.{u_1}:∀{α:Type u_1}{a b:α},a∈[b]↔a=b:=@List.mem_singleton
theorem ah.{u_1}:∀{α:Type u_1}{a:α}{s t:List α},a∈s++t↔a∈s\/a∈t:=@List.mem_append
theorem an.{u}:∀{α:Type u}{«as» bs:List α},(«as» ++bs).length= «as».length+bs.length:=@List.length_append
theorem aq:∀(n:Nat),n<=n:=@Nat.le_refl
theorem av.{u}:∀{α:Type u}{a:α}{«as» :List α}(bs:List α),a∈ «as» ->a∈ «as» ++bs:=@List.mem_append_left
theorem aw.{u}:∀{α:Type u}{«as» :List α}{i:Nat}{a:α},(«as».set i a).length= «as».length:=@List.length_set
theorem ax:∀(a b:Bool),((a&&b)=true)=(a=true/\b=true):=@Bool.and_eq_true
theorem ay.{u_1}:∀{α:Type u_1}{b:α}{l:List α}{a:α},a∈b::l↔a=b\/a∈l:=@List.mem_cons
theorem aD:∀(n:Nat),¬n<0:=@Nat.not_lt_zero
theorem aE:∀{n m k:Nat},n<=m->m<=k->n<=k:=@Nat.le_trans
theorem aG.{u_1,u_2}:∀{α:Type u_1}{β:Type u_2}{«as» :List α}(f:α->β),(List.map f «as»).length= «as».length:=@List.length_map
theorem aJ.{u_1}:∀{α:Type u_1}{a b:α},(some a).getD b=a:=@Option.getD_some
theorem aN.{u_1,u_2}:∀{α:Type u_1}{β:Type u_2}{b:β}{f:α->β}{l:List α},b∈List.map f l↔∃a,a∈l/\f a=b:=@List.mem_map
theorem aS:∀{n m k:Nat},n<m->m<=k->n<k:=@Nat.lt_of_lt_of_le
theorem aU:∀(n:Nat),0<=n:=@Nat.zero_le
theorem aV.{u}:∀{α:Type u}{a:α},[a].length=1:=@List.length_singleton
theorem aX.{u_1}:∀{α:Type u_1}{l:List α},l.length=0->l=[]:=@List.eq_nil_of_length_eq_zero
theorem aZ.{u_1,u_2}:∀{α:Type u_1}{β:Type u_2}{f:α->β}{l:List α}{i:Nat},(List.map f l)[i]? =Option.map f l[i]? :=@List.getElem?_map
theorem a8.{u}:∀{α:Type u}{n:Nat}{a:α},(List.replicate n a).length=n:=@List.length_replicate
theorem bi.{u_1}:∀{α:Type u_1}{a:α},¬a∈[]:=@List.not_mem_nil
theorem bl:∀{m n:Nat},m∈List.range n↔m<n:=@List.mem_range
theorem bu:(false=true)=False:=@Bool.false_eq_true
theorem bz.{u_1}:∀{α:Type u_1}{i:Nat}{l:List α},(List.take i l).length=min i l.length:=@List.length_take
theorem bE.{u_1,u_2}:∀{α:Type u_1}{β:Type u_2}{f:α->β}{l₁ l₂:List α},List.map f (l₁++l₂)=List.map f l₁++List.map f l₂:=@List.map_append
theorem bM.{u_1}:∀{α:Type u_1}{a:α}{l:List α},a∈a::l:=@List.mem_cons_self
theorem bN:∀(n m:Nat),n<m\/n≥m:=@Nat.lt_or_ge
theorem bP.{u}:∀{α:Type u}{b:α}(«as» :List α){bs:List α},b∈bs->b∈ «as» ++bs:=@List.mem_append_right
theorem bU.{u_1}:∀{α:Type u_1}(y:α){a:α}{l:List α},a∈l->a∈y::l:=@List.mem_cons_of_mem
theorem bX.{u_1}:∀{α:Type u_1}{l₁ l₂:List α}{i:Nat},l₁.length<=i->(l₁++l₂)[i]? =l₂[i-l₁.length]? :=@List.getElem?_append_right
theorem b8.{u}:∀{α:Type u}{a:α}{«as» :List α},(a:: «as»).length= «as».length+1:=@List.length_cons
theorem cq.{u}:∀{α:Type u}(«as» :List α), «as» ++[]= «as» :=@List.append_nil
theorem cD.{u_1}:∀{α:Type u_1}{a:α}{i:Nat}{l:List α},(a::l)[i+1]? =l[i]? :=@List.getElem?_cons_succ
theorem cH.{u_1,u_2}:∀{α:Type u_1}{β:Type u_2}{f:α->List β}{b:β}{l:List α},b∈List.flatMap f l↔∃a,a∈l/\b∈f a:=@List.mem_flatMap
theorem cK.{u_1}:∀{α:Type u_1}{a:α}{l:List α},(a::l)[0]? =some a:=@List.getElem?_cons_zero
theorem cN.{u_1}:∀{α:Type u_1}{l:List α},List.take l.length l=l:=@List.take_length
theorem cP.{u_1}:∀{α:Type u_1}{p:α->Bool}{l:List α},l.any p=true↔∃x,x∈l/\p x=true:=@List.any_eq_true
theorem cR.{u_1}:∀{α:Type u_1}{p:α->Bool}{l:List α},l.all p=true↔∀(x:α),x∈l->p x=true:=@List.all_eq_true
theorem cV.{u_1}:∀{α:Type u_1}{l₁ l₂:List α}{i:Nat},i<l₁.length->(l₁++l₂)[i]? =l₁[i]? :=@List.getElem?_append_left
theorem da:∀(n:Nat),¬n<n:=@Nat.lt_irrefl
theorem dd:∀(n:Nat),0+n=n:=@Nat.zero_add
theorem de:∀{n:Nat},(List.range n).length=n:=@List.length_range
theorem dj.{u}:∀{α:Type u}{xs:List α}{i:Nat},xs.toArray[i]? =xs[i]? :=@List.getElem?_toArray
theorem dt:∀(n m:Nat),n+m-m=n:=@Nat.add_sub_cancel
theorem dv.{u_1}:∀{α:Type u_1}{i:Nat}{l:List α},l.length<=i->List.take i l=l:=@List.take_of_length_le
theorem dw:∀{x y:Bool},(x ||y)=false↔x=false/\y=false:=@Bool.or_eq_false_iff
theorem dA.{u_1,u_2}:∀{α:Type u_1}{β:Type u_2}(a:α)(f:α->β),Option.map f (some a)=some (f a):=@Option.map_some
theorem dB.{u}:∀{α:Type u}(«as» bs cs:List α), «as» ++bs++cs= «as» ++(bs++cs):=@List.append_assoc
theorem dI:∀(a b:Bool),((a ||b)=true)=(a=true\/b=true):=@Bool.or_eq_true
theorem dJ.{u,v}:∀{α:Type u}{β:Type v}{f:α->β}{a:α}{l:List α},List.map f (a::l)=f a::List.map f l:=@List.map_cons
theorem dM.{u_1}:∀{α:Type u_1}(l:List α),l.Perm l:=@List.Perm.refl
theorem dX.{u_1}:∀{α:Type u_1}{x:α}{«as» :List α},x∈ «as».reverse↔x∈ «as» :=@List.mem_reverse
theorem eD.{u_1}:∀{α:Type u_1}(a:α),(some a).toList=[a]:=@Option.toList_some
theorem fa:∀{b:Bool},b=false↔b≠true:=@Bool.eq_false_iff
theorem ff:∀(b:Bool),(true&&b)=b:=@Bool.true_and
theorem fQ.{u,v}:∀{α:Type u}{β:Type v}{f:α->β},List.map f []=[]:=@List.map_nil
theorem gh.{u_1}:∀{α:Type u_1}{p:α->Bool}{«as» :List α}{x:α},x∈List.filter p «as» ↔x∈ «as» /\p x=true:=@List.mem_filter
theorem gu.{u_1}:∀{α:Type u_1}{l:List α}{n:Nat}(h:n<l.length),l[n]∈l:=@List.getElem_mem
theorem gE:∀(a:Int),a<=a:=@Int.le_refl
theorem gW.{u_1}:∀{α:Type u_1}{l:List α}{i j:Nat},i≠j->∀{a:α},(l.set i a)[j]? =l[j]? :=@List.getElem?_set_ne
theorem gX.{u_1}:∀{α:Type u_1}{i:Nat}{xs:Array α},xs.size<=i->xs[i]? =none:=@Array.getElem?_eq_none
theorem iZ.{u_1}:∀{α:Type u_1}{l:List α}{i:Nat},l.length<=i->l[i]? =none:=@List.getElem?_eq_none
theorem i8:∀(b:Bool),((!b)=true)=(b=false):=@Bool.not_eq_true'
theorem ju:∀{n:Nat},List.range n.succ=List.range n++[n]:=@List.range_succ
theorem j9:∀(n:Nat),n*1=n:=@Nat.mul_one
theorem kg.{u_1}:∀{α:Type u_1}{a:α}{l:List α},(a::l).Nodup↔¬a∈l/\l.Nodup:=@List.nodup_cons
theorem kj.{u_1}:∀{α:Type u_1}{l:List α}{i:Nat}{a:α},i<l.length->(l.set i a)[i]? =some a:=@List.getElem?_set_self
theorem li:∀{a b:Nat},a<=b->min a b=a:=@Nat.min_eq_left
theorem mX.{u_1}:∀{α:Type u_1}{i:Nat}{a:α}{l:List α},l[i]? =some a↔∃h,l[i]=a:=@List.getElem?_eq_some_iff
theorem oO.{u_1}:∀{α:Type u_1}{l₁ l₂:List α}{i:Nat},i<=l₁.length->List.take i (l₁++l₂)=List.take i l₁:=@List.take_append_of_le_length
def aj(p:Prop):Prop:=p
theorem aj.o{p:Prop}(h:aj p):p:=h
theorem ae{p:Prop}(h:p):aj p:=h
def At(w:World)(g:Nat)(t:TypeId)(cs:Array Value):Prop:=w.heap[g]? =some (.cells cs t (0,0))
structure Fr(S:List Nat)(w w':World):Prop where
 os:w'.os=w.os
 tape:w'.tape=w.tape
 output:w'.output=w.output
 size:w.heap.size<=w'.heap.size
 block:∀k,k<w.heap.size->k∉S->w'.heap[k]? =w.heap[k]?
namespace Fr
variable {S T:List Nat} {w w' a b c:World}
theorem refl(S:List Nat)(w:World):Fr S w w:=⟨rfl,rfl,rfl,aq _,fun _ _ _=>rfl⟩
theorem mono(h:Fr S w w')(hs:∀k,k∈S->k∈T\/w.heap.size<=k):Fr T w w':=
 ⟨h.os,h.tape,h.output,h.size,fun k hk J=>h.block k hk fun hm=>(hs k hm).elim J (by omega)⟩
theorem trans(h:Fr S a b)(k:Fr T b c)(hs:∀x,x∈T->x∈S\/a.heap.size<=x):Fr S a c:=
 ⟨k.os.trans h.os,k.tape.trans h.tape,k.output.trans h.output,aE h.size k.size,fun i hi J=>
  (k.block i (aS hi h.size) fun hm=>(hs i hm).elim J (by omega)).trans (h.block i hi J)⟩
theorem ak(h:Fr S a b)(k:Fr S b c):Fr S a c:=h.trans k fun _ J=> .inl J
theorem drew(h:Fr S w w'):Fr S w w'.drew:=⟨h.os,h.tape,h.output,h.size,h.block⟩
theorem drewN(h:Fr S w w')(n:Nat):Fr S w (w'.drewN n):=⟨h.os,h.tape,h.output,h.size,h.block⟩
theorem alloc(h:Fr S w w')(o:Obj):Fr S w (w'.alloc o):=
 h.ak ⟨rfl,rfl,rfl,by simp,fun k hk _=>Below.heap_alloc _ _ _ hk⟩
theorem setCell(h:Fr S w w'){p:Addr}(hp:p.block∈S\/w.heap.size<=p.block)(u:Value):Fr S w (w'.setCell p u):=
 ⟨h.os,h.tape,h.output,by simpa[World.setCell]using h.size,fun k hk J=>(Below.heap_setCell _ _ _ _ (by
  rintro rfl;rcases hp with hp |hp
  ·exact J hp
  ·omega)).trans (h.block k hk J)⟩
theorem grown(h:Fr S w w'){row:Option Nat}{AB:World}(J:w'.grownBy AB row)(hr:∀k,row=some k->k∈S\/w.heap.size<=k):Fr S w AB:=
 ⟨J.os.trans h.os,J.tape.trans h.tape,J.output.trans h.output,aE h.size J.size,fun k hk hn=>
  (J.block k (aS hk h.size) fun e=>(hr k e.symm).elim hn (by omega)).trans (h.block k hk hn)⟩
theorem below(h:Fr [] w w'):Below w.heap.size w w':=⟨h.os,h.tape,h.output,h.size,fun k hk=>h.block k hk (by simp)⟩
theorem at_(h:Fr S w w'){g:Nat}{t:TypeId}{cs:Array Value}(J:At w g t cs)(hn:g∉S):At w' g t cs:=
 (h.block g (by
  rcases bN g w.heap.size with hl |hl
  ·exact hl
  ·unfold At at J;rw[gX hl]at J;cases J) hn).trans J
theorem own(h:Fr S w w'){base:Nat}{e:TypeId}{size n:Nat}{v:Value}{xs:List Value}(J:w.ownsRow base e size v n xs)(hn:∀k,v.ownBlock=some k->k∉S):w'.ownsRow base e size v n xs:=by
 refine⟨J.1,?_⟩;rcases J.2 with h0 |⟨g,cap,cur,hv,hb,hg,r⟩
 ·exact .inl h0
 ·exact .inr ⟨g,cap,cur,hv,hb,h.at_ (t:=e) hg (hn g (by rw[hv];rfl)),r⟩
end Fr
namespace At
variable {w w':World} {g:Nat} {t:TypeId} {cs:Array Value}
theorem lt(h:At w g t cs):g<w.heap.size:=by
 rcases bN g w.heap.size with hl |hl
 ·exact hl
 ·unfold At at h;rw[gX hl]at h;cases h
theorem cell(h:At w g t cs)(i:Nat):w.cell? ⟨g,i,none⟩=cs[i]? :=cell_of_row w g i cs t (0,0) h
theorem frozen(h:At w g t cs)(i:Nat):w.frozen? ⟨g,i,none⟩=false:=by unfold At at h;simp[World.frozen?,h]
theorem new(w:World)(t:TypeId)(cs:Array Value):At (w.alloc (.cells cs t)) w.heap.size t cs:=heap_alloc_new w _
theorem drew(h:At w g t cs):At w.drew g t cs:=h
theorem alloc(h:At w g t cs)(o:Obj):At (w.alloc o) g t cs:=(Below.heap_alloc w o g h.lt).trans h
theorem dL(h:At w g t cs)(i:Nat)(u:Value):At (w.setCell ⟨g,i,none⟩ u) g t (cs.setIfInBounds i u):=by unfold At at h⊢;simp[World.setCell,Array.getElem?_modify,h]
theorem ie(h:At w g t cs){p:Addr}(hp:g≠p.block)(u:Value):At (w.setCell p u) g t cs:=(Below.heap_setCell w p u g hp).trans h
end At
def Ints(w:World)(A:Option Addr)(c:Nat)(xs:List Int):Prop:=w.ownsRow 0 3 1 (.slice A xs.length c) xs.length (xs.map (Value.int .i64))
def ao(A:Option Addr):List Nat:=(A.map (·.block)).toList
namespace Ints
variable {w w':World} {A:Option Addr} {c:Nat} {xs:List Int}
theorem form(h:Ints w A c xs):(A=none/\c=0/\xs=[])\/∃g,A=some ⟨g,0,none⟩/\g<w.heap.size/\xs.length<=c/\c<=maxLen:=by
 rcases h.2 with⟨h1,h2⟩ |⟨g,cap,cur,J,_,hg,hn,hm,_⟩
 ·simp only[Value.slice.injEq]at h1;exact .inl ⟨h1.1,h1.2.2,aX h2⟩
 ·simp only[Value.slice.injEq,true_and]at J;obtain⟨rfl,rfl⟩:=J;exact .inr ⟨g,rfl,At.lt (t:=3) hg,hn,hm⟩
theorem pos{i:Nat}(h:Ints w A c xs)(hi:i<xs.length):∃g,A=some ⟨g,0,none⟩/\g<w.heap.size:=by
 rcases h.form with⟨_,_,rfl⟩ |⟨g,h1,J,_⟩
 ·simp at hi
 ·exact⟨g,h1,J⟩
theorem len(h:Ints w A c xs):xs.length<=maxLen:=by
 rcases h.form with⟨_,_,rfl⟩ |⟨g,_,_,h1,J⟩
 ·simp[maxLen]
 ·omega
theorem cell{g:Nat}(h:Ints w (some ⟨g,0,none⟩) c xs){i:Nat}(hi:i<xs.length):w.cell? ⟨g,i,none⟩=some (.int .i64 (xs[i]!)):=by rw[World.ownsRow.cellAt h i (by omega)];simp[hi]
theorem frozen{g:Nat}(h:Ints w (some ⟨g,0,none⟩) c xs)(i:Nat):w.frozen? ⟨g,i,none⟩=false:=World.ownsRow.frozenAt h i
theorem dL{g:Nat}(h:Ints w (some ⟨g,0,none⟩) c xs)(i:Nat)(x:Int):Ints (w.setCell ⟨g,i,none⟩ (.int .i64 x)) (some ⟨g,0,none⟩) c (xs.set i x):=by have :=(World.ownsRow.stored h i (.int .i64 x)).1;unfold Ints;rw[aw,List.map_set];exact this
theorem ie(h:Ints w A c xs){p:Addr}(hp:p.block∉ao A)(u:Value):Ints (w.setCell p u) A c xs:=
 Fr.own (S:=[p.block]) ((Fr.refl [p.block] w).setCell (.inl (by simp)) u) h (fun k hk=>by
  rcases A with _ |J
  ·simp[Value.ownBlock]at hk
  ·simp only[Value.ownBlock,Option.some.injEq]at hk;subst hk;simp only[ao,dA,eD,ag]at hp⊢;exact fun e=>hp e.symm)
theorem fr{S:List Nat}(h:Ints w A c xs)(J:Fr S w w')(hd:∀k,k∈ao A->k∉S):Ints w' A c xs:=
 J.own h (fun k hk=>hd k (by
  rcases A with _ |ad
  ·simp[Value.ownBlock]at hk
  ·simp only[Value.ownBlock,Option.some.injEq]at hk;subst hk;simp[ao]))
theorem qg(h:Ints w A c xs)(k:Nat):Ints w A c (xs.take k):=by
 refine⟨by simp,?_⟩;rcases h.2 with⟨h1,h2⟩ |⟨g,cap,cur,hv,hb,hg,hn,hm,hs,J⟩
 ·have :xs=[]:=aX h2;subst this;simp only[Value.slice.injEq,List.length_nil,true_and]at h1;exact .inl ⟨by simp[h1.1,h1.2],by simp⟩
 ·simp only[Value.slice.injEq,true_and]at hv;obtain⟨rfl,rfl⟩:=hv;refine .inr ⟨g,c,cur,rfl,hb,hg,by simp;omega,hm,hs,?_⟩;simp only[j9]at J⊢;rw[List.map_take,<-J,List.take_take,bz]
theorem drew(h:Ints w A c xs):Ints w.drew A c xs:=h
theorem alloc(h:Ints w A c xs)(o:Obj):Ints (w.alloc o) A c xs:=World.ownsRow.alloc h o
theorem nil(w:World):Ints w none 0 []:=World.ownsRow_nil w 0 _ 1
theorem lt(h:Ints w A c xs):∀k,k∈ao A->k<w.heap.size:=by
 rcases h.form with⟨rfl,_⟩ |⟨g,rfl,h1,_⟩
 ·simp[ao]
 ·simpa[ao]using h1
end Ints
theorem MT{P:Program}{f:FuncId}{args:Array Value}{w:World}{n:Nat}{v:Value}
  (h:Calls P f args (w.drewN n) fun e w'=>e= .returned v/\∃m,(w.drewN n).drewN m=w'):Calls P f args (w.drewN n) fun e J=>e= .returned v/\∃m,J=w.drewN m:=
 h.mono fun _ _ ⟨he,m,hm⟩=>⟨he,n+m,by rw[<-hm,World.drewN_drewN]⟩
structure Hp where
 items:List Int
 at_:List Int
 score:List Int
structure gK where
 a:Nat
 A1:Option Addr
 c1:Nat
 A2:Option Addr
 c2:Nat
 A3:Option Addr
 c3:Nat
def gK.fp(L:gK):List Nat:=L.a::(ao L.A1++(ao L.A2++ao L.A3))
structure cT(w:World)(L:gK)(H:Hp):Prop where
 obj:At w L.a 159 #[.slice L.A1 H.items.length L.c1, .slice L.A2 H.at_.length L.c2, .slice L.A3 H.score.length L.c3]
 items:Ints w L.A1 L.c1 H.items
 at_:Ints w L.A2 L.c2 H.at_
 score:Ints w L.A3 L.c3 H.score
 nodup:L.fp.Nodup
 same:H.at_.length=H.score.length
def Hp.sc(H:Hp)(x:Int):Int:=H.score[x.toNat]!
def Hp.pl(H:Hp)(x:Int):Int:=H.at_[x.toNat]!
def Hp.it(H:Hp)(i:Int):Int:=H.items[i.toNat]!
def Hp.kb(H:Hp)(x:Int):Bool:=decide (0<=x)&&decide (x<H.at_.length)
def Hp.bK(H:Hp)(x y:Int):Bool:=decide (H.sc y<H.sc x) || (decide (H.sc x=H.sc y)&&decide (x<y))
theorem mt{a b:Bool}(h:a=b):Ending.returned (.bool a)= .returned (.bool b):=by rw[h]
theorem DL{k:IntKind}{a b:Int}(h:a=b):Ending.returned (.int k a)= .returned (.int k b):=by rw[h]
theorem Xu(w:World)(L:gK)(H:Hp)(h:cT w L H)(x:Int):
  Calls Tryz.prog 147 #[.pointer (some ⟨L.a,0,none⟩), .int .i64 x] w fun e w'=>e= .returned (.bool (H.kb x))/\w=w':=by
 have c1:=h.obj.cell 1;simp at c1;unfold Hp.kb;by_cases J:0<=x
 ·by_cases h1:x<H.at_.length
  ·go_enter Tryz.func147,Tryz.ntmps147;go_wp2;go_ret;exact⟨mt (by simp[J,h1]),rfl⟩
  ·go_enter Tryz.func147,Tryz.ntmps147;go_wp2;go_ret;exact⟨mt (by simp[h1]),rfl⟩
 ·go_enter Tryz.func147,Tryz.ntmps147;go_wp2;go_ret;exact⟨mt (by simp;omega),rfl⟩
theorem cT.aF{w:World}{L:gK}{H:Hp}(h:cT w L H){x:Int}(h0:0<=x)(h1:x<H.at_.length):
  ∃g,L.A3=some ⟨g,0,none⟩/\w.cell? ⟨g,x.toNat,none⟩=some (.int .i64 (H.sc x)):=by
 have hs:=h.same;obtain⟨g,J,_⟩:=h.score.pos (i:=x.toNat) (by omega);refine⟨g,J,?_⟩;have :=h.score;rw[J]at this;exact this.cell (by omega)
theorem heap_ahead(w:World)(L:gK)(H:Hp)(h:cT w L H)(x y:Int)(GP:0<=x)(gU:x<H.at_.length)(lf:0<=y)(iO:y<H.at_.length):
  Calls Tryz.prog 167 #[.pointer (some ⟨L.a,0,none⟩), .int .i64 x, .int .i64 y] w fun e w'=>e= .returned (.bool (H.bK x y))/\∃n,w.drewN n=w':=by
 have hs:=h.same;have c1:=h.obj.cell 2;simp at c1;obtain⟨g,hg,cx⟩:=h.aF GP gU;obtain⟨g',pK,cy⟩:=h.aF lf iO;rw[hg]at pK c1;cases pK;have jn:x<H.score.length:=by omega
 have ld:y<H.score.length:=by omega
 unfold Hp.bK;clear h hs gU iO;generalize H.sc x=J at cx⊢;generalize H.sc y=sy at cy⊢;by_cases h1:sy<J
 ·go_enter Tryz.func167,Tryz.ntmps167;go_wp2_with fail
  go_quiet (fail)
  go_wp2;go_ret;exact⟨mt (by simp[h1]),_,rfl⟩
 ·have TI:decide (sy<J)=false:=qaj h1;by_cases h2:J=sy
  ·subst h2;by_cases h3:x<y
   ·go_enter Tryz.func167,Tryz.ntmps167;go_wp2_with fail
    go_quiet (fail)
    go_wp2;go_ret;exact⟨mt (by simp[h3]),_,rfl⟩
   ·go_enter Tryz.func167,Tryz.ntmps167;go_wp2_with fail
    go_quiet (fail)
    go_wp2;go_ret;exact⟨mt (by simp),_,rfl⟩
  ·have ab:(J==sy)=false:=aab.2 h2;go_enter Tryz.func167,Tryz.ntmps167;go_wp2_with fail
   go_quiet (fail)
   go_wp2;go_ret;exact⟨mt (by simp[TI,h2]),_,rfl⟩
def Hp.put(H:Hp)(i x:Int):Hp:={ H with items:=H.items.set i.toNat x,at_:=H.at_.set x.toNat i }
theorem jz{a:Nat}{x y z:List Nat}(h:(a::(x++(y++z))).Nodup):
  (∀k,k∈x->k≠a/\k∉y/\k∉z)/\(∀k,k∈y->k≠a/\k∉x/\k∉z)/\(∀k,k∈z->k≠a/\k∉x/\k∉y):=by
 simp only[kg,ah,List.nodup_append]at h;obtain⟨h1,h2,⟨h3,h4,h5⟩,J⟩:=h;refine⟨fun k hk=>⟨?_,?_,?_⟩,fun k hk=>⟨?_,?_,?_⟩,fun k hk=>⟨?_,?_,?_⟩⟩
 ·rintro rfl;exact h1 (.inl hk)
 ·exact fun hy=>J k hk k (.inl hy) rfl
 ·exact fun hz=>J k hk k (.inr hz) rfl
 ·rintro rfl;exact h1 (.inr (.inl hk))
 ·exact fun hx=>J k hx k (.inl hk) rfl
 ·exact fun hz=>h5 k hk k hz rfl
 ·rintro rfl;exact h1 (.inr (.inr hk))
 ·exact fun hx=>J k hx k (.inr hk) rfl
 ·exact fun hy=>h5 k hy k hk rfl
theorem cT.kY{w:World}{L:gK}{H:Hp}(h:cT w L H){i:Int}(h0:0<=i)(h1:i<H.items.length):
  ∃g,L.A1=some ⟨g,0,none⟩/\w.cell? ⟨g,i.toNat,none⟩=some (.int .i64 (H.it i))/\w.frozen? ⟨g,i.toNat,none⟩=false:=by
 obtain⟨g,J,_⟩:=h.items.pos (i:=i.toNat) (by omega);refine⟨g,J,?_⟩;have :=h.items;rw[J]at this;exact⟨this.cell (by omega),this.frozen _⟩
theorem cT.Am{w:World}{L:gK}{H:Hp}(h:cT w L H){i:Int}(h0:0<=i)(h1:i<H.at_.length):
  ∃g,L.A2=some ⟨g,0,none⟩/\w.cell? ⟨g,i.toNat,none⟩=some (.int .i64 (H.pl i))/\w.frozen? ⟨g,i.toNat,none⟩=false:=by
 obtain⟨g,J,_⟩:=h.at_.pos (i:=i.toNat) (by omega);refine⟨g,J,?_⟩;have :=h.at_;rw[J]at this;exact⟨this.cell (by omega),this.frozen _⟩
theorem cT.aky{w:World}{L:gK}{H:Hp}(h:cT w L H){g:Nat}(J:L.A1=some ⟨g,0,none⟩)(i:Nat)(x:Int):
  cT (w.setCell ⟨g,i,none⟩ (.int .i64 x)) L { H with items:=H.items.set i x }:=by
 obtain⟨h1,h2,h3⟩:=jz h.nodup;have hm:g∈ao L.A1:=by simp[J,ao]
 refine⟨?_,?_,?_,?_,h.nodup,h.same⟩
 ·have :=h.obj.ie (p:=⟨g,i,none⟩) (fun e=>(h1 g hm).1 e.symm) (.int .i64 x);simpa using this
 ·have :=h.items;rw[J]at this⊢;exact this.dL i x
 ·exact h.at_.ie (fun hk=>(h1 g hm).2.1 hk) _
 ·exact h.score.ie (fun hk=>(h1 g hm).2.2 hk) _
theorem cT.aaw{w:World}{L:gK}{H:Hp}(h:cT w L H){g:Nat}(hg:L.A2=some ⟨g,0,none⟩)(i:Nat)(x:Int):
  cT (w.setCell ⟨g,i,none⟩ (.int .i64 x)) L { H with at_:=H.at_.set i x }:=by
 obtain⟨h1,J,h3⟩:=jz h.nodup;have hm:g∈ao L.A2:=by simp[hg,ao]
 refine⟨?_,?_,?_,?_,h.nodup,by simpa using h.same⟩
 ·have :=h.obj.ie (p:=⟨g,i,none⟩) (fun e=>(J g hm).1 e.symm) (.int .i64 x);simpa using this
 ·exact h.items.ie (fun hk=>(J g hm).2.1 hk) _
 ·have :=h.at_;rw[hg]at this⊢;exact this.dL i x
 ·exact h.score.ie (fun hk=>(J g hm).2.2 hk) _
theorem cT.drewN{w:World}{L:gK}{H:Hp}(h:cT w L H)(n:Nat):cT (w.drewN n) L H:=⟨h.obj,h.items,h.at_,h.score,h.nodup,h.same⟩
theorem cT.drew{w:World}{L:gK}{H:Hp}(h:cT w L H):cT w.drew L H:=⟨h.obj,h.items,h.at_,h.score,h.nodup,h.same⟩
theorem ip(w:World)(L:gK)(H:Hp)(h:cT w L H)(i x:Int)(Zx:0<=i)(Vm:i<H.items.length)(GP:0<=x)(gU:x<H.at_.length):
  Calls Tryz.prog 168 #[.pointer (some ⟨L.a,0,none⟩), .int .i64 i, .int .i64 x] w fun e w'=>e= .returned (.tuple #[])/\cT w' L (H.put i x)/\Fr L.fp w w':=by
 have o0:=h.obj.cell 0;have o1:=h.obj.cell 1;simp at o0 o1;obtain⟨g,J,ci,fi⟩:=h.kY Zx Vm;obtain⟨g',pK,cx,fx⟩:=h.Am GP gU;have dV:g≠g':=fun e=>((jz h.nodup).1 g (by simp[J,ao])).2.1 (by simp[pK,ao,e]);rw[J]at o0;rw[pK]at o1;have fin:=(h.aky J i.toNat x).aaw pK x.toNat i;have fr:Fr L.fp w ((w.setCell ⟨g,i.toNat,none⟩ (.int .i64 x)).setCell ⟨g',x.toNat,none⟩ (.int .i64 i)):=
  ((Fr.refl L.fp w).setCell (.inl (by simp[gK.fp,J,ao])) _).setCell (.inl (by simp[gK.fp,pK,ao])) _
 clear h;go_enter Tryz.func168,Tryz.ntmps168;go_wp2;go_region;go_wp2;go_end0;exact⟨rfl,fin.drew,fr.drew⟩
theorem ed(w:World)(L:gK)(H:Hp)(h:cT w L H)(x y:Int)(b:Bool)(hb:H.bK x y=b)(J:0<=x/\x<H.at_.length)(hy:0<=y/\y<H.at_.length):
  Calls Tryz.prog 167 #[.pointer (some ⟨L.a,0,none⟩), .int .i64 x, .int .i64 y] w fun e w'=>e= .returned (.bool b)/\∃n,w.drewN n=w':=
 (heap_ahead w L H h x y J.1 J.2 hy.1 hy.2).mono fun _ _ ⟨he,hw⟩=>⟨by rw[he,hb],hw⟩
theorem Hp.eR(H:Hp)(i x:Int):(H.put i x).items.length=H.items.length:=by simp[Hp.put]
theorem Hp.vp(H:Hp)(i x:Int):(H.put i x).at_.length=H.at_.length:=by simp[Hp.put]
def Hp.LT(H:Hp):Prop:=∀j:Nat,j<H.items.length->0<=H.items[j]! /\H.items[j]! <H.at_.length
theorem Hp.LT.it{H:Hp}(h:H.LT){i:Int}(J:0<=i)(h1:i<H.items.length):0<=H.it i/\H.it i<H.at_.length:=h i.toNat (by omega)
theorem Hp.LT.put{H:Hp}(h:H.LT){i x:Int}(GP:0<=x)(gU:x<H.at_.length):(H.put i x).LT:=by
 intro j hj;have J:j<H.items.length:=by simpa[Hp.put]using hj
 have :=h j J;simp only[Hp.put,aw];by_cases e:i.toNat=j
 ·subst e;simp[J];omega
 ·have :(H.items.set i.toNat x)[j]! =H.items[j]! :=by simp[aa,e]
  rw[this];assumption
def Hp.Di(x:Int):Nat->Hp->Nat->Hp
 |0,H,i=>H.put i x
 |f+1,H,i=>if 0<i/\H.bK x (H.it (((i-1)/2:Nat):Int))=true then Di x f (H.put i (H.it (((i-1)/2:Nat):Int))) ((i-1)/2)else H.put i x
theorem Hp.aap{x:Int}{f:Nat}{H:Hp}{i:Nat}(hi:0<i)(J:H.bK x (H.it (((i-1)/2:Nat):Int))=true)(hf:i<f):
  Hp.Di x f H i=Hp.Di x (f-1) (H.put i (H.it (((i-1)/2:Nat):Int))) ((i-1)/2):=by
 obtain⟨f,rfl⟩:∃g,f=g+1:=⟨f-1,by omega⟩
 simp only[Hp.Di,dt];rw[qai ⟨hi,J⟩]
theorem Hp.FM{x:Int}{f:Nat}{H:Hp}{i:Nat}(h:¬(0<i/\H.bK x (H.it (((i-1)/2:Nat):Int))=true)):Hp.Di x f H i=H.put i x:=by
 cases f with
 |zero=>rfl
 |succ f=>simp only[Hp.Di];rw[qah h]
theorem Nx(w:World)(L:gK)(H:Hp)(h:cT w L H)(hr:H.LT)(i:Nat)(Vm:i<H.items.length):
  Calls Tryz.prog 148 #[.pointer (some ⟨L.a,0,none⟩), .int .i64 i] w fun e w'=>e= .returned (.tuple #[])/\cT w' L (Hp.Di (H.it i) (i+1) H i)/\Fr L.fp w w':=by
 have o0:=h.obj.cell 0;simp at o0;have hm:=h.items.len;unfold maxLen at hm;obtain⟨g,hg,ci,fi⟩:=h.kY (i:=i) (by omega) (by omega);rw[hg]at o0;have J:=hr.it (i:=i) (by omega) (by omega);obtain⟨x,xE⟩:∃x,H.it i=x:=⟨_,rfl⟩
 rw[xE]at ci J⊢;have ar:w.cell? ⟨g,i,none⟩=some (.int .i64 x):=by simpa using ci
 clear ci fi xE;have oQ:(i:Int)<H.items.length:=by omega
 go_enter Tryz.func148,Tryz.ntmps148;go_wp2
 go_loopw [1] (fun iv wr=>∃(k f:Nat)(K:Hp),iv= .int .i64 k/\cT wr L K/\K.LT/\K.items.length=H.items.length/\K.at_.length=H.at_.length/\k<H.items.length/\k<f/\
   aj (Hp.Di x (i+1) H i=Hp.Di x f K k)/\Fr L.fp w wr) (fun iv _=>(intOf iv).toNat)
 case atStart=>exact⟨i,i+1,H,rfl,h,hr,rfl,rfl,Vm,by omega,rfl,Fr.refl _ _⟩
 case round=>
  obtain⟨k,f,K,rfl,hK,ZH,l1,l2,hk,ab,HE,xK⟩:=hrel;have q0:=hK.obj.cell 0;simp only[l1,hg,dj,cK]at q0;by_cases He:0<k
  ·obtain⟨g',pK,cp,_⟩:=hK.kY (i:=((k-1)/2:Nat)) (by omega) (by omega);rw[hg]at pK;cases pK;have hy:=ZH.it (i:=((k-1)/2:Nat)) (by omega) (by omega);obtain⟨y,wV⟩:∃y,K.it (((k-1)/2:Nat):Int)=y:=⟨_,rfl⟩
   rw[wV]at cp hy;have aB:wr.cell? ⟨g,(k-1)/2,none⟩=some (.int .i64 y):=cp;clear cp;have ad:(0:Int)<(k:Int):=by omega
   have HK:=ae hK;have HL:=ae l1;have HM:=ae l2;have Er:(k:Int)<H.items.length:=by omega
   cases ha:K.bK x y with
   |true=>
    have HS:aj (Hp.Di x f K k=Hp.Di x (f-1) (K.put k y) ((k-1)/2)):=by have :=Hp.aap (x:=x) (f:=f) (H:=K) He (by rw[wV];exact ha) ab;rw[wV]at this;exact this
    have HA:=ae ha;have HY:=ae wV;clear ha wV hK l1 l2;go_wp2_with fail;refine(ed _ L K HK.o x y true HA.o (by rw[HM.o];exact J) hy).mono ?_;rintro e w1 ⟨rfl,n1,rfl⟩;go_wp2_with fail;refine(ip _ L K (HK.o.drewN _) k y (by omega) (by rw[HL.o];omega) hy.1 hy.2).mono ?_;rintro e w1 ⟨rfl,hp,di⟩;have HP:=ae hp;clear hp;go_wp2_with fail
    go_roundw
    case rel=>
     exact⟨(k-1)/2,f-1,K.put k y,by go_num,HP.o,ZH.put hy.1 hy.2,by rw[Hp.eR];exact HL.o,by rw[Hp.vp];exact HM.o,by omega,by omega,HE.o.trans HS.o,
      xK.ak (((Fr.refl L.fp wr).drewN n1).ak di)⟩
    case measure=>simp[intOf];omega
   |false=>
    have HS:aj (Hp.Di x f K k=K.put k x):=Hp.FM (by rw[wV,ha];simp);have HA:=ae ha;clear ha wV hK l1 l2;go_wp2_with fail;refine(ed _ L K HK.o x y false HA.o (by rw[HM.o];exact J) hy).mono ?_;rintro e w1 ⟨rfl,n1,rfl⟩;go_wp2_with fail;refine(ip _ L K (HK.o.drewN _) k x (by omega) (by rw[HL.o];omega) J.1 (by rw[HM.o];exact J.2)).mono ?_;rintro e w1 ⟨rfl,hp,di⟩;have HP:=ae hp;clear hp;go_wp2_with fail;go_end0;exact⟨rfl,by rw[HE.o,HS.o];exact HP.o,xK.ak (((Fr.refl L.fp wr).drewN n1).ak di)⟩
  ·have HS:aj (Hp.Di x f K k=K.put k x):=Hp.FM (fun h=>He h.1);have hz:k=0:=by omega
   subst hz;have HK:=ae hK;have HL:=ae l1;have HM:=ae l2;clear hK l1 l2;go_wp2_with fail;refine(ip _ L K HK.o _ x (by omega) (by rw[HL.o];omega) J.1 (by rw[HM.o];exact J.2)).mono ?_;rintro e w1 ⟨rfl,hp,di⟩;have HP:=ae hp;clear hp;go_wp2_with fail;go_end0;exact⟨rfl,by rw[HE.o,HS.o];exact HP.o,xK.ak di⟩
def Hp.bZ(H:Hp)(i:Nat):Nat:=if 2*i+2<H.items.length/\H.bK (H.it ((2*i+2:Nat):Int)) (H.it ((2*i+1:Nat):Int))=true then 2*i+2 else 2*i+1
def Hp.iw(x:Int):Nat->Hp->Nat->Hp
 |0,H,i=>H.put i x
 |f+1,H,i=>if 2*i+1<H.items.length/\H.bK (H.it ((H.bZ i:Nat):Int)) x=true then Hp.iw x f (H.put i (H.it ((H.bZ i:Nat):Int))) (H.bZ i)else H.put i x
theorem Hp.zS{x:Int}{f:Nat}{H:Hp}{i b:Nat}(hb:H.bZ i=b)(hi:2*i+1<H.items.length)(J:H.bK (H.it ((b:Nat):Int)) x=true)(hf:1<=f):
  Hp.iw x f H i=Hp.iw x (f-1) (H.put i (H.it ((b:Nat):Int))) b:=by
 obtain⟨f,rfl⟩:∃g,f=g+1:=⟨f-1,by omega⟩
 simp only[Hp.iw,dt];rw[hb,qai ⟨hi,J⟩]
theorem Hp.pt{x:Int}{f:Nat}{H:Hp}{i:Nat}(h:¬(2*i+1<H.items.length/\H.bK (H.it ((H.bZ i:Nat):Int)) x=true)):Hp.iw x f H i=H.put i x:=by
 cases f with
 |zero=>rfl
 |succ f=>simp only[Hp.iw];rw[qah h]
theorem Pw(w:World)(L:gK)(H:Hp)(h:cT w L H)(hr:H.LT)(i:Nat)(Vm:i<H.items.length)(AE:H.items.length<=4611686018427387903):
  Calls Tryz.prog 183 #[.pointer (some ⟨L.a,0,none⟩), .int .i64 i] w fun e w'=>e= .returned (.tuple #[])/\cT w' L (Hp.iw (H.it i) H.items.length H i)/\Fr L.fp w w':=by
 have o0:=h.obj.cell 0;simp at o0;obtain⟨g,hg,ci,fi⟩:=h.kY (i:=i) (by omega) (by omega);rw[hg]at o0;have hx:=hr.it (i:=i) (by omega) (by omega);obtain⟨x,xE⟩:∃x,H.it i=x:=⟨_,rfl⟩
 rw[xE]at ci hx⊢;have a1:w.cell? ⟨g,i,none⟩=some (.int .i64 x):=by simpa using ci
 clear ci fi xE;have oQ:(i:Int)<H.items.length:=by omega
 go_enter Tryz.func183,Tryz.ntmps183;go_wp2
 go_loopw [1,5] (fun iv kv wr=>∃(k f:Nat)(K:Hp),iv= .int .i64 k/\cT wr L K/\K.LT/\K.items.length=H.items.length/\K.at_.length=H.at_.length/\k<H.items.length/\H.items.length<=k+f/\
   aj (Hp.iw x H.items.length H i=Hp.iw x f K k)/\Fr L.fp w wr) (fun iv _ _=>H.items.length-(intOf iv).toNat)
 case atStart=>exact⟨i,H.items.length,H,rfl,h,hr,rfl,rfl,Vm,by omega,rfl,Fr.refl _ _⟩
 case round=>
  obtain⟨k,f,K,rfl,hK,ZH,l1,l2,hk,bb,HE,xK⟩:=hrel;have q0:=hK.obj.cell 0;simp only[l1,hg,dj,cK]at q0;by_cases hc:2*k+1<H.items.length
  ·have ar:2*(k:Int)+1<H.items.length:=by omega
   obtain⟨g',pK,cp,_⟩:=hK.kY (i:=(2*k+1:Nat)) (by omega) (by omega);rw[hg]at pK;cases pK;have hy:=ZH.it (i:=(2*k+1:Nat)) (by omega) (by omega);obtain⟨y,wV⟩:∃y,K.it ((2*k+1:Nat):Int)=y:=⟨_,rfl⟩
   rw[wV]at cp hy;have ba:wr.cell? ⟨g,2*k+1,none⟩=some (.int .i64 y):=cp;clear cp;have Er:(k:Int)<H.items.length:=by omega
   have HK:=ae hK;have HL:=ae l1;have HM:=ae l2
   --aM aB round aT with aB one aK is found
   by_cases vM:2*k+2<H.items.length
   ·have ad:2*(k:Int)+1+1<H.items.length:=by omega
    obtain⟨g',pK,cp,_⟩:=hK.kY (i:=(2*k+2:Nat)) (by omega) (by omega);rw[hg]at pK;cases pK;have hz:=ZH.it (i:=(2*k+2:Nat)) (by omega) (by omega);obtain⟨z,ab⟩:∃z,K.it ((2*k+2:Nat):Int)=z:=⟨_,rfl⟩
    rw[ab]at cp hz;have XR:wr.cell? ⟨g,2*k+1+1,none⟩=some (.int .i64 z):=cp;clear cp;have e1:IntKind.i64.wrap (2*(k:Int)+1+1)=2*(k:Int)+1+1:=IntWalk.i64_in _ (by omega);have HY:=ae wV;have HZ:=ae ab;have fH:=ae e1;cases ha:K.bK z y with
    |true=>
     have hb:K.bZ k=2*k+2:=by unfold Hp.bZ;rw[qai ⟨by omega,by rw[ab,wV];exact ha⟩]
     have HB:=ae hb;have HA:=ae ha;clear ha wV ab hb hK l1 l2 e1;go_wp2_with fail;have e1:=fH.o;have e2:(2*(k:Int)+1+1).toNat=2*k+1+1:=(by omega)
     have e3:(0:Int)<=2*(k:Int)+1+1:=(by omega)
     have e4:(2*(k:Int)+1).toNat=2*k+1:=(by omega)
     have e5:(0:Int)<=2*(k:Int)+1:=by omega
     go_quiet ((go_at_call 167;exact MT (ed _ L K (HK.o.drewN _) z y true HA.o hz hy)))
     clear e1 e2 e3 e4 e5;go_wp2_with fail;cases J:K.bK z x with
     |true=>
      have HS:aj (Hp.iw x f K k=Hp.iw x (f-1) (K.put k z) (2*k+2)):=by have :=Hp.zS (x:=x) (f:=f) (H:=K) (i:=k) HB.o (by rw[HL.o];exact hc) (by rw[HZ.o];exact J) (by omega);rw[HZ.o]at this;exact this
      have Mx:=ae J;clear J;refine(ed _ L K (HK.o.drewN _) z x true Mx.o hz (by rw[HM.o];exact hx)).mono ?_;rintro e w1 ⟨rfl,n1,rfl⟩;go_wp2_with fail;refine(ip _ L K (HK.o.drewN _) k z (by omega) (by rw[HL.o];omega) hz.1 hz.2).mono ?_;rintro e w1 ⟨rfl,hp,di⟩;have HP:=ae hp;clear hp;go_wp2_with fail
      go_roundw
      case rel=>
       exact⟨2*k+2,f-1,K.put k z,by go_num,HP.o,ZH.put hz.1 hz.2,by rw[Hp.eR];exact HL.o,by rw[Hp.vp];exact HM.o,by omega,by omega,HE.o.trans HS.o,
        xK.ak (((Fr.refl L.fp wr).drewN _).ak di)⟩
      case measure=>simp[intOf];omega
     |false=>
      have HS:aj (Hp.iw x f K k=K.put k x):=Hp.pt (by rw[HB.o,HZ.o,J];simp);have Mx:=ae J;clear J;refine(ed _ L K (HK.o.drewN _) z x false Mx.o hz (by rw[HM.o];exact hx)).mono ?_;rintro e w1 ⟨rfl,n1,rfl⟩;go_wp2_with fail;refine(ip _ L K (HK.o.drewN _) k x (by omega) (by rw[HL.o];omega) hx.1 (by rw[HM.o];exact hx.2)).mono ?_;rintro e w1 ⟨rfl,hp,di⟩;have HP:=ae hp;clear hp;go_wp2_with fail;go_end0;exact⟨rfl,by rw[HE.o,HS.o];exact HP.o,xK.ak (((Fr.refl L.fp wr).drewN _).ak di)⟩
    |false=>
     have hb:K.bZ k=2*k+1:=by unfold Hp.bZ;rw[qah (by rw[ab,wV,ha];simp)]
     have HB:=ae hb;have HA:=ae ha;clear ha wV ab hb hK l1 l2 e1;go_wp2_with fail;have e1:=fH.o;have e2:(2*(k:Int)+1+1).toNat=2*k+1+1:=(by omega)
     have e3:(0:Int)<=2*(k:Int)+1+1:=(by omega)
     have e4:(2*(k:Int)+1).toNat=2*k+1:=(by omega)
     have e5:(0:Int)<=2*(k:Int)+1:=by omega
     go_quiet ((go_at_call 167;exact MT (ed _ L K (HK.o.drewN _) z y false HA.o hz hy)))
     clear e1 e2 e3 e4 e5;go_wp2_with fail;cases J:K.bK y x with
     |true=>
      have HS:aj (Hp.iw x f K k=Hp.iw x (f-1) (K.put k y) (2*k+1)):=by have :=Hp.zS (x:=x) (f:=f) (H:=K) (i:=k) HB.o (by rw[HL.o];exact hc) (by rw[HY.o];exact J) (by omega);rw[HY.o]at this;exact this
      have Mx:=ae J;clear J;refine(ed _ L K (HK.o.drewN _) y x true Mx.o hy (by rw[HM.o];exact hx)).mono ?_;rintro e w1 ⟨rfl,n1,rfl⟩;go_wp2_with fail;refine(ip _ L K (HK.o.drewN _) k y (by omega) (by rw[HL.o];omega) hy.1 hy.2).mono ?_;rintro e w1 ⟨rfl,hp,di⟩;have HP:=ae hp;clear hp;go_wp2_with fail
      go_roundw
      case rel=>
       exact⟨2*k+1,f-1,K.put k y,by go_num,HP.o,ZH.put hy.1 hy.2,by rw[Hp.eR];exact HL.o,by rw[Hp.vp];exact HM.o,by omega,by omega,HE.o.trans HS.o,
        xK.ak (((Fr.refl L.fp wr).drewN _).ak di)⟩
      case measure=>simp[intOf];omega
     |false=>
      have HS:aj (Hp.iw x f K k=K.put k x):=Hp.pt (by rw[HB.o,HY.o,J];simp);have Mx:=ae J;clear J;refine(ed _ L K (HK.o.drewN _) y x false Mx.o hy (by rw[HM.o];exact hx)).mono ?_;rintro e w1 ⟨rfl,n1,rfl⟩;go_wp2_with fail;refine(ip _ L K (HK.o.drewN _) k x (by omega) (by rw[HL.o];omega) hx.1 (by rw[HM.o];exact hx.2)).mono ?_;rintro e w1 ⟨rfl,hp,di⟩;have HP:=ae hp;clear hp;go_wp2_with fail;go_end0;exact⟨rfl,by rw[HE.o,HS.o];exact HP.o,xK.ak (((Fr.refl L.fp wr).drewN _).ak di)⟩
   ·have ad:decide (2*(k:Int)+1+1<H.items.length)=false:=qaj (by omega);have hb:K.bZ k=2*k+1:=by unfold Hp.bZ;rw[qah (by rw[l1];omega)]
    have e1:IntKind.i64.wrap (2*(k:Int)+1+1)=2*(k:Int)+1+1:=IntWalk.i64_in _ (by omega);have HB:=ae hb;have HY:=ae wV;have fH:=ae e1;clear wV hb hK l1 l2 e1;go_wp2_with fail;have e1:=fH.o
    go_quiet (fail)
    clear e1;go_wp2_with fail;cases J:K.bK y x with
    |true=>
     have HS:aj (Hp.iw x f K k=Hp.iw x (f-1) (K.put k y) (2*k+1)):=by have :=Hp.zS (x:=x) (f:=f) (H:=K) (i:=k) HB.o (by rw[HL.o];exact hc) (by rw[HY.o];exact J) (by omega);rw[HY.o]at this;exact this
     have Mx:=ae J;clear J;refine(ed _ L K (HK.o.drewN _) y x true Mx.o hy (by rw[HM.o];exact hx)).mono ?_;rintro e w1 ⟨rfl,n1,rfl⟩;go_wp2_with fail;refine(ip _ L K (HK.o.drewN _) k y (by omega) (by rw[HL.o];omega) hy.1 hy.2).mono ?_;rintro e w1 ⟨rfl,hp,di⟩;have HP:=ae hp;clear hp;go_wp2_with fail
     go_roundw
     case rel=>
      exact⟨2*k+1,f-1,K.put k y,by go_num,HP.o,ZH.put hy.1 hy.2,by rw[Hp.eR];exact HL.o,by rw[Hp.vp];exact HM.o,by omega,by omega,HE.o.trans HS.o,
       xK.ak (((Fr.refl L.fp wr).drewN _).ak di)⟩
     case measure=>simp[intOf];omega
    |false=>
     have HS:aj (Hp.iw x f K k=K.put k x):=Hp.pt (by rw[HB.o,HY.o,J];simp);have Mx:=ae J;clear J;refine(ed _ L K (HK.o.drewN _) y x false Mx.o hy (by rw[HM.o];exact hx)).mono ?_;rintro e w1 ⟨rfl,n1,rfl⟩;go_wp2_with fail;refine(ip _ L K (HK.o.drewN _) k x (by omega) (by rw[HL.o];omega) hx.1 (by rw[HM.o];exact hx.2)).mono ?_;rintro e w1 ⟨rfl,hp,di⟩;have HP:=ae hp;clear hp;go_wp2_with fail;go_end0;exact⟨rfl,by rw[HE.o,HS.o];exact HP.o,xK.ak (((Fr.refl L.fp wr).drewN _).ak di)⟩
  ·have HS:aj (Hp.iw x f K k=K.put k x):=Hp.pt (fun h=>hc (by rw[<-l1];exact h.1));have ar:¬2*(k:Int)+1<H.items.length:=by omega
   have HK:=ae hK;have HL:=ae l1;have HM:=ae l2;clear hK l1 l2;go_wp2_with fail;refine(ip _ L K HK.o k x (by omega) (by rw[HL.o];omega) hx.1 (by rw[HM.o];exact hx.2)).mono ?_;rintro e w1 ⟨rfl,hp,di⟩;have HP:=ae hp;clear hp;go_wp2_with fail;go_end0;exact⟨rfl,by rw[HE.o,HS.o];exact HP.o,xK.ak di⟩
theorem nh:(Tryz.prog.info? 3).map (fun i=>(i.zero,i.size,i.bytes))=some (some (.int .i64 0),1,8):=by kernel_rfl
theorem k7{A:Option Addr}{n c:Nat}:∀k,(Value.slice A n c).ownBlock=some k↔k∈ao A:=by
 intro k;rcases A with _ |J
 ·simp[Value.ownBlock,ao]
 ·simp[Value.ownBlock,ao,eq_comm]
theorem qq(w:World)(ty:TypeId)(A:Option Addr)(c:Nat)(xs:List Int)(dD:Ints w A c xs)(ad:Addr)(c':Nat)(y:Int)(hy:w.cell? ad=some (.int .i64 y))(hlen:xs.length<17592186044416):
  ∃g cap w',(Builtin.append_ #[22,22] ty #[.slice A xs.length c, .slice (some ad) 1 c']).run Tryz.prog w= .ok (.slice (some ⟨g,0,none⟩) (xs.length+1) cap) w'/\
   Ints w' (some ⟨g,0,none⟩) cap (xs++[y])/\Fr (ao A) w w'/\(g∈ao A\/g=w.heap.size)/\w.heap.size<=w'.heap.size:=by
 obtain⟨i0,hi,zq,pj,AD⟩:=info_parts nh;obtain⟨v',w',hr,h2,h3,h4,J⟩:=run_append_own_at (P:=Tryz.prog) w 0 22 ty 3 i0 (.int .i64 0) 1 8 Tryz.underlying22 hi zq pj AD rfl (by decide) (.slice A xs.length c) xs.length _ dD
  ad 1 c' [.int .i64 y] rfl (by
   intro j u hj
   match j,hj with
   |0,hj=>
    simp at hj;subst hj;simpa[Addr.add]using hy) (by simp[Value.oneCell']) (by unfold maxLen;omega) (by omega) (aU _)
 have hv:∃g cap,v'= .slice (some ⟨g,0,none⟩) (xs.length+1) cap:=by
  rcases h2.2 with⟨_,h0⟩ |⟨g,cap,cur,hv,_⟩
  ·omega
  ·exact⟨g,cap,hv⟩
 obtain⟨g,cap,rfl⟩:=hv;refine⟨g,cap,w',hr,?_,?_,?_,h3.size⟩
 ·unfold Ints;simpa using h2
 ·exact(Fr.refl _ w).grown h3 fun k hk=> .inl ((k7 k).1 hk)
 ·rcases J with J |J
  ·exact .inl ((k7 g).1 J.symm)
  ·simp only[Value.ownBlock,Option.some.injEq]at J;exact .inr J
theorem cL(w:World){ops:Array Oper}{rest:List Oper}{o:Oper}{a:Act}{Q:Exit->Act->World->Prop}(rA:o.guard=none)(s x:Operand)
  (ho:o.op= .call { callee:= .builtin .append,args:=#[s,x],argTypes:=#[22,22] }) (A:Option Addr) (c:Nat) (xs:List Int) (n:Nat) (hs:a.eval s= .slice A n c) (hn:n=xs.length) (dD:Ints w A c xs)
  (J:Addr) (c':Nat) (y:Int) (hx:a.eval x= .slice (some J) 1 c') (hy:w.cell? J=some (.int .i64 y)) (hlen:xs.length<17592186044416)
  (h:∀g cap w',Ints w' (some ⟨g,0,none⟩) cap (xs++[y])->Fr (ao A) w w'->(g∈ao A\/g=w.heap.size)->w.heap.size<=w'.heap.size->wpList Tryz.prog ops Q rest (a.put o.dst (.slice (some ⟨g,0,none⟩) (n+1) cap)) w'):
  wpList Tryz.prog ops Q (o::rest) a w:=by
 subst hn;refine wpList_plain rA fun K hK=> ?_;obtain⟨g,cap,w',hr,h2,h3,h4,h5⟩:=qq w o.type A c xs dD J c' y hy hlen;unfold Oper.wp execOp;simp only[ho,resolve,invoke,builtin,Sem.run_bind,Sem.run_pure,Result.andThen_ok,List.map_toArray,dJ,fQ,hs,hx,hr];exact hK _ _ (h g cap w' h2 h3 h4 h5)
theorem co{w:World}{ops:Array Oper}{o:Oper}{a:Act}{K:Act->World->Prop}{Q:Exit->Act->World->Prop}{E:Prop}(rA:o.guard=none)(s x:Operand)
  (ho:o.op= .call { callee:= .builtin .append,args:=#[s,x],argTypes:=#[22,22] }) (A:Option Addr) (c:Nat) (xs:List Int) (n:Nat) (hs:a.eval s= .slice A n c) (hn:n=xs.length) (dD:Ints w A c xs)
  (J:Addr) (c':Nat) (y:Int) (hx:a.eval x= .slice (some J) 1 c') (hy:w.cell? J=some (.int .i64 y)) (hlen:xs.length<17592186044416)
  (h:∀g cap w',Ints w' (some ⟨g,0,none⟩) cap (xs++[y])->Fr (ao A) w w'->(g∈ao A\/g=w.heap.size)->w.heap.size<=w'.heap.size->K (a.put o.dst (.slice (some ⟨g,0,none⟩) (n+1) cap)) w'):
  if Region.wanted o (yielded ops a.tmps)=true then Oper.wp Tryz.prog o a w K Q else E:=by
 have hw:Region.wanted o (yielded ops a.tmps)=true:=by simp[Region.wanted,rA]
 rw[qai hw];subst hn;obtain⟨g,cap,w',hr,h2,h3,h4,h5⟩:=qq w o.type A c xs dD J c' y hy hlen;unfold Oper.wp execOp;simp only[ho,resolve,invoke,builtin,Sem.run_bind,Sem.run_pure,Result.andThen_ok,List.map_toArray,dJ,fQ,hs,hx,hr];exact h g cap w' h2 h3 h4 h5
theorem Ho(w:World)(L:gK)(H:Hp)(h:cT w L H):
  Calls Tryz.prog 182 #[.pointer (some ⟨L.a,0,none⟩)] w fun e w'=>e= .returned (.int .i64 H.items.length)/\w=w':=by
 have J:=h.obj.cell 0;simp at J;go_enter Tryz.func182,Tryz.ntmps182;go_wp2;go_ret;exact⟨rfl,rfl⟩
theorem Hp.dP{H:Hp}{x:Int}(h:H.kb x=true):0<=x/\x<H.at_.length:=by simpa[Hp.kb]using h
theorem jJ(w:World)(L:gK)(H:Hp)(h:cT w L H)(x:Int)(b:Bool)(J:H.kb x=b):
  Calls Tryz.prog 147 #[.pointer (some ⟨L.a,0,none⟩), .int .i64 x] w fun e w'=>e= .returned (.bool b)/\w=w':=by
 subst J;exact Xu w L H h x
theorem cT.alloc{w:World}{L:gK}{H:Hp}(h:cT w L H)(o:Obj):cT (w.alloc o) L H:=
 ⟨h.obj.alloc o,h.items.alloc o,h.at_.alloc o,h.score.alloc o,h.nodup,h.same⟩
theorem cT.fr{w w':World}{L:gK}{H:Hp}{S:List Nat}(h:cT w L H)(J:Fr S w w')(hd:∀k,k∈L.fp->k∉S):cT w' L H:=
 ⟨J.at_ h.obj (hd _ (by simp[gK.fp])),h.items.fr J fun k hk=>hd k (by simp[gK.fp,hk]),h.at_.fr J fun k hk=>hd k (by simp[gK.fp,hk]),h.score.fr J fun k hk=>hd k (by simp[gK.fp,hk]),h.nodup,h.same⟩
theorem cT.lt{w:World}{L:gK}{H:Hp}(h:cT w L H):∀k,k∈L.fp->k<w.heap.size:=by
 intro k hk;simp only[gK.fp,ay,ah]at hk;rcases hk with rfl |hk |hk |hk
 ·exact h.obj.lt
 ·exact h.items.lt k hk
 ·exact h.at_.lt k hk
 ·exact h.score.lt k hk
theorem cT.R9{w w':World}{L:gK}{H:Hp}(h:cT w L H){g cap:Nat}{items:List Int}(hi:Ints w' (some ⟨g,0,none⟩) cap items)(hf:Fr (ao L.A1) w w')(J:g∈ao L.A1\/g=w.heap.size):
  cT (w'.setCell ⟨L.a,0,none⟩ (.slice (some ⟨g,0,none⟩) items.length cap)) { L with A1:=some ⟨g,0,none⟩,c1:=cap } { H with items:=items }:=by
 obtain⟨h1,h2,h3⟩:=jz h.nodup;have bt:=h.lt;have rB:g≠L.a:=by
  rcases J with J |J
  ·exact(h1 g J).1
  ·have :=h.obj.lt;omega
 have fu:g∉ao L.A2:=by
  rcases J with J |J
  ·exact(h1 g J).2.1
  ·intro hk;have :=h.at_.lt g hk;omega
 have AK:g∉ao L.A3:=by
  rcases J with J |J
  ·exact(h1 g J).2.2
  ·intro hk;have :=h.score.lt g hk;omega
 have hb:ao (some ⟨g,0,none⟩)=[g]:=rfl;refine⟨?_,?_,?_,?_,?_,h.same⟩
 ·have :=(hf.at_ h.obj (fun hk=>(h1 _ hk).1 rfl)).dL 0 (.slice (some ⟨g,0,none⟩) items.length cap);simpa using this
 ·exact hi.ie (by rw[hb];simpa using fun e=>rB e.symm) _
 ·exact(h.at_.fr hf fun k hk lQ=>(h1 k lQ).2.1 hk).ie (fun hk=>(h2 _ hk).1 rfl) _
 ·exact(h.score.fr hf fun k hk lQ=>(h1 k lQ).2.2 hk).ie (fun hk=>(h3 _ hk).1 rfl) _
 ·have hn:=h.nodup;simp only[gK.fp,kg,ah,List.nodup_append,hb,ag,bi,not_false_eq_true,List.nodup_nil,true_and,and_true]at hn⊢;obtain⟨n1,n2,n3,n4⟩:=hn;refine⟨?_,n3,?_⟩
  ·rintro(e |hk)
   ·exact rB e.symm
   ·exact n1 (.inr hk)
  ·rintro _ rfl b ab rfl;exact ab.elim fu AK
def Hp.tY(H:Hp)(x:Int):Hp:=Hp.Di x (H.items.length+1) { H with items:=H.items++[x],at_:=H.at_.set x.toNat H.items.length } H.items.length
def gK.ext(L L':gK)(w:World):Prop:=L'.a=L.a/\(∀k,k∈L'.fp->k∈L.fp\/w.heap.size<=k)/\(L.A2.isSome=true->L'.A2.isSome=true)
theorem Ey(w:World)(L:gK)(H:Hp)(h:cT w L H)(x:Int)(hx:H.kb x=false\/H.kb x=true/\0<=H.pl x):
  Calls Tryz.prog 114 #[.pointer (some ⟨L.a,0,none⟩), .int .i64 x] w fun e w'=>e= .returned (.bool false)/\w=w':=by
 have o1:=h.obj.cell 1;simp at o1;rcases hx with J |⟨J,hp⟩
 ·have HB:=ae J;have HH:=ae h;clear J h;go_enter Tryz.func114,Tryz.ntmps114;go_wp2_with fail;refine(jJ _ L H HH.o x false HB.o).mono ?_;rintro e w1 ⟨rfl,rfl⟩;go_wp2;go_ret;exact⟨rfl,rfl⟩
 ·obtain⟨h0,h1⟩:=Hp.dP J;obtain⟨g,hg,ci,fi⟩:=h.Am h0 h1;rw[hg]at o1;have HB:=ae J;have HH:=ae h;clear J h;go_enter Tryz.func114,Tryz.ntmps114;go_wp2_with fail;refine(jJ _ L H HH.o x true HB.o).mono ?_;rintro e w1 ⟨rfl,rfl⟩;go_wp2;go_ret;exact⟨rfl,rfl⟩
theorem Bm(w:World)(L:gK)(H:Hp)(h:cT w L H)(hr:H.LT)(x:Int)(hb:H.kb x=true)(hp:H.pl x<0)(hlen:H.items.length<1048576):
  Calls Tryz.prog 114 #[.pointer (some ⟨L.a,0,none⟩), .int .i64 x] w fun e w'=>e= .returned (.bool true)/\∃L',cT w' L' (H.tY x)/\L.ext L' w/\Fr L.fp w w':=by
 have o0:=h.obj.cell 0;have o1:=h.obj.cell 1;simp at o0 o1;obtain⟨h0,h1⟩:=Hp.dP hb;obtain⟨g2,J,ci,fi⟩:=h.Am h0 h1;rw[J]at o1;have oa:=h.obj.frozen 0;have HB:=ae hb;have HH:=ae h;have HR:=ae hr;have qT:=ae J;have bt:=h.obj.lt;clear hb h hr J;go_enter Tryz.func114,Tryz.ntmps114;go_wp2_with fail;refine(jJ _ L H HH.o x true HB.o).mono ?_;rintro e w1 ⟨rfl,rfl⟩;have xq:aj (L.a∉ao L.A1):=fun hk=>((jz HH.o.nodup).1 _ hk).1 rfl;go_wp2_with (at_builtin;refine cL _ rfl _ _ rfl L.A1 L.c1 H.items _ rfl rfl (HH.o.items.alloc _) ⟨w.heap.size,0,none⟩ 1 x rfl (by simp) (by omega) ?_;intro g cap w2 oQ cE J jB;have q2:=cE.at_ (HH.o.obj.alloc _) xq.o;have q3:=q2.cell 0;have q4:=q2.frozen 0;simp at q3;have HI:=ae oQ;have HF:=ae cE;have HQ:=ae J;have HS:=ae jB;clear q2 oQ cE J jB)
 have hN:cT (w2.setCell ⟨L.a,0,none⟩ (.slice (some ⟨g,0,none⟩) (H.items.length+1) cap)) { L with A1:=some ⟨g,0,none⟩,c1:=cap } { H with items:=H.items++[x] }:=by have :=cT.R9 (HH.o.alloc _) HI.o HF.o HQ.o;simpa using this
 have hF:Fr L.fp w (w2.setCell ⟨L.a,0,none⟩ (.slice (some ⟨g,0,none⟩) (H.items.length+1) cap)):=
  (((Fr.refl L.fp w).alloc _).trans HF.o (fun k hk=> .inl (by simp[gK.fp,hk]))).setCell (.inl (by simp[gK.fp])) _
 have hX:∀k,k∈({ L with A1:=some ⟨g,0,none⟩,c1:=cap }:gK).fp->k∈L.fp\/w.heap.size<=k:=by
  intro k hk;simp only[gK.fp,ay,ah,ao,dA,eD,bi,or_false]at hk⊢;rcases hk with hk |hk |hk |hk
  ·exact .inl (.inl hk)
  ·rcases HQ.o with hq |hq
   ·exact .inl (.inr (.inl (by rw[hk];exact hq)))
   ·right;rw[hk,hq];simp
  ·exact .inl (.inr (.inr (.inl hk)))
  ·exact .inl (.inr (.inr (.inr hk)))
 obtain⟨W,hW⟩:∃W,W=w2.setCell ⟨L.a,0,none⟩ (.slice (some ⟨g,0,none⟩) (H.items.length+1) cap):=⟨_,rfl⟩
 rw[<-hW]at hN hF⊢;clear hW o0 o1 ci fi oa q3 q4;have p0:=hN.obj.cell 0;have p1:=hN.obj.cell 1;simp[qT.o]at p0 p1;have J:=qT.o;obtain⟨g',pK,ci,fi⟩:=hN.Am (i:=x) h0 h1;simp only[J,Option.some.injEq,Addr.mk.injEq,and_true]at pK;subst pK;have hM:=hN.aaw (g:=g2) J x.toNat H.items.length;have HM:=ae hM;have HF:=ae hF;have HX:=ae hX;clear hM hF hX hN J;have ab:(H.items.length:Int)<1048576:=by omega
 go_region;obtain⟨V,hV⟩:∃V,V=(W.setCell ⟨g2,x.toNat,none⟩ (.int .i64 H.items.length)).drew:=⟨_,rfl⟩
 rw[<-hV];have hM:cT V { L with A1:=some ⟨g,0,none⟩,c1:=cap } { H with items:=H.items++[x],at_:=H.at_.set x.toNat H.items.length }:=by rw[hV];exact HM.o.drew
 have zC:Fr L.fp w V:=by rw[hV];exact(HF.o.setCell (.inl (by simp[gK.fp,qT.o,ao])) _).drew
 clear hV p0 p1 ci fi HM HF hp;have p1:=hM.obj.cell 1;simp[qT.o]at p1;have J:=qT.o;obtain⟨g',pK,ci,_⟩:=hM.Am (i:=x) h0 (by simpa using h1);simp only[J,Option.some.injEq,Addr.mk.injEq,and_true]at pK;subst pK;have jn:x.toNat<H.at_.length:=by omega
 simp only[Hp.pl,aa,kj jn,aJ]at ci;have HM:=ae hM;have HF:=ae zC;clear hM zC J;go_wp2_with fail;refine(Nx _ _ _ HM.o ?_ H.items.length (by simp)).mono ?_
 ·intro j hj;have ad:j<H.items.length+1:=by simpa using hj
  simp only[aw];by_cases e:j<H.items.length
  ·have :(H.items++[x])[j]! =H.items[j]! :=by simp[aa,cV e]
   rw[this];exact HR.o j e
  ·have e':j=H.items.length:=by omega
   subst e';have :(H.items++[x])[H.items.length]! =x:=by simp
   rw[this];exact⟨h0,h1⟩
 rintro e w1 ⟨rfl,hp,di⟩;have HP:=ae hp;have dZ:=ae di;clear hp di p1 ci;go_wp2;go_ret;refine⟨rfl,{ L with A1:=some ⟨g,0,none⟩,c1:=cap },?_,⟨rfl,HX.o,id⟩,?_⟩
 ·have :=HP.o;have e1:Hp.it { H with items:=H.items++[x],at_:=H.at_.set x.toNat H.items.length } (H.items.length:Nat)=x:=by simp[Hp.it]
  rw[e1]at this;exact this
 ·exact HF.o.trans dZ.o HX.o
theorem Hn(w:World)(L:gK)(H:Hp)(h:cT w L H)(hn:H.items=[]):
  Calls Tryz.prog 166 #[.pointer (some ⟨L.a,0,none⟩)] w fun e w'=>e= .returned (.tuple #[.int .i64 0, .bool false])/\w=w':=by
 have hl:=Ho w L H h;rw[hn]at hl;have J:=ae hl;clear hl h;go_enter Tryz.func166,Tryz.ntmps166;go_wp2_with fail;refine J.o.mono ?_;rintro e w1 ⟨rfl,rfl⟩;go_wp2;go_ret2;exact⟨rfl,rfl⟩
def Hp.lu(H:Hp):Hp:=
 let n:=H.items.length-1;let K:Hp:={ H with items:=H.items.take n,at_:=H.at_.set (H.it 0).toNat (-1) }
 if n=0 then K else Hp.iw (H.it n) n (K.put 0 (H.it n)) 0
theorem cT.cut{w:World}{L:gK}{H:Hp}(h:cT w L H)(k:Nat)(hk:k<=H.items.length):cT (w.setCell ⟨L.a,0,none⟩ (.slice L.A1 k L.c1)) L { H with items:=H.items.take k }:=by
 obtain⟨h1,J,h3⟩:=jz h.nodup;refine⟨?_,?_,?_,?_,h.nodup,h.same⟩
 ·have :=h.obj.dL 0 (.slice L.A1 k L.c1);have e:(H.items.take k).length=k:=by simp;omega
  simpa[e]using this
 ·exact(h.items.qg k).ie (fun hk=>(h1 _ hk).1 rfl) _
 ·exact h.at_.ie (fun hk=>(J _ hk).1 rfl) _
 ·exact h.score.ie (fun hk=>(h3 _ hk).1 rfl) _
theorem Ez(w:World)(L:gK)(H:Hp)(h:cT w L H)(hr:H.LT)(n:Nat)(hn:H.items.length=n+1)(hlen:H.items.length<1048576):
  Calls Tryz.prog 166 #[.pointer (some ⟨L.a,0,none⟩)] w fun e w'=>e= .returned (.tuple #[.int .i64 (H.it 0), .bool true])/\cT w' L H.lu/\Fr L.fp w w':=by
 have o0:=h.obj.cell 0;have o1:=h.obj.cell 1;simp at o0 o1;obtain⟨g,hg,c0,_⟩:=h.kY (i:=0) (by omega) (by omega);obtain⟨g',pK,cn,_⟩:=h.kY (i:=n) (by omega) (by omega);rw[hg]at pK o0;cases pK;have hx:=hr.it (i:=0) (by omega) (by omega);have hy:=hr.it (i:=n) (by omega) (by omega);obtain⟨g2,fu,cx,fx⟩:=h.Am hx.1 hx.2;rw[fu]at o1;have hl:=Ho w L H h;rw[hn]at hl o0;have vK:n+1<=L.c1:=by
  rcases h.items.form with⟨_,_,h0⟩ |⟨_,_,_,h0,_⟩
  ·rw[h0]at hn;simp at hn
  ·omega
 have dV:g≠g2:=fun e=>((jz h.nodup).1 g (by simp[hg,ao])).2.1 (by simp[fu,ao,e]);have a1:L.a≠g2:=fun e=>((jz h.nodup).2.1 g2 (by simp[fu,ao])).1 e.symm;have oa:=h.obj.frozen 0;have hM:=(h.cut n (by omega)).aaw (g:=g2) fu (H.it 0).toNat (-1);rw[hg]at hM;have hF:Fr L.fp w ((w.setCell ⟨L.a,0,none⟩ (.slice (some ⟨g,0,none⟩) n L.c1)).setCell ⟨g2,(H.it 0).toNat,none⟩ (.int .i64 (-1))):=
  ((Fr.refl L.fp w).setCell (.inl (by simp[gK.fp])) _).setCell (.inl (by simp[gK.fp,fu,ao])) _
 have HM:=ae hM;have HF:=ae hF;have HL:=ae hl;have HG:=ae hg;have qT:=ae fu;have HR:=ae hr;have HN:=ae hn;simp only[Int.toNat_zero,Int.toNat_natCast]at c0 cn;obtain⟨x,xE⟩:∃x,H.it 0=x:=⟨_,rfl⟩
 obtain⟨y,wV⟩:∃y,H.it n=y:=⟨_,rfl⟩
 rw[xE]at c0 cx fx hx HM HF⊢;rw[wV]at cn hy;have ab:=ae xE;have aK:=ae wV;have rP:(n:Int)+1<1048576:=by omega
 clear hM hF hl hg fu hr hn xE wV h hlen;go_enter Tryz.func166,Tryz.ntmps166;go_wp2_with fail;refine HL.o.mono ?_;rintro e w1 ⟨rfl,rfl⟩;have ez:((n:Int)+1==0)=false:=aab.2 (by omega);have aM:(((n+1:Nat):Int)==0)=false:=aab.2 (by omega);go_wp2;go_region;go_wp2;go_region;obtain⟨V,hV⟩:∃V,V=((w.setCell ⟨L.a,0,none⟩ (.slice (some ⟨g,0,none⟩) n L.c1)).setCell ⟨g2,x.toNat,none⟩ (.int .i64 (-1))).drew.drew:=⟨_,rfl⟩
 rw[<-hV];have hM:cT V L { H with items:=H.items.take n,at_:=H.at_.set x.toNat (-1) }:=by rw[hV];exact HM.o.drew.drew
 have hF:Fr L.fp w V:=by rw[hV];exact HF.o.drew.drew
 clear hV HM HF o0 o1 c0 cn cx fx oa;have hlen:(H.items.take n).length=n:=by have :=HN.o;simp;omega
 have HM:=ae hM;have HF:=ae hF;have AQ:=ae hlen;clear hM hF hlen;by_cases hz:n=0
 ·subst hz;have HP:aj (H.lu={ H with items:=H.items.take 0,at_:=H.at_.set x.toNat (-1) }):=by show _=_;unfold Hp.lu;rw[HN.o,ab.o];simp
  go_wp2;go_ret2;exact⟨rfl,by rw[HP.o];exact HM.o,HF.o⟩
 ·have Zu:0<n:=by omega
  have HP:aj (H.lu=Hp.iw y n (Hp.put { H with items:=H.items.take n,at_:=H.at_.set x.toNat (-1) } 0 y) 0):=by show _=_;unfold Hp.lu;rw[HN.o,ab.o];simp only[dt];rw[qah hz,aK.o]
  have hK:Hp.LT (Hp.put { H with items:=H.items.take n,at_:=H.at_.set x.toNat (-1) } 0 y):=by
   refine Hp.LT.put (fun j hj=> ?_) hy.1 (by simpa using hy.2);have hl:=AQ.o;have aT:=HN.o;have e:(H.items.take n)[j]! =H.items[j]! :=by simp only[aa,List.getElem?_take];rw[qai (by simp only[hl]at hj;exact hj)]
   simp only[e,aw];exact HR.o j (by simp only[hl]at hj;omega)
  have HK:=ae hK;clear hK hz ez aM;go_wp2_with fail;refine(ip _ L _ HM.o 0 y (by omega) (by rw[show({ H with items:=H.items.take n,at_:=H.at_.set x.toNat (-1) }:Hp).items.length=n from AQ.o];omega) hy.1 (by simpa using hy.2)).mono ?_;rintro e w1 ⟨rfl,hp,di⟩;have ar:=ae hp;have dZ:=ae di;have Cr:(Hp.put { H with items:=H.items.take n,at_:=H.at_.set x.toNat (-1) } 0 y).items.length=n:=by rw[Hp.eR];exact AQ.o
  have ad:(Hp.put { H with items:=H.items.take n,at_:=H.at_.set x.toNat (-1) } 0 y).it (0:Nat)=y:=by
   have hl:=AQ.o;have :0<(H.items.take n).length:=by omega
   simp[Hp.it,Hp.put,aa,kj this]
  have J:=ae Cr;have aB:=ae ad;clear hp di Cr ad;go_wp2_with fail;refine(Pw _ L _ ar.o HK.o 0 (by rw[J.o];omega) (by rw[J.o];omega)).mono ?_;rintro e w2 ⟨rfl,hp,di⟩;have Fz:=ae hp;have df:=ae di;clear hp di;go_wp2;go_ret2;refine⟨rfl,?_,(HF.o.ak dZ.o).ak df.o⟩;rw[HP.o];have :=Fz.o;rw[aB.o,J.o]at this;exact this
def Hp.lq(H:Hp)(x b:Int):Hp:=
 if H.kb x=true/\0<=b/\b<=1099511627776/\H.sc x<=1125899906842624-b then
  let K:Hp:={ H with score:=H.score.set x.toNat (H.sc x+b) }
  if 0<=H.pl x then Hp.Di (K.it (H.pl x)) ((H.pl x).toNat+1) K (H.pl x).toNat else K
 else H
theorem Bl(w:World)(L:gK)(H:Hp)(h:cT w L H)(x b:Int)(tk:¬(H.kb x=true/\0<=b/\b<=1099511627776/\H.sc x<=1125899906842624-b)):
  Calls Tryz.prog 178 #[.pointer (some ⟨L.a,0,none⟩), .int .i64 x, .int .i64 b] w fun e w'=>e= .returned (.tuple #[])/\w=w':=by
 have o2:=h.obj.cell 2;simp at o2;have hs:=h.same;cases J:H.kb x with
 |false=>
  have HB:=ae J;have HH:=ae h;clear J h tk hs;go_enter Tryz.func178,Tryz.ntmps178;go_wp2_with fail;refine(jJ _ L H HH.o x false HB.o).mono ?_;rintro e w1 ⟨rfl,rfl⟩;go_wp2_with fail;refine bodyPost_ret (results_none rfl _ _ _) rfl ?_;exact⟨rfl,rfl⟩
 |true=>
  obtain⟨h0,h1⟩:=Hp.dP J;obtain⟨g,hg,ci⟩:=h.aF h0 h1;rw[hg]at o2;have h2:x<H.score.length:=by omega
  obtain⟨s,Zl⟩:∃s,H.sc x=s:=⟨_,rfl⟩
  rw[Zl]at ci tk;have HB:=ae J;have HH:=ae h;by_cases Cy:b<0
  ·clear J h hs tk;go_enter Tryz.func178,Tryz.ntmps178;go_wp2_with fail;refine(jJ _ L H HH.o x true HB.o).mono ?_;rintro e w1 ⟨rfl,rfl⟩;go_wp2_with fail;refine bodyPost_ret (results_none rfl _ _ _) rfl ?_;exact⟨rfl,rfl⟩
  ·by_cases nq:1099511627776<b
   ·clear J h hs tk;go_enter Tryz.func178,Tryz.ntmps178;go_wp2_with fail;refine(jJ _ L H HH.o x true HB.o).mono ?_;rintro e w1 ⟨rfl,rfl⟩;go_wp2_with fail;refine bodyPost_ret (results_none rfl _ _ _) rfl ?_;exact⟨rfl,rfl⟩
   ·have kZ:1125899906842624-b<s:=by
     rcases Int.lt_or_le (1125899906842624-b) s with h |h
     ·exact h
     ·exact absurd ⟨J,by omega,by omega,h⟩ tk
    clear J h hs tk;go_enter Tryz.func178,Tryz.ntmps178;go_wp2_with fail;refine(jJ _ L H HH.o x true HB.o).mono ?_;rintro e w1 ⟨rfl,rfl⟩;go_wp2_with fail;refine bodyPost_ret (results_none rfl _ _ _) rfl ?_;exact⟨rfl,rfl⟩
theorem cT.akx{w:World}{L:gK}{H:Hp}(h:cT w L H){g:Nat}(hg:L.A3=some ⟨g,0,none⟩)(i:Nat)(x:Int):
  cT (w.setCell ⟨g,i,none⟩ (.int .i64 x)) L { H with score:=H.score.set i x }:=by
 obtain⟨h1,h2,J⟩:=jz h.nodup;have hm:g∈ao L.A3:=by simp[hg,ao]
 refine⟨?_,?_,?_,?_,h.nodup,by simpa using h.same⟩
 ·have :=h.obj.ie (p:=⟨g,i,none⟩) (fun e=>(J g hm).1 e.symm) (.int .i64 x);simpa using this
 ·exact h.items.ie (fun hk=>(J g hm).2.1 hk) _
 ·exact h.at_.ie (fun hk=>(J g hm).2.2 hk) _
 ·have :=h.score;rw[hg]at this⊢;exact this.dL i x
theorem zy(w:World)(L:gK)(H:Hp)(h:cT w L H)(hr:H.LT)(x b:Int)(hb:H.kb x=true)(Cy:0<=b)(nq:b<=1099511627776)(kZ:H.sc x<=1125899906842624-b)(aB:0<=H.sc x)
  (Cr:H.pl x<H.items.length):
  Calls Tryz.prog 178 #[.pointer (some ⟨L.a,0,none⟩), .int .i64 x, .int .i64 b] w fun e w'=>e= .returned (.tuple #[])/\cT w' L (H.lq x b)/\Fr L.fp w w':=by
 have o1:=h.obj.cell 1;have o2:=h.obj.cell 2;simp at o1 o2;have hs:=h.same;obtain⟨h0,h1⟩:=Hp.dP hb;obtain⟨g,hg,ci⟩:=h.aF h0 h1;obtain⟨g2,fu,cx,_⟩:=h.Am h0 h1;have fi:w.frozen? ⟨g,x.toNat,none⟩=false:=by have :=h.score;rw[hg]at this;exact this.frozen _
 rw[hg]at o2;rw[fu]at o1;have dV:g2≠g:=fun e=>((jz h.nodup).2.1 g2 (by simp[fu,ao])).2.2 (by simp[hg,ao,e]);have ad:L.a≠g:=fun e=>((jz h.nodup).2.2 g (by simp[hg,ao])).1 e.symm;have h2:x<H.score.length:=by omega
 have hM:=h.akx hg x.toNat (H.sc x+b);have hF:Fr L.fp w (w.setCell ⟨g,x.toNat,none⟩ (.int .i64 (H.sc x+b))):=(Fr.refl L.fp w).setCell (.inl (by simp[gK.fp,hg,ao])) _;have hD:H.lq x b=if 0<=H.pl x then Hp.Di (Hp.it { H with score:=H.score.set x.toNat (H.sc x+b) } (H.pl x)) ((H.pl x).toNat+1) { H with score:=H.score.set x.toNat (H.sc x+b) } (H.pl x).toNat else{ H with score:=H.score.set x.toNat (H.sc x+b) }:=by unfold Hp.lq;rw[qai ⟨hb,Cy,nq,kZ⟩]
 obtain⟨s,Zl⟩:∃s,H.sc x=s:=⟨_,rfl⟩
 obtain⟨p,ar⟩:∃p,H.pl x=p:=⟨_,rfl⟩
 rw[Zl]at ci kZ aB hM hF hD;rw[ar]at cx Cr hD;have J:(w.setCell ⟨g,x.toNat,none⟩ (.int .i64 (s+b))).cell? ⟨g2,x.toNat,none⟩=some (.int .i64 p):=by rw[World.cell?_setCell_other _ _ _ _ (by simp only[ne_eq,Addr.mk.injEq,not_and];exact fun e=>absurd e.symm dV)];exact cx
 have ab:(w.setCell ⟨g,x.toNat,none⟩ (.int .i64 (s+b))).cell? ⟨L.a,1,none⟩=some (.slice (some ⟨g2,0,none⟩) H.at_.length L.c2):=by rw[World.cell?_setCell_other _ _ _ _ (by simp only[ne_eq,Addr.mk.injEq,not_and];exact fun e=>absurd e.symm ad)];exact o1
 have HB:=ae hb;have HH:=ae h;have HM:=ae hM;have HF:=ae hF;have HD:=ae hD;have HR:=ae hr;have HC:=ae J;have HO:=ae ab;clear hb h hM hF hD Zl ar hr hs cx o1 J ab dV ad hg fu;go_enter Tryz.func178,Tryz.ntmps178;go_wp2_with fail;refine(jJ _ L H HH.o x true HB.o).mono ?_;rintro e w1 ⟨rfl,rfl⟩;obtain⟨V,hV⟩:∃V,V=w.setCell ⟨g,x.toNat,none⟩ (.int .i64 (s+b)):=⟨_,rfl⟩
 have J:=HC.o;have ab:=HO.o;have Bo: -1099511627776<=b:=by omega
 by_cases GW:0<=p
 ·have Zq:(p.toNat:Int)=p:=by omega
  go_wp2_with fail;have e3:(Value.int .i64 p)= .int .i64 (p.toNat:Int):=by rw[Zq]
  rw[e3];refine(Nx _ L _ HM.o (fun j hj=>HR.o j hj) p.toNat (by show p.toNat<H.items.length;omega)).mono ?_;rintro e w2 ⟨rfl,hp,di⟩;have HP:=ae hp;have dZ:=ae di;clear hp di Zq e3;go_wp2_with fail;go_end0;refine⟨rfl,?_,HF.o.ak dZ.o⟩;rw[HD.o,qai GW];have :=HP.o;rw[show((p.toNat:Int))=p from by omega]at this;exact this
 ·go_wp2_with fail;go_end0;refine⟨rfl,?_,HF.o⟩;rw[HD.o,qah (by omega)];exact HM.o
def mJ(J n:Int):Int:=J+min (max n 0) (262144-J)
theorem Pu(w:World)(J n:Int)(h0:0<=J)(h1:J<=262144):
  Calls Tryz.prog 159 #[.int .i64 J, .int .i64 n] w fun e w'=>e= .returned (.int .i64 (mJ J n))/\w=w':=by
 by_cases Zu:n<0
 ·go_enter Tryz.func159,Tryz.ntmps159;go_wp2;go_ret;exact⟨DL (by unfold mJ;omega),rfl⟩
 ·by_cases hb:262144-J<n
  ·go_enter Tryz.func159,Tryz.ntmps159;go_wp2;go_ret;exact⟨DL (by unfold mJ;omega),rfl⟩
  ·go_enter Tryz.func159,Tryz.ntmps159;go_wp2;go_ret;exact⟨DL (by unfold mJ;omega),rfl⟩
end
section
open Go
section
variable {P:Program} {ops:Array Oper} {Q:Exit->Act->World->Prop} {md:Region.Mode} {S:World->Prop} {k:Nat}
def k8(S:World->Prop)(k:Nat)(J:Array Bool)(w:World):Prop:=J.getD k false=true\/S w
def dS(P:Program)(md:Region.Mode)(ops:Array Oper)(Q:Exit->Act->World->Prop)(S:World->Prop)(k:Nat):Nat->Array Bool->Act->World->Prop
 |0,J,a,w=>Region.ready md ops J=[]/\Q .normal a w
 |fuel+1,J,a,w=>
  (Region.ready md ops J=[]->Q .normal a w)/\
  ∀i∈Region.ready md ops J,wpOp P ops Q i (fun a' w'=>k8 S k (J.setIfInBounds i true) w'/\dS P md ops Q S k fuel (J.setIfInBounds i true) a' w') a w
theorem yE:∀(fuel:Nat)(J:Array Bool)(a:Act)(w:World),dS P md ops Q S k fuel J a w->wpAny P md ops Q fuel J a w
 |0,_,_,_,h=>h
 |fuel+1,_,_,_,h=>⟨h.1,fun i hi=>wpOp_mono (fun a' w' h'=>yE fuel _ a' w' h'.2) (h.2 i hi)⟩
def uT(md:Region.Mode)(ops:Array Oper)(C:List Nat)(i:Nat)(aK:Array Bool):Prop:=
 ∀x,x∈C->aK.getD x true=false/\(x=i\/∃y,y∈C/\∃J e,ops[x]? =some J/\e∈J.after/\Region.binds md e=true/\e.on=y)
def chainB(md:Region.Mode)(ops:Array Oper)(C:List Nat)(i k:Nat)(J:Array Bool):Bool:=
 C.contains k&&C.all fun x=> !J.getD x true&&(x==i ||C.any fun y=>match ops[x]? with |some ox=>ox.after.any (fun e=>Region.binds md e&&e.on==y) |none=>false)
theorem Iq{C:List Nat}{i:Nat}{aK:Array Bool}(h:chainB md ops C i k aK=true):k∈C/\uT md ops C i aK:=by
 unfold chainB at h;rw[ax]at h;refine⟨by simpa using h.1,fun x hx=> ?_⟩;have :=cR.1 h.2 x hx;rw[ax]at this;refine⟨by simpa using this.1,?_⟩;rcases Bool.or_eq_true_iff.1 this.2 with h1 |h1
 ·exact .inl (by simpa using h1)
 ·right
  obtain⟨y,hy,h2⟩:=cP.1 h1;cases J:ops[x]? with
  |none=>rw[J]at h2;cases h2
  |some ox=>
   rw[J]at h2;obtain⟨e,he,hb⟩:=Array.any_eq_true'.1 h2;simp only[ax,beq_iff_eq]at hb;exact⟨y,hy,ox,e,rfl,he,hb.1,hb.2⟩
theorem uT.OC{C:List Nat}{i j:Nat}{aK:Array Bool}(h:uT md ops C i aK)(hj:j∈C)(tp:j≠i):j∉Region.ready md ops aK:=by
 intro hr;obtain⟨_,hw⟩:=h j hj;obtain⟨_,oj,Xf,gZ⟩:=mem_ready.1 hr;rcases hw with hw |⟨y,hy,ox,e,J,he,hb,ab⟩
 ·exact tp hw
 ·rw[Xf]at J;cases J;have h1:=gZ e he hb;have h2:=(h y hy).1;rw[ab]at h1;rcases bN y aK.size with hl |hl
  ·simp[hl]at h1 h2;rw[h2]at h1;cases h1
  ·simp[gX hl]at h2
theorem uT.step{C:List Nat}{i j:Nat}{J:Array Bool}(h:uT md ops C i J)(hj:j∉C):uT md ops C i (J.setIfInBounds j true):=by
 intro x hx;obtain⟨h1,h2⟩:=h x hx;refine⟨?_,h2⟩;have dV:j≠x:=by rintro rfl;exact hj hx
 rw[getD_set_ne true dV];exact h1
theorem uT.Zc{C:List Nat}{i:Nat}{J:Array Bool}(h:uT md ops C i J)(hk:k∈C):J.getD k false=false:=by
 have :=(h k hk).1;rcases bN k J.size with hl |hl
 ·simp[hl]at this⊢;exact this
 ·simp[gX hl]at this
theorem Db{i:Nat}{oi:Oper}{v:Value}{C:List Nat}(hi:ops[i]? =some oi)(SH:∀(j:Nat) (o:Oper) cs b,ops[j]? =some o->o.op≠ .select cs b)
  (Bj:k≠i) (aT:k∈C) (hQ:∀c a w,Q (.panic c) (a.put oi.dst v) w->Q (.panic c) a w):
  ∀(fuel:Nat)(J:Array Bool)(a:Act)(w:World),
   (∀j oj,ops[j]? =some oj->j≠i->J.getD j true=false->(∀e∈oj.after,Region.binds md e=true->e.on≠i)->oi.apart ops oj=true)->
   uT md ops C i J->i∈Region.ready md ops J->YieldsIf P ops S oi v a->S w->
   dS P md ops Q S k fuel (J.setIfInBounds i true) (a.put oi.dst v) w->dS P md ops Q S k (fuel+1) J a w:=by
 intro fuel;induction fuel with
 |zero=>
  intro J a w _ _ hr hy hS H;refine⟨fun h=>(by rw[h]at hr;cases hr),fun j hj=> ?_⟩;by_cases tp:j=i
  ·subst tp;exact hy.wpOp hi hS ⟨.inr hS,H⟩
  ·have :=ready_mono hj tp;rw[H.1]at this;cases this
 |succ fuel ih=>
  intro J a w Hl Cv hr hy hS H;refine⟨fun h=>(by rw[h]at hr;cases hr),fun j hj=> ?_⟩;by_cases tp:j=i
  ·subst tp;exact hy.wpOp hi hS ⟨.inr hS,H⟩
  ·have h1:=H.2 j (ready_mono hj tp);have aM:j∉C:=fun hC=>Cv.OC hC tp hj;obtain⟨Tb,oj,Xf,gZ⟩:=mem_ready.1 hj;have aB:∀e∈oj.after,Region.binds md e=true->e.on≠i:=fun e he hb heq=>by
    have h1:=gZ e he hb;have h0:=(mem_ready.1 hr).1;rw[heq]at h1;rcases bN i J.size with h' |h'
    ·simp[h']at h0 h1;rw[h0]at h1;cases h1
    ·simp[gX h']at h1
   have h2:=wpOp_putIf Xf (Hl j oj Xf tp Tb aB) (fun cs b=>SH i oi cs b hi) (fun cs b=>SH j oj cs b Xf) hQ hy h1;have K3:∀x ox,ops[x]? =some ox->x≠i->(J.setIfInBounds j true).getD x true=false->
     (∀e∈ox.after,Region.binds md e=true->e.on≠i)->oi.apart ops ox=true:=fun x ox hx a1 ar tk=>by
    refine Hl x ox hx a1 ?_ tk;by_cases ad:j=x
    ·subst ad;exact Tb
    ·rw[getD_set_ne true ad]at ar;exact ar
   have ab:=Cv.step aM;refine wpOp_mono (fun a' w' h3=> ?_) h2;have Hv:S w':=by
    rcases h3.2.1 with h4 |h4
    ·have h5:=ab.Zc aT;rw[Array.setIfInBounds_comm _ _ (Ne.symm tp),getD_set_ne false (Ne.symm Bj),h5]at h4;cases h4
    ·exact h4
   refine⟨.inr Hv,ih (J.setIfInBounds j true) a' w' K3 ab (ready_mono hr (Ne.symm tp)) h3.1 Hv ?_⟩;rw[Array.setIfInBounds_comm _ _ tp];exact h3.2.2
theorem v8{i:Nat}{oi:Oper}{v:Value}{fuel:Nat}{J:Array Bool}{a:Act}{w:World}(C:List Nat)(hi:ops[i]? =some oi)
  (hs:Region.noSelect ops=true) (hf:Region.free md ops J i=true) (hr:(Region.ready md ops J).contains i=true) (hc:(chainB md ops C i k J&&k !=i)=true)
  (hQ:∀c a w,Q (.panic c) (a.put oi.dst v) w->Q (.panic c) a w) (hy:YieldsIf P ops S oi v a) (hS:S w)
  (h:dS P md ops Q S k fuel (J.setIfInBounds i true) (a.put oi.dst v) w):dS P md ops Q S k (fuel+1) J a w:=by
 rw[ax]at hc;obtain⟨ab,Cv⟩:=Iq hc.1;exact Db hi (Region.noSelect_spec hs) (by simpa using hc.2) ab hQ fuel J a w (Region.free_spec hi hf) Cv (by simpa using hr) hy hS h
theorem k8.more{J:Array Bool}{w:World}(i:Nat)(h:k8 S k J w):k8 S k (J.setIfInBounds i true) w:=
 h.imp (fun h=>getD_set_true h) id
theorem k8.less{J:Array Bool}{w:World}{i j:Nat}(Bj:k≠i)(h:k8 S k ((J.setIfInBounds i true).setIfInBounds j true) w)(tp:j≠i):k8 S k (J.setIfInBounds j true) w:=by
 rcases h with h |h
 ·rw[Array.setIfInBounds_comm _ _ (Ne.symm tp),getD_set_ne false (Ne.symm Bj)]at h;exact .inl h
 ·exact .inr h
theorem AT{i:Nat}{oi:Oper}{v:Value}(hi:ops[i]? =some oi)(SH:∀(j:Nat) (o:Oper) cs b,ops[j]? =some o->o.op≠ .select cs b)
  (Bj:k≠i) (hQ:∀c a w,Q (.panic c) (a.put oi.dst v) w->Q (.panic c) a w):
  ∀(fuel:Nat)(J:Array Bool)(a:Act)(w:World),
   (∀j oj,ops[j]? =some oj->j≠i->J.getD j true=false->(∀e∈oj.after,Region.binds md e=true->e.on≠i)->oi.apart ops oj=true)->
   i∈Region.ready md ops J->YieldsIf P ops (fun _=>True) oi v a->k8 S k J w->
   dS P md ops Q S k fuel (J.setIfInBounds i true) (a.put oi.dst v) w->dS P md ops Q S k (fuel+1) J a w:=by
 intro fuel;induction fuel with
 |zero=>
  intro J a w _ hr hy hS H;refine⟨fun h=>(by rw[h]at hr;cases hr),fun j hj=> ?_⟩;by_cases tp:j=i
  ·subst tp;exact hy.wpOp hi trivial ⟨hS.more j,H⟩
  ·have :=ready_mono hj tp;rw[H.1]at this;cases this
 |succ fuel ih=>
  intro J a w Hl hr hy hS H;refine⟨fun h=>(by rw[h]at hr;cases hr),fun j hj=> ?_⟩;by_cases tp:j=i
  ·subst tp;exact hy.wpOp hi trivial ⟨hS.more j,H⟩
  ·have h1:=H.2 j (ready_mono hj tp);obtain⟨Tb,oj,Xf,gZ⟩:=mem_ready.1 hj;have ar:∀e∈oj.after,Region.binds md e=true->e.on≠i:=fun e he hb heq=>by
    have h1:=gZ e he hb;have h0:=(mem_ready.1 hr).1;rw[heq]at h1;rcases bN i J.size with h' |h'
    ·simp[h']at h0 h1;rw[h0]at h1;cases h1
    ·simp[gX h']at h1
   have h2:=wpOp_putIf Xf (Hl j oj Xf tp Tb ar) (fun cs b=>SH i oi cs b hi) (fun cs b=>SH j oj cs b Xf) hQ hy h1;have K3:∀x ox,ops[x]? =some ox->x≠i->(J.setIfInBounds j true).getD x true=false->
     (∀e∈ox.after,Region.binds md e=true->e.on≠i)->oi.apart ops ox=true:=fun x ox hx aB ad tk=>by
    refine Hl x ox hx aB ?_ tk;by_cases ab:j=x
    ·subst ab;exact Tb
    ·rw[getD_set_ne true ab]at ad;exact ad
   refine wpOp_mono (fun a' w' h3=> ?_) h2;have hT:=h3.2.1.less Bj tp;refine⟨hT,ih (J.setIfInBounds j true) a' w' K3 (ready_mono hr (Ne.symm tp)) h3.1 hT ?_⟩;rw[Array.setIfInBounds_comm _ _ tp];exact h3.2.2
theorem tE{i:Nat}{oi:Oper}{v:Value}{fuel:Nat}{J:Array Bool}{a:Act}{w:World}(hi:ops[i]? =some oi)
  (hs:Region.noSelect ops=true) (hf:Region.free md ops J i=true) (hr:(Region.ready md ops J).contains i=true) (hc:(k !=i)=true)
  (hQ:∀c a w,Q (.panic c) (a.put oi.dst v) w->Q (.panic c) a w) (hw:Region.wanted oi (yielded ops a.tmps)=true) (hy:∀w,(execOp a.eval oi).run P w= .ok (.value v) w) (hS:k8 S k J w)
  (h:dS P md ops Q S k fuel (J.setIfInBounds i true) (a.put oi.dst v) w):dS P md ops Q S k (fuel+1) J a w:=
 AT hi (Region.noSelect_spec hs) (by simpa using hc) hQ fuel J a w (Region.free_spec hi hf) (by simpa using hr) (.inl ⟨hw,fun w _=>hy w⟩) hS h
def cM(P:Program)(md:Region.Mode)(ops:Array Oper)(Q:Exit->Act->World->Prop)(S:World->Prop)(k fuel:Nat)(J:Array Bool)(a:Act)(w:World)(rs:List Nat):Prop:=
 ∀i∈rs,wpOp P ops Q i (fun a' w'=>k8 S k (J.setIfInBounds i true) w'/\dS P md ops Q S k fuel (J.setIfInBounds i true) a' w') a w
theorem aY{rs:List Nat}{fuel:Nat}{J:Array Bool}{a:Act}{w:World}(hr:Region.ready md ops J=rs)(dV:rs≠[])
  (h:cM P md ops Q S k fuel J a w rs):dS P md ops Q S k (fuel+1) J a w:=
 ⟨fun h0=>absurd (hr▸h0) dV,hr▸h⟩
theorem cM.nil{fuel:Nat}{J:Array Bool}{a:Act}{w:World}:cM P md ops Q S k fuel J a w []:=fun _ h=>by cases h
theorem cM.cons{fuel:Nat}{J:Array Bool}{a:Act}{w:World}{i:Nat}{o:Oper}{rs:List Nat}(ho:ops[i]? =some o)
  (h:∀K':Act->World->Prop,Shut (∀a w,k8 S k (J.setIfInBounds i true) w->(k8 S k (J.setIfInBounds i true) w->dS P md ops Q S k fuel (J.setIfInBounds i true) a w)->K' a w)->
   if Region.wanted o (yielded ops a.tmps)=true then Oper.wp P o a w K' Q else K' (a.put o.dst undef) w)
  (hs:cM P md ops Q S k fuel J a w rs):cM P md ops Q S k fuel J a w (i::rs):=by
 intro j hj;rcases ay.1 hj with rfl |hj
 ·unfold wpOp;simp only[ho];have :=h (fun a' w'=>k8 S k (J.setIfInBounds j true) w'/\dS P md ops Q S k fuel (J.setIfInBounds j true) a' w') (fun a w h1 h2=>⟨h1,h2 h1⟩);split
  ·rename_i hw;rw[qai hw]at this;exact .inl this
  ·rename_i hw;rw[qah hw]at this;exact this
 ·exact hs j hj
theorem m6{J:Array Bool}{a:Act}{w:World}(hr:Region.ready md ops J=[])(h:Q .normal a w):
  ∀fuel,dS P md ops Q S k fuel J a w
 |0=>⟨hr,h⟩
 |_+1=>⟨fun _=>h,by rw[hr];simp⟩
theorem bw{id:Nat}{a:Act}{w:World}(S:World->Prop)(k:Nat)(hm:P.follows .mixedOrders=true)(J:S w.drew)
  (h:k8 S k (Array.replicate ops.size false) w.drew->dS P .any ops Q S k ops.size (Array.replicate ops.size false) a w.drew):(Code.region id ops true).wp P Q a w:=
 wp_region_any hm (yE _ _ _ _ (h (.inr J)))
end
theorem q2{α:Type}{a:α}{l:List α}{n:Nat}:(a::l)[n+1]? =l[n]? :=rfl
theorem q3{α:Type}{a:α}{l:List α}:(a::l)[0]? =some a:=rfl
theorem q5{α:Type}{l:List α}{n:Nat}{a:α}:l.toArray.setIfInBounds n a=(l.set n a).toArray:=List.setIfInBounds_toArray _ _ _
theorem q6{α:Type}{a b:α}{l:List α}:(a::l).set 0 b=b::l:=rfl
theorem q7{α:Type}{a b:α}{l:List α}{n:Nat}:(a::l).set (n+1) b=a::l.set n b:=rfl
variable {P:Program} {ops:Array Oper} {Q:Exit->Act->World->Prop} {md:Region.Mode} {S:World->Prop} {k:Nat}
theorem T0{i:Nat}{oi:Oper}{v:Value}{fuel:Nat}{J:Array Bool}{a:Act}{w:World}(hi:ops[i]? =some oi)
  (hb:(Region.noSelect ops&&Region.free md ops J i&&(Region.ready md ops J).contains i&&k !=i)=true) (hw:Region.wanted oi (yielded ops a.tmps)=true) (hy:∀w,(execOp a.eval oi).run P w= .ok (.value v) w) (hS:k8 S k J w)
  (h:dS P md ops (NoPanic Q) S k fuel (J.setIfInBounds i true) (a.put oi.dst v) w):dS P md ops (NoPanic Q) S k (fuel+1) J a w:=by
 simp only[ax]at hb;exact tE hi hb.1.1.1 hb.1.1.2 hb.1.2 hb.2 (fun _ _ _ h=>h) hw hy hS h
theorem T1{i:Nat}{oi:Oper}{v:Value}{fuel:Nat}{J:Array Bool}{a:Act}{w:World}(C:List Nat)(hi:ops[i]? =some oi)
  (hb:(Region.noSelect ops&&Region.free md ops J i&&(Region.ready md ops J).contains i&&(chainB md ops C i k J&&k !=i))=true) (hw:Region.wanted oi (yielded ops a.tmps)=true) (hy:∀w,S w->(execOp a.eval oi).run P w= .ok (.value v) w) (hS:S w)
  (h:dS P md ops (NoPanic Q) S k fuel (J.setIfInBounds i true) (a.put oi.dst v) w):dS P md ops (NoPanic Q) S k (fuel+1) J a w:=by
 simp only[ax]at hb;exact v8 C hi hb.1.1.1 hb.1.1.2 hb.1.2 (by simp only[ax];exact hb.2) (fun _ _ _ h=>h) (.inl ⟨hw,hy⟩) hS h
theorem R1{i:Nat}{o:Oper}{fuel:Nat}{J:Array Bool}{a:Act}{w:World}(hr:Region.ready md ops J=[i])(ho:ops[i]? =some o)
  (h:∀K':Act->World->Prop,Shut (∀a w,k8 S k (J.setIfInBounds i true) w->(k8 S k (J.setIfInBounds i true) w->dS P md ops Q S k fuel (J.setIfInBounds i true) a w)->K' a w)->
   if Region.wanted o (yielded ops a.tmps)=true then Oper.wp P o a w K' Q else K' (a.put o.dst undef) w):dS P md ops Q S k (fuel+1) J a w:=
 aY hr (by simp) (cM.cons ho h cM.nil)
theorem R2(i:Nat){o:Oper}{fuel:Nat}{J:Array Bool}{a:Act}{w:World}(hT:k8 S k J w)
  (h:∀K':Act->World->Prop,Shut (∀a w,k8 S k (J.setIfInBounds i true) w->(k8 S k (J.setIfInBounds i true) w->dS P md ops Q S k fuel (J.setIfInBounds i true) a w)->K' a w)->S w->
   if Region.wanted o (yielded ops a.tmps)=true then Oper.wp P o a w K' Q else K' (a.put o.dst undef) w) (hb:(Region.ready md ops J==[i]&& !J.getD k false)=true:=by kernel_rfl) (ho:ops[i]? =some o:=by rfl):dS P md ops Q S k (fuel+1) J a w:=by
 rw[ax]at hb;have hS:S w:=hT.resolve_left (by simpa using hb.2);exact R1 (by simpa using hb.1) ho (fun K' hK=>h K' hK hS)
def X8(P:Program)(ops:Array Oper)(S:World->Prop):List (Nat×List Nat)->Act->Act->Prop
 |[],a,J=>a=J
 | (i,C)::r,a,J=>∃o v,ops[i]? =some o/\Region.wanted o (yielded ops a.tmps)=true/\(∀w,(C=[]\/S w)->(execOp a.eval o).run P w= .ok (.value v) w)/\X8 P ops S r (a.put o.dst v) J
def Ai(md:Region.Mode)(ops:Array Oper)(k:Nat):List (Nat×List Nat)->Array Bool->Bool
 |[],_=>true
 | (i,C)::r,l=>Region.noSelect ops&&Region.free md ops l i&&(Region.ready md ops l).contains i&&k !=i&&(C.isEmpty ||chainB md ops C i k l)&&Ai md ops k r (l.setIfInBounds i true)
def lst:List (Nat×List Nat)->Array Bool->Array Bool
 |[],l=>l
 | (i,_)::r,l=>lst r (l.setIfInBounds i true)
theorem ZQ{a:Act}:X8 P ops S [] a a:=rfl
theorem ZR{i:Nat}{C:List Nat}{r:List (Nat×List Nat)}{a J:Act}{o:Oper}{v:Value}(ho:ops[i]? =some o)(hw:Region.wanted o (yielded ops a.tmps)=true)(hy:∀w,(C=[]\/S w)->(execOp a.eval o).run P w= .ok (.value v) w)(h:X8 P ops S r (a.put o.dst v) J):X8 P ops S ((i,C)::r) a J:=⟨o,v,ho,hw,hy,h⟩
theorem TB_{fuel:Nat}:∀{is:List (Nat×List Nat)}{J:Array Bool}{a a':Act}{w:World},Ai md ops k is J=true->X8 P ops S is a a'->k8 S k J w->
  (k8 S k (lst is J) w->dS P md ops (NoPanic Q) S k fuel (lst is J) a' w)->dS P md ops (NoPanic Q) S k (fuel+is.length) J a w
 |[],J,a,a',w,_,hr,hS,h=>by
  have :a=a':=hr;subst this;exact h hS
 | (i,C)::r,J,a,a',w,hb,hr,hS,h=>by
  obtain⟨o,v,ho,hw,hy,pP⟩:=hr;simp only[Ai,ax]at hb;obtain⟨⟨⟨⟨⟨h1,h2⟩,h3⟩,h4⟩,h5⟩,h6⟩:=hb;have hm:=TB_ h6 pP (hS.more i) h;cases C with
  |nil=>exact tE ho h1 h2 h3 h4 (fun _ _ _ h=>h) hw (fun w=>hy w (.inl rfl)) hS hm
  |cons c C=>
   have h5:chainB md ops (c::C) i k J=true:=by simpa using h5
   have hc:=Iq h5;have bT:S w:=by
    rcases hS with h7 |h7
    ·rw[hc.2.Zc hc.1]at h7;cases h7
    ·exact h7
   exact v8 (c::C) ho h1 h2 h3 (by rw[h5,h4];rfl) (fun _ _ _ h=>h) (.inl ⟨hw,fun w hs=>hy w (.inr hs)⟩) bT hm
theorem TBm{M:World->Prop}(f:∀w,S w->M w):∀{is:List (Nat×List Nat)}{a J:Act},X8 P ops M is a J->X8 P ops S is a J
 |[],_,_,h=>h
 | (_,_)::_,_,_,⟨o,v,ho,hw,hy,h⟩=>⟨o,v,ho,hw,fun w h1=>hy w (h1.imp id (f w)),TBm f h⟩
theorem TB{fuel:Nat}(n:Nat)(is:List (Nat×List Nat)){J:Array Bool}{a a':Act}{w:World}(hS:k8 S k J w)
  (h:k8 S k (lst is J) w->dS P md ops (NoPanic Q) S k fuel (lst is J) a' w) (hb:Ai md ops k is J=true:=by kernel_rfl) (hn:is.length=n:=by rfl) (hr:X8 P ops S is a a':=by((repeat (apply ZR;rfl;rfl;(intro w bT;(try have bT:=bT.resolve_left (List.cons_ne_nil _ _));go_simp<;>with_reducible rfl);try simp only[Act.put,q5,q6,q7]));exact ZQ)):dS P md ops (NoPanic Q) S k (fuel+n) J a w:=by
 subst hn;exact TB_ hb hr hS h
theorem oI{fuel:Nat}{M:World->Prop}(n:Nat)(is:List (Nat×List Nat)){J:Array Bool}{a a':Act}{w:World}(hS:k8 S k J w)(f:∀w,S w->M w)
  (h:k8 S k (lst is J) w->dS P md ops (NoPanic Q) S k fuel (lst is J) a' w) (hb:Ai md ops k is J=true:=by kernel_rfl) (hn:is.length=n:=by rfl) (hr:X8 P ops M is a a':=by((repeat (apply ZR;rfl;rfl;(intro w bT;(try have bT:=bT.resolve_left (List.cons_ne_nil _ _));go_simp<;>with_reducible rfl);try simp only[Act.put,q5,q6,q7]));exact ZQ)):dS P md ops (NoPanic Q) S k (fuel+n) J a w:=
 TB n is hS h hb hn (TBm f hr)
theorem fO{P:Program}{md:Region.Mode}{ops:Array Oper}{Q:Exit->Act->World->Prop}{S:World->Prop}{k fuel:Nat}{J:Array Bool}{a:Act}{w:World}(h:Q .normal a w)(hr:Region.ready md ops J=[]:=by kernel_rfl):dS P md ops (NoPanic Q) S k fuel J a w:=m6 hr (NoPanic.normal h) _
end
section
open Go.RowKit
theorem cT.DW{w wA wB:World}{L:gK}{H:Hp}(h:cT w L H){gA cA J cB:Nat}{xs ys:List Int}(hl:xs.length=ys.length)
  (hA:Ints wA (some ⟨gA,0,none⟩) cA xs) (fA:Fr (ao L.A2) w wA) (qA:gA∈ao L.A2\/w.heap.size<=gA)
  (hB:Ints wB (some ⟨J,0,none⟩) cB ys) (fB:Fr (ao L.A3) wA wB) (qB:J∈ao L.A3\/wA.heap.size<=J):
  cT ((wB.setCell ⟨L.a,1,none⟩ (.slice (some ⟨gA,0,none⟩) xs.length cA)).setCell ⟨L.a,2,none⟩ (.slice (some ⟨J,0,none⟩) ys.length cB))
   { L with A2:=some ⟨gA,0,none⟩,c2:=cA,A3:=some ⟨J,0,none⟩,c3:=cB } { H with at_:=xs,score:=ys }/\
  Fr L.fp w ((wB.setCell ⟨L.a,1,none⟩ (.slice (some ⟨gA,0,none⟩) xs.length cA)).setCell ⟨L.a,2,none⟩ (.slice (some ⟨J,0,none⟩) ys.length cB))/\
  L.ext { L with A2:=some ⟨gA,0,none⟩,c2:=cA,A3:=some ⟨J,0,none⟩,c3:=cB } w:=by
 obtain⟨h1,h2,h3⟩:=jz h.nodup;have lA:gA<wA.heap.size:=hA.lt gA (by simp[ao]);have hs:=fA.size;have nA:gA≠L.a/\gA∉ao L.A1/\gA∉ao L.A3:=by
  rcases qA with q |q
  ·exact h2 gA q
  ·refine⟨?_,fun k=> ?_,fun k=> ?_⟩
   ·have :=h.obj.lt;omega
   ·have :=h.items.lt _ k;omega
   ·have :=h.score.lt _ k;omega
 have nB:J≠L.a/\J∉ao L.A1/\J≠gA:=by
  rcases qB with q |q
  ·exact⟨(h3 J q).1,(h3 J q).2.1,fun e=>nA.2.2 (e▸q)⟩
  ·refine⟨?_,fun k=> ?_,?_⟩
   ·have :=h.obj.lt;omega
   ·have :=h.items.lt _ k;omega
   ·omega
 have bA:ao (some ⟨gA,0,none⟩)=[gA]:=rfl;have bB:ao (some ⟨J,0,none⟩)=[J]:=rfl;have oB:=fB.at_ (fA.at_ h.obj (fun k=>(h2 _ k).1 rfl)) (fun k=>(h3 _ k).1 rfl);have iB:=(h.items.fr fA (fun k hk lQ=>(h1 k hk).2.1 lQ)).fr fB (fun k hk lQ=>(h1 k hk).2.2 lQ);have aB:=hA.fr fB (fun k hk lQ=>nA.2.2 (by rw[bA,ag]at hk;exact hk▸lQ));refine⟨⟨?_,?_,?_,?_,?_,hl⟩,?_,rfl,?_,fun _=>rfl⟩
 ·have :=(oB.dL 1 (.slice (some ⟨gA,0,none⟩) xs.length cA)).dL 2 (.slice (some ⟨J,0,none⟩) ys.length cB);simpa using this
 ·exact(iB.ie (fun k=>(h1 _ k).1 rfl) _).ie (fun k=>(h1 _ k).1 rfl) _
 ·exact(aB.ie (by rw[bA];simpa using fun e=>nA.1 e.symm) _).ie (by rw[bA];simpa using fun e=>nA.1 e.symm) _
 ·exact(hB.ie (by rw[bB];simpa using fun e=>nB.1 e.symm) _).ie (by rw[bB];simpa using fun e=>nB.1 e.symm) _
 ·have hn:=h.nodup;simp only[gK.fp,kg,ah,List.nodup_append,bA,bB,ag,bi,not_false_eq_true,List.nodup_nil,true_and]at hn⊢;obtain⟨n1,n2,n3,n4⟩:=hn;refine⟨?_,n2,?_,?_⟩
  ·rintro(hk |rfl |rfl)
   ·exact n1 (.inl hk)
   ·exact nA.1 rfl
   ·exact nB.1 rfl
  ·rintro _ rfl _ rfl e;exact nB.2.2 e.symm
  ·rintro k hk _ (rfl |rfl) rfl
   ·exact nA.2.1 hk
   ·exact nB.2.1 hk
 ·exact((((fA.mono (T:=L.fp) fun k hk=> .inl (by simp[gK.fp,hk])).trans fB fun k hk=> .inl (by simp[gK.fp,hk]))).setCell (.inl (by simp[gK.fp])) _).setCell (.inl (by simp[gK.fp])) _
 ·intro k hk;simp only[gK.fp,bA,bB,ay,ah,bi,or_false]at hk⊢;rcases hk with hk |hk |hk |hk
  ·exact .inl (.inl hk)
  ·exact .inl (.inr (.inl hk))
  ·subst hk;exact qA.elim (fun q=> .inl (.inr (.inr (.inl q)))) .inr
  ·subst hk;exact qB.elim (fun q=> .inl (.inr (.inr (.inr q)))) (fun q=> .inr (by omega))
def Hp.growBy(H:Hp)(m:Nat):Hp:={ H with at_:=H.at_++List.replicate m (-1),score:=H.score++List.replicate m 0 }
def Hp.eP(H:Hp)(n:Int):Hp:=H.growBy (mJ H.at_.length n-H.at_.length).toNat
theorem gK.a6{L M N:gK}{w w':World}{S:List Nat}(h:L.ext M w)(k:M.ext N w')(J:Fr S w w'):L.ext N w:=
 ⟨k.1.trans h.1,fun x hx=>(k.2.1 x hx).elim (fun hm=>h.2.1 x hm) (fun hm=> .inr (aE J.size hm)),fun m=>k.2.2 (h.2.2 m)⟩
theorem j5{H:Hp}{j:Nat}:((H.growBy j).at_++[-1]=(H.growBy (j+1)).at_)/\((H.growBy j).score++[0]=(H.growBy (j+1)).score):=by constructor<;>simp[Hp.growBy,List.replicate_succ']
theorem Cu(w:World)(L:gK)(H:Hp)(h:cT w L H)(jf:L.A2.isSome=true)(n:Int)(hm:H.at_.length<=262144):
  Calls Tryz.prog 132 #[.pointer (some ⟨L.a,0,none⟩), .int .i64 n] w fun e w'=>e= .returned (.tuple #[])/\∃L',cT w' L' (H.eP n)/\L.ext L' w/\Fr L.fp w w':=by
 have o1:=h.obj.cell 1;simp at o1;obtain⟨g2,fu⟩:∃a,L.A2=some a:=Option.isSome_iff_exists.1 jf;rw[fu]at o1;have he:∀w:World,(binOp .eql 22 (.slice (some g2) H.at_.length L.c2) (.slice none 0 0)).run Tryz.prog w= .ok (.bool false) w:=fun w=>Lib.run_eql_slice_nil w _ _ _ _ _ _ _ Tryz.underlying22;obtain⟨m,Xg⟩:∃m:Nat,mJ H.at_.length n=(H.at_.length+m:Nat):=⟨(mJ H.at_.length n-H.at_.length).toNat,by unfold mJ;omega⟩
 have Kw:H.at_.length+m<=262144:=by have :=Xg;unfold mJ at this;omega
 have aB:H.eP n=H.growBy m:=by unfold Hp.eP;rw[Xg];congr 1;omega
 rw[aB];have HM:=ae Xg;have HH:=ae h;have HS:=ae h.same;have ba:((H.at_.length+m:Nat):Int)<=262144:=by omega
 clear Xg h fu aB;go_enter Tryz.func132,Tryz.ntmps132;go_wp2_with fail;refine(Pu _ _ n (by omega) (by omega)).mono ?_;rintro e w1 ⟨rfl,rfl⟩;rw[HM.o];clear o1 he;go_wp2_with fail;go_loopg [] m (fun gk wr=>∃(j:Nat)(M:gK),j+gk=m/\cT wr M (H.growBy j)/\L.ext M w/\Fr L.fp w wr);case atStart=>exact⟨0,L,dd _,by simpa[Hp.growBy]using HH.o,⟨rfl,fun k hk=> .inl hk,id⟩,Fr.refl _ _⟩
 case round=>
  obtain⟨j,M,hj,hK,hE,xK⟩:=hrel;have ha:M.a=L.a:=hE.1;have c1:=hK.obj.cell 1;have c2:=hK.obj.cell 2;have l1:(H.growBy j).at_.length=H.at_.length+j:=by simp[Hp.growBy]
  have l2:(H.growBy j).score.length=H.at_.length+j:=by rw[<-hK.same,l1]
  rw[ha]at c1 c2;simp[l1]at c1;simp[l2]at c2;have HK:=ae hK;have HE:=ae hE;have HA:=ae ha;have nv:=ae l1;have n8:=ae l2;have HJ:=ae hj;clear hK hE ha l1 l2;by_cases a1:j<m
  ·have t1:((H.at_.length+j:Nat):Int)<((H.at_.length+m:Nat):Int):=by omega
   have t2:(H.at_.length:Int)+j<(H.at_.length:Int)+m:=by omega
   have ho:At wr L.a 159 #[.slice M.A1 (H.growBy j).items.length M.c1, .slice M.A2 (H.at_.length+j) M.c2, .slice M.A3 (H.at_.length+j) M.c3]:=by have :=HK.o.obj;rw[HA.o,nv.o,n8.o]at this;exact this
   have HO:=ae ho;have l8:aj (L.a∉ao M.A2):=fun hk=>((jz HK.o.nodup).2.1 _ hk).1 HA.o.symm;have rX:aj (L.a∉ao M.A3):=fun hk=>((jz HK.o.nodup).2.2 _ hk).1 HA.o.symm;have HD:aj (∀k,k∈ao M.A3->k∉ao M.A2):=fun k hk lQ=>((jz HK.o.nodup).2.2 k hk).2.2 lQ;have LZ:aj (∀k,k∈ao M.A2->k<wr.heap.size):=HK.o.at_.lt;have ar:aj ((H.growBy (j+1)).at_.length=H.at_.length+j+1):=by show _=_;simp[Hp.growBy];omega
   have YG:aj ((H.growBy (j+1)).score.length=H.at_.length+j+1):=by show _=_;have :=HS.o;simp[Hp.growBy];omega
   have pX:aj (At ((wr.drew.alloc (.cells #[.int .i64 (-1)] 3)).alloc (.cells #[.int .i64 0] 3)) (wr.heap.size+1) 3 #[.int .i64 0]):=by have :=At.new (wr.drew.alloc (.cells #[.int .i64 (-1)] 3)) 3 #[.int .i64 0];rwa[show(wr.drew.alloc (.cells #[.int .i64 (-1)] 3)).heap.size=wr.heap.size+1 from by simp]at this
   have pM:aj (At ((wr.drew.alloc (.cells #[.int .i64 0] 3)).alloc (.cells #[.int .i64 (-1)] 3)) wr.heap.size 3 #[.int .i64 0]):=(At.new wr.drew _ _).alloc _;clear hj ho;go_wp2_with fail;refine qan ?_;refine bw (fun w':World=>At w' L.a 159 #[.slice M.A1 (H.growBy j).items.length M.c1, .slice M.A2 (H.at_.length+j) M.c2, .slice M.A3 (H.at_.length+j) M.c3]) 16 (by kernel_rfl) (HO.o.drew) (fun dy=> ?_);refine TB 10 [(0,[]),(1,[]),(2,[]),(3,[]),(4,[]),(5,[5,16]),(8,[]),(9,[]),(10,[]),(11,[11,16])] dy ?_ (hr:=by(repeat (apply ZR;rfl;rfl;(intro w bT;(try(have bT:=bT.resolve_left (List.cons_ne_nil _ _);(have s1:=bT.cell 1;have s2:=bT.cell 2;simp at s1 s2)));go_simp<;>with_reducible rfl);try simp only[Act.put,q5,q6,q7]));exact ZQ);intro dy;have J:=dy.resolve_left (by decide);refine aY (rs:=[6,12]) (by kernel_rfl) (by simp) ?_;refine cM.cons (o:= ?akX) ?Xe ?Ko ?_;case Xe=>rfl
   case Ko=>
    intro K hK;go_simp;refine hK.out _ _ (.inr ?_) (fun nO=> ?_)
    ·first |exact J.alloc _ |exact jM.at_ J l8.o |exact wZ.at_ J rX.o
    clear hK K;try simp only[Act.put,q5,q6,q7]
    have J:=nO.resolve_left (by decide);refine aY (rs:=[7,12]) (by kernel_rfl) (by simp) ?_;refine cM.cons (o:= ?akW) ?Xd ?Kn ?_;case Xd=>rfl
    case Kn=>
     intro K hK
     (refine co rfl _ _ rfl M.A2 M.c2 (H.growBy j).at_ _ rfl nv.o.symm ?vG _ 1 (-1) rfl ?sU (by rw[nv.o];omega) ?_;(case vG=>first |exact HK.o.at_.drew.alloc _ |exact(HK.o.at_.drew.alloc _).alloc _);(case sU=>simp);intro gA cA wA Pq jM Pr aK)
     refine hK.out _ _ (.inr ?_) (fun jO=> ?_)
     ·first |exact J.alloc _ |exact jM.at_ J l8.o |exact wZ.at_ J rX.o
     clear hK K;try simp only[Act.put,q5,q6,q7]
     refine R2 12 jO fun K hK J=> ?_;go_simp;refine hK.out _ _ (.inr ?_) (fun oE=> ?_)
     ·first |exact J.alloc _ |exact jM.at_ J l8.o |exact wZ.at_ J rX.o
     clear hK K;try simp only[Act.put,q5,q6,q7]
     refine R2 13 oE fun K hK J=> ?_
     (refine co rfl _ _ rfl M.A3 M.c3 (H.growBy j).score _ rfl n8.o.symm ?Pe _ 1 0 rfl ?Lm (by rw[n8.o];omega) ?_;(case Pe=>first |exact((HK.o.score.drew.alloc _).fr jM HD.o).alloc _ |exact((HK.o.score.drew.alloc _).alloc _).fr jM HD.o);(case Lm=>first | (simp;done) |exact(jM.at_ pX.o (fun hk=>absurd (LZ.o _ hk) (by omega))).cell 0 |exact(jM.at_ pM.o (fun hk=>absurd (LZ.o _ hk) (by omega))).cell 0);intro gB cB wB ad wZ ab aT)
     refine hK.out _ _ (.inr ?_) (fun mU=> ?_)
     ·first |exact J.alloc _ |exact jM.at_ J l8.o |exact wZ.at_ J rX.o
     clear hK K;try simp only[Act.put,q5,q6,q7]
     refine TB 2 [(14,[]),(15,[])] mU ?_;intro mU;refine R2 16 mU fun K hK J=> ?_
     (have b1:=J.cell 1;have b3:=J.frozen 1;simp at b1;go_simp)
     refine hK.out _ _ (.inl rfl) (fun iW=> ?_);clear hK K;try simp only[Act.put,q5,q6,q7]
     refine TB 2 [(17,[]),(18,[])] iW ?_;intro iW;refine R1 (i:=19) (o:= ?akT) (by kernel_rfl) (by rfl) ?_;intro K hK
     (have b2:=J.cell 2;have b4:=J.frozen 2;simp at b2;go_simp)
     refine hK.out _ _ (.inl rfl) (fun zA=> ?_);clear hK K;try simp only[Act.put,q5,q6,q7]
     refine fO ?_;have fA:Fr (ao M.A2) wr wA:=by first |exact((Fr.refl _ wr).drew.alloc _).ak jM |exact(((Fr.refl _ wr).drew.alloc _).alloc _).ak jM
     have fB:Fr (ao M.A3) wA wB:=by first |exact wZ |exact((Fr.refl _ wA).alloc _).ak wZ
     have qA:gA∈ao M.A2\/wr.heap.size<=gA:=Pr.imp id (fun e=>by rw[e];simp <;>omega);have qB:gB∈ao M.A3\/wA.heap.size<=gB:=ab.imp id (fun e=>by rw[e];simp <;>omega);obtain⟨r1,r2,r3⟩:=cT.DW HK.o (by simp[nv.o,n8.o]) Pq fA qA ad fB qB;rw[HA.o]at r1 r2 r3;rw[j5.1,j5.2,ar.o,YG.o]at r1 r2;have R1:=ae r1;have R2:=ae r2;have R3:=ae r3;clear r1 r2 r3;go_wp2;go_roundg (gk-1);case measure=>have :=HJ.o;omega
     case rel=>exact⟨j+1,_,by have :=HJ.o;omega,R1.o,gK.a6 HE.o R3.o xK,xK.trans R2.o HE.o.2.1⟩
    refine cM.cons (o:= ?akS) ?Xa ?Kk ?_;case Xa=>rfl
    case Kk=>
     intro K hK;go_simp;refine hK.out _ _ (.inr ?_) (fun jO=> ?_)
     ·first |exact J.alloc _ |exact jM.at_ J l8.o |exact wZ.at_ J rX.o
     clear hK K;try simp only[Act.put,q5,q6,q7]
     refine R2 7 jO fun K hK J=> ?_
     (refine co rfl _ _ rfl M.A2 M.c2 (H.growBy j).at_ _ rfl nv.o.symm ?Pb _ 1 (-1) rfl ?Li (by rw[nv.o];omega) ?_;(case Pb=>first |exact HK.o.at_.drew.alloc _ |exact(HK.o.at_.drew.alloc _).alloc _);(case Li=>simp);intro gA cA wA Pq jM Pr aK)
     refine hK.out _ _ (.inr ?_) (fun oE=> ?_)
     ·first |exact J.alloc _ |exact jM.at_ J l8.o |exact wZ.at_ J rX.o
     clear hK K;try simp only[Act.put,q5,q6,q7]
     refine R2 13 oE fun K hK J=> ?_
     (refine co rfl _ _ rfl M.A3 M.c3 (H.growBy j).score _ rfl n8.o.symm ?Pa _ 1 0 rfl ?Lh (by rw[n8.o];omega) ?_;(case Pa=>first |exact((HK.o.score.drew.alloc _).fr jM HD.o).alloc _ |exact((HK.o.score.drew.alloc _).alloc _).fr jM HD.o);(case Lh=>first | (simp;done) |exact(jM.at_ pX.o (fun hk=>absurd (LZ.o _ hk) (by omega))).cell 0 |exact(jM.at_ pM.o (fun hk=>absurd (LZ.o _ hk) (by omega))).cell 0);intro gB cB wB ad wZ ab aT)
     refine hK.out _ _ (.inr ?_) (fun mU=> ?_)
     ·first |exact J.alloc _ |exact jM.at_ J l8.o |exact wZ.at_ J rX.o
     clear hK K;try simp only[Act.put,q5,q6,q7]
     refine TB 2 [(14,[]),(15,[])] mU ?_;intro mU;refine R2 16 mU fun K hK J=> ?_
     (have b1:=J.cell 1;have b3:=J.frozen 1;simp at b1;go_simp)
     refine hK.out _ _ (.inl rfl) (fun iW=> ?_);clear hK K;try simp only[Act.put,q5,q6,q7]
     refine TB 2 [(17,[]),(18,[])] iW ?_;intro iW;refine R1 (i:=19) (o:= ?akQ) (by kernel_rfl) (by rfl) ?_;intro K hK
     (have b2:=J.cell 2;have b4:=J.frozen 2;simp at b2;go_simp)
     refine hK.out _ _ (.inl rfl) (fun zA=> ?_);clear hK K;try simp only[Act.put,q5,q6,q7]
     refine fO ?_;have fA:Fr (ao M.A2) wr wA:=by first |exact((Fr.refl _ wr).drew.alloc _).ak jM |exact(((Fr.refl _ wr).drew.alloc _).alloc _).ak jM
     have fB:Fr (ao M.A3) wA wB:=by first |exact wZ |exact((Fr.refl _ wA).alloc _).ak wZ
     have qA:gA∈ao M.A2\/wr.heap.size<=gA:=Pr.imp id (fun e=>by rw[e];simp <;>omega);have qB:gB∈ao M.A3\/wA.heap.size<=gB:=ab.imp id (fun e=>by rw[e];simp <;>omega);obtain⟨r1,r2,r3⟩:=cT.DW HK.o (by simp[nv.o,n8.o]) Pq fA qA ad fB qB;rw[HA.o]at r1 r2 r3;rw[j5.1,j5.2,ar.o,YG.o]at r1 r2;have R1:=ae r1;have R2:=ae r2;have R3:=ae r3;clear r1 r2 r3;go_wp2;go_roundg (gk-1);case measure=>have :=HJ.o;omega
     case rel=>exact⟨j+1,_,by have :=HJ.o;omega,R1.o,gK.a6 HE.o R3.o xK,xK.trans R2.o HE.o.2.1⟩
    exact cM.nil
   refine cM.cons (o:= ?akP) ?W7 ?Kj ?_;case W7=>rfl
   case Kj=>
    intro K hK;go_simp;refine hK.out _ _ (.inr ?_) (fun nO=> ?_)
    ·first |exact J.alloc _ |exact jM.at_ J l8.o |exact wZ.at_ J rX.o
    clear hK K;try simp only[Act.put,q5,q6,q7]
    refine R2 6 nO fun K hK J=> ?_;go_simp;refine hK.out _ _ (.inr ?_) (fun jO=> ?_)
    ·first |exact J.alloc _ |exact jM.at_ J l8.o |exact wZ.at_ J rX.o
    clear hK K;try simp only[Act.put,q5,q6,q7]
    refine R2 7 jO fun K hK J=> ?_
    (refine co rfl _ _ rfl M.A2 M.c2 (H.growBy j).at_ _ rfl nv.o.symm ?O8 _ 1 (-1) rfl ?Lf (by rw[nv.o];omega) ?_;(case O8=>first |exact HK.o.at_.drew.alloc _ |exact(HK.o.at_.drew.alloc _).alloc _);(case Lf=>simp);intro gA cA wA Pq jM Pr aK)
    refine hK.out _ _ (.inr ?_) (fun oE=> ?_)
    ·first |exact J.alloc _ |exact jM.at_ J l8.o |exact wZ.at_ J rX.o
    clear hK K;try simp only[Act.put,q5,q6,q7]
    refine R2 13 oE fun K hK J=> ?_
    (refine co rfl _ _ rfl M.A3 M.c3 (H.growBy j).score _ rfl n8.o.symm ?O7 _ 1 0 rfl ?Le (by rw[n8.o];omega) ?_;(case O7=>first |exact((HK.o.score.drew.alloc _).fr jM HD.o).alloc _ |exact((HK.o.score.drew.alloc _).alloc _).fr jM HD.o);(case Le=>first | (simp;done) |exact(jM.at_ pX.o (fun hk=>absurd (LZ.o _ hk) (by omega))).cell 0 |exact(jM.at_ pM.o (fun hk=>absurd (LZ.o _ hk) (by omega))).cell 0);intro gB cB wB ad wZ ab aT)
    refine hK.out _ _ (.inr ?_) (fun mU=> ?_)
    ·first |exact J.alloc _ |exact jM.at_ J l8.o |exact wZ.at_ J rX.o
    clear hK K;try simp only[Act.put,q5,q6,q7]
    refine TB 2 [(14,[]),(15,[])] mU ?_;intro mU;refine R2 16 mU fun K hK J=> ?_
    (have b1:=J.cell 1;have b3:=J.frozen 1;simp at b1;go_simp)
    refine hK.out _ _ (.inl rfl) (fun iW=> ?_);clear hK K;try simp only[Act.put,q5,q6,q7]
    refine TB 2 [(17,[]),(18,[])] iW ?_;intro iW;refine R1 (i:=19) (o:= ?akN) (by kernel_rfl) (by rfl) ?_;intro K hK
    (have b2:=J.cell 2;have b4:=J.frozen 2;simp at b2;go_simp)
    refine hK.out _ _ (.inl rfl) (fun zA=> ?_);clear hK K;try simp only[Act.put,q5,q6,q7]
    refine fO ?_;have fA:Fr (ao M.A2) wr wA:=by first |exact((Fr.refl _ wr).drew.alloc _).ak jM |exact(((Fr.refl _ wr).drew.alloc _).alloc _).ak jM
    have fB:Fr (ao M.A3) wA wB:=by first |exact wZ |exact((Fr.refl _ wA).alloc _).ak wZ
    have qA:gA∈ao M.A2\/wr.heap.size<=gA:=Pr.imp id (fun e=>by rw[e];simp <;>omega);have qB:gB∈ao M.A3\/wA.heap.size<=gB:=ab.imp id (fun e=>by rw[e];simp <;>omega);obtain⟨r1,r2,r3⟩:=cT.DW HK.o (by simp[nv.o,n8.o]) Pq fA qA ad fB qB;rw[HA.o]at r1 r2 r3;rw[j5.1,j5.2,ar.o,YG.o]at r1 r2;have R1:=ae r1;have R2:=ae r2;have R3:=ae r3;clear r1 r2 r3;go_wp2;go_roundg (gk-1);case measure=>have :=HJ.o;omega
    case rel=>exact⟨j+1,_,by have :=HJ.o;omega,R1.o,gK.a6 HE.o R3.o xK,xK.trans R2.o HE.o.2.1⟩
   exact cM.nil
  ·have t2:(H.at_.length:Int)+m<=(H.at_.length:Int)+j:=by omega
   obtain rfl :j=m:=by omega
   go_wp2_with fail;go_end0;exact⟨rfl,M,HK.o,HE.o,xK⟩
theorem V5{a b:Nat}(h:a=b):Ending.returned (.pointer (some ⟨a,0,none⟩))= .returned (.pointer (some ⟨b,0,none⟩)):=by rw[h]
def Hp.none_:Hp:={ items:=[],at_:=[],score:=[] }
theorem cT.new(w:World):cT ((w.alloc (.cells #[] 3)).alloc (.cells #[.slice none 0 0, .slice (some ⟨w.heap.size,0,none⟩) 0 0, .slice none 0 0] 159))
  { a:=w.heap.size+1,A1:=none,c1:=0,A2:=some ⟨w.heap.size,0,none⟩,c2:=0,A3:=none,c3:=0 } Hp.none_:=by
 refine⟨?_,Ints.nil _,?_,Ints.nil _,by simp[gK.fp,ao],rfl⟩
 ·have :=At.new (w.alloc (.cells #[] 3)) 159 #[.slice none 0 0, .slice (some ⟨w.heap.size,0,none⟩) 0 0, .slice none 0 0];rwa[show(w.alloc (.cells #[] 3)).heap.size=w.heap.size+1 from by simp]at this
 ·have :Ints (w.alloc (.cells #[] 3)) (some ⟨w.heap.size,0,none⟩) 0 []:=World.ownsRow_lit w #[] 0 (aU _) (by simp[maxLen]) (by simp);exact this.alloc _
theorem Tn(w:World)(n:Int):
  Calls Tryz.prog 98 #[.int .i64 n] w fun e w'=>∃L:gK,e= .returned (.pointer (some ⟨L.a,0,none⟩))/\cT w' L (Hp.none_.eP n)/\L.A2.isSome=true/\(∀k,k∈L.fp->w.heap.size<=k)/\Fr [] w w':=by
 have HN:=ae (cT.new w);go_enter Tryz.func98,Tryz.ntmps98;go_wp2_with fail;refine(Cu _ _ _ HN.o rfl n (by simp[Hp.none_])).mono ?_;rintro e w1 ⟨rfl,L',hL,hE,hF⟩;have HL:=ae hL;have J:=ae hE;have HF:=ae hF;clear hL hE hF;go_wp2;go_ret;have hk:∀k,k∈gK.fp { a:=w.heap.size+1,A1:=none,c1:=0,A2:=some ⟨w.heap.size,0,none⟩,c2:=0,A3:=none,c3:=0 }->w.heap.size<=k:=by intro k hk;simp only[gK.fp,ao,Option.map_none,dA,Option.toList_none,eD,List.nil_append,cq,ay,bi,or_false]at hk;omega
 refine⟨L',V5 J.o.1.symm,HL.o,J.o.2.2 rfl,fun k h=> ?_,?_⟩
 ·rcases J.o.2.1 k h with h |h
  ·exact hk k h
  ·exact aE (by simp;omega) h
 ·exact(((Fr.refl [] w).alloc _).alloc _).trans HF.o (fun k h=> .inr (hk k h))
--a nil heap
end
end Go.Proofs.YtpjbaobgnhjgoaaGreat
