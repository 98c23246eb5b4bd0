/- Parts of a proof. -/
import Derived.Test.YtjmmpfjcpdepjaaGreatDoorGAC
set_option linter.unusedVariables false
set_option linter.unusedSimpArgs false
namespace Go.Proofs.YtjmmpfjcpdepjaaGreatDoor
open Go.RowKit
structure Cw where
 A:Option Addr
 c:Nat
 lits:List Int
 lrn:Bool
 act:Int
instance:Inhabited Cw:=⟨⟨none,0,[],false,0⟩⟩
def Cw.rc (x:Cw):Rc:=⟨x.lits,x.lrn,x.act⟩
structure Wl where
 A:Option Addr
 c:Nat
 l:List Nat
instance:Inhabited Wl:=⟨⟨none,0,[]⟩⟩
def Wl.val (h:Wl):Value:= .slice h.A h.l.length h.c
def casts (l:List Nat):List Int:=l.map (fun n:Nat=>(n:Int))
theorem casts_len (l:List Nat):(casts l).length=l.length:=by simp [casts]
theorem casts_get (l:List Nat) (i:Nat):(casts l)[i]! =((l[i]! :Nat):Int):=by
 simp only [casts,List.getElem!_eq_getElem?_getD,List.getElem?_map]
 cases l[i]? <;>simp
def flatC:List Cw→List Value
 |[]=>[]
 |x::r=> .slice x.A x.lits.length x.c:: .bool x.lrn:: .int .i64 x.act::flatC r
theorem flatC_len (cs:List Cw):(flatC cs).length=cs.length*3:=by
 induction cs with
 |nil=>rfl
 |cons x r ih=>simp only [flatC,List.length_cons,ih];omega
theorem flatC_app (a b:List Cw):flatC (a++b)=flatC a++flatC b:=by
 induction a with
 |nil=>rfl
 |cons x r ih=>simp [flatC,ih]
theorem flatC_get:∀(cs:List Cw) (i:Nat),i<cs.length→(flatC cs)[i*3]? =some (.slice (cs[i]!).A (cs[i]!).lits.length (cs[i]!).c)∧(flatC cs)[i*3+1]? =some (.bool (cs[i]!).lrn)∧(flatC cs)[i*3+2]? =some (.int .i64 (cs[i]!).act)
 |[],i,h=>by simp at h
 |x::r,0,h=>by simp [flatC]
 |x::r,i+1,h=>by
  simp only [List.length_cons] at h
  have ih:=flatC_get r i (by omega)
  have e0:(i+1)*3=i*3+3:=by omega
  simp only [flatC,e0]
  have e1:(x::r)[i+1]! =r[i]! :=by simp
  rw [e1]
  refine ⟨?_,?_,?_⟩
  ·simpa [List.getElem?_cons_succ] using ih.1
  ·have :i*3+3+1=(i*3+1)+3:=by omega
   rw [this];simpa [List.getElem?_cons_succ] using ih.2.1
  ·have :i*3+3+2=(i*3+2)+3:=by omega
   rw [this];simpa [List.getElem?_cons_succ] using ih.2.2
theorem flatC_set:∀(cs:List Cw) (i:Nat) (x:Cw),i<cs.length→(((flatC cs).set (i*3) (.slice x.A x.lits.length x.c)).set (i*3+1) (.bool x.lrn)).set (i*3+2) (.int .i64 x.act)=flatC (cs.set i x)
 |[],i,x,h=>by simp at h
 |y::r,0,x,h=>by simp [flatC]
 |y::r,i+1,x,h=>by
  simp only [List.length_cons] at h
  have ih:=flatC_set r i x (by omega)
  have e0:(i+1)*3=i*3+1+1+1:=by omega
  have e1:i*3+1+1+1+1=(i*3+1)+1+1+1:=rfl
  have e2:i*3+1+1+1+2=(i*3+2)+1+1+1:=rfl
  simp only [flatC,e0,e1,e2,List.set_cons_succ,ih]
structure SvL where
 a:Nat
 tL:TrL
 hL:HpL
 cA:Option Addr
 cC:Nat
 wA:Option Addr
 wC:Nat
 pA:Option Addr
 pC:Nat
 mA:Option Addr
 mC:Nat
 oA:Option Addr
 oC:Nat
 cs:List Cw
 ws:List Wl
 id:Nat
 lab:Nat→Nat×Nat×Nat
def scs (L:SvL) (S:Sv):Array Value:=
 #[.pointer (some ⟨L.tL.a,0,none⟩), .pointer (some ⟨L.hL.a,0,none⟩), .int .i64 S.vars, .slice L.cA L.cs.length L.cC, .slice L.wA L.ws.length L.wC, .slice L.pA S.phase.length L.pC, .slice L.mA S.model.length L.mC, .slice L.oA S.core.length L.oC,
  .int .i64 S.head, .int .i64 S.used, .int .i64 S.bump, .int .i64 S.many, .int .i64 S.limit, .bool S.bad, .bool S.has]
def Bools (w:World) (A:Option Addr) (c:Nat) (l:List Bool):Prop:=w.ownsRow 0 4 1 (.slice A l.length c) l.length (l.map Value.bool)
def Recs (w:World) (A:Option Addr) (c:Nat) (l:List Cw):Prop:=w.ownsRow 0 158 3 (.slice A l.length c) l.length (flatC l)
def Wrow (w:World) (A:Option Addr) (c:Nat) (l:List Wl):Prop:=w.ownsRow 0 22 1 (.slice A l.length c) l.length (l.map Wl.val)
theorem own_lt' {w:World} {b:Nat} {e:TypeId} {size n m c:Nat} {A:Option Addr} {vs:List Value} (h:w.ownsRow b e size (.slice A m c) n vs):∀k,k∈blks A→k<w.heap.size:=by
 intro k hk
 rcases h.2 with ⟨h1,_⟩ |⟨g,cap,cur,hv,_,hg,_⟩
 ·simp only [Value.slice.injEq] at h1
  rw [h1.1] at hk
  simp [blks] at hk
 ·simp only [Value.slice.injEq] at hv
  obtain ⟨rfl,_⟩:=hv
  simp [blks] at hk
  subst hk
  exact At.lt (t:=e) hg
structure SvAt (w:World) (L:SvL) (S:Sv):Prop where
 obj:At w L.a 122 (scs L S)
 tr:TrAt w L.tL S.T
 hp:HpAt w L.hL S.H
 hmade:L.hL.A2.isSome=true
 ecs:L.cs.map Cw.rc=S.list
 ews:L.ws.map (·.l)=S.watch
 rcs:Recs w L.cA L.cC L.cs
 rws:Wrow w L.wA L.wC L.ws
 rph:Bools w L.pA L.pC S.phase
 rmo:Bools w L.mA L.mC S.model
 rco:Ints w L.oA L.oC S.core
 ech:∀n:Nat,n<L.cs.length→Ints w (L.cs[n]!).A (L.cs[n]!).c (L.cs[n]!).lits
 ewh:∀c:Nat,c<L.ws.length→Ints w (L.ws[c]!).A (L.ws[c]!).c (casts (L.ws[c]!).l)
 t0:L.lab L.a=(L.id,0,0)
 t1:∀k,k∈L.tL.fp→L.lab k=(L.id,1,0)
 t2:∀k,k∈L.hL.fp→L.lab k=(L.id,2,0)
 t3:∀k,k∈blks L.cA→L.lab k=(L.id,3,0)
 t4:∀k,k∈blks L.wA→L.lab k=(L.id,4,0)
 t5:∀k,k∈blks L.pA→L.lab k=(L.id,5,0)
 t6:∀k,k∈blks L.mA→L.lab k=(L.id,6,0)
 t7:∀k,k∈blks L.oA→L.lab k=(L.id,7,0)
 t8:∀n:Nat,n<L.cs.length→∀k,k∈blks (L.cs[n]!).A→L.lab k=(L.id,8,n)
 t9:∀c:Nat,c<L.ws.length→∀k,k∈blks (L.ws[c]!).A→L.lab k=(L.id,9,c)
def SvL.own (L:SvL) (w:World):List Nat:=(List.range w.heap.size).filter fun k=>(L.lab k).1==L.id
theorem SvL.mem_own {L:SvL} {w:World} {k:Nat}:k∈L.own w↔k<w.heap.size∧(L.lab k).1=L.id:=by simp [SvL.own]
def SvL.ext (L L':SvL) (w:World):Prop:=L'.a=L.a∧L'.id=L.id∧∀k,k<w.heap.size→(L'.lab k).1=L.id→(L.lab k).1=L.id
theorem SvL.ext_refl (L:SvL) (w:World):L.ext L w:=⟨rfl,rfl,fun _ _ h=>h⟩
theorem SvL.ext_trans {L M N:SvL} {w w':World} (h:L.ext M w) (k:M.ext N w') (hw:w.heap.size≤w'.heap.size):L.ext N w:=
 ⟨k.1.trans h.1,k.2.1.trans h.2.1,fun j hj e=>h.2.2 j hj ((k.2.2 j (Nat.lt_of_lt_of_le hj hw) (e.trans h.2.1.symm)).trans h.2.1)⟩
theorem SvL.own_then {L M:SvL} {w w' w'':World} (h:L.ext M w) (h1:Fr (L.own w) w w') (h2:Fr (M.own w') w' w''):Fr (L.own w) w w'':=
 h1.trans h2 fun x hx=>by
  rw [SvL.mem_own] at hx
  rcases Nat.lt_or_ge x w.heap.size with hl |hl
  ·left
   rw [SvL.mem_own]
   exact ⟨hl,h.2.2 x hl (hx.2.trans h.2.1)⟩
  ·exact .inr hl
def SvL.re (L:SvL) (w:World) (t:Nat×Nat):Nat→Nat×Nat×Nat:=fun k=>if k<w.heap.size then L.lab k else (L.id,t)
theorem SvL.re_old {L:SvL} {w:World} {t:Nat×Nat} {k:Nat} (h:k<w.heap.size):L.re w t k=L.lab k:=if_pos h
theorem SvL.re_new {L:SvL} {w:World} {t:Nat×Nat} {k:Nat} (h:w.heap.size≤k):L.re w t k=(L.id,t):=if_neg (by omega)
theorem wild_fr {w w':World} {F:List Nat} {e:TypeId} {size n m c b:Nat} {A:Option Addr} {vs:List Value} (h:w.ownsRow b e size (.slice A m c) n vs) (hf:Fr F w w') (hd:∀k,k∈blks A→k∉F):w'.ownsRow b e size (.slice A m c) n vs:=
 hf.own h fun k hk=>hd k ((blks_own k).1 hk)
structure SvOff (w':World) (L:SvL) (S:Sv) (P:Nat×Nat→Prop):Prop where
 obj:¬P (0,0)→At w' L.a 122 (scs L S)
 tr:¬P (1,0)→TrAt w' L.tL S.T
 hp:¬P (2,0)→HpAt w' L.hL S.H
 rcs:¬P (3,0)→Recs w' L.cA L.cC L.cs
 rws:¬P (4,0)→Wrow w' L.wA L.wC L.ws
 rph:¬P (5,0)→Bools w' L.pA L.pC S.phase
 rmo:¬P (6,0)→Bools w' L.mA L.mC S.model
 rco:¬P (7,0)→Ints w' L.oA L.oC S.core
 ech:∀n:Nat,n<L.cs.length→¬P (8,n)→Ints w' (L.cs[n]!).A (L.cs[n]!).c (L.cs[n]!).lits
 ewh:∀c:Nat,c<L.ws.length→¬P (9,c)→Ints w' (L.ws[c]!).A (L.ws[c]!).c (casts (L.ws[c]!).l)
theorem SvAt.off {w w':World} {L:SvL} {S:Sv} (h:SvAt w L S) {P:Nat×Nat→Prop} {F:List Nat} (hf:Fr F w w') (hF:∀k,k∈F→k<w.heap.size→∃t,P t∧L.lab k=(L.id,t)):SvOff w' L S P:=by
 have key:∀{k:Nat} {u:Nat×Nat},k<w.heap.size→L.lab k=(L.id,u)→¬P u→k∉F:=fun hk hl hne hm=>hne (by
  obtain ⟨t,ht,h2⟩:=hF _ hm hk
  have :=h2.symm.trans hl
  simp only [Prod.mk.injEq,true_and] at this
  obtain rfl :t=_:=by simpa [Prod.ext_iff] using this
  exact ht)
 refine ⟨fun hn=>hf.at_ h.obj (key h.obj.lt h.t0 hn),fun hn=>h.tr.fr hf (fun k hk=>key (h.tr.lt k hk) (h.t1 k hk) hn),fun hn=>h.hp.fr hf (fun k hk=>key (h.hp.lt k hk) (h.t2 k hk) hn),
  fun hn=>wild_fr h.rcs hf (fun k hk=>key (own_lt' h.rcs k hk) (h.t3 k hk) hn),fun hn=>wild_fr h.rws hf (fun k hk=>key (own_lt' h.rws k hk) (h.t4 k hk) hn),
  fun hn=>wild_fr h.rph hf (fun k hk=>key (own_lt' h.rph k hk) (h.t5 k hk) hn),fun hn=>wild_fr h.rmo hf (fun k hk=>key (own_lt' h.rmo k hk) (h.t6 k hk) hn),
  fun hn=>h.rco.fr hf (fun k hk=>key (h.rco.lt k hk) (h.t7 k hk) hn),fun n hl hn=>(h.ech n hl).fr hf (fun k hk=>key ((h.ech n hl).lt k hk) (h.t8 n hl k hk) hn),
  fun c hl hn=>(h.ewh c hl).fr hf (fun k hk=>key ((h.ewh c hl).lt k hk) (h.t9 c hl k hk) hn)⟩
theorem SvAt.fr {w w':World} {L:SvL} {S:Sv} (h:SvAt w L S) {F:List Nat} (hf:Fr F w w') (hF:∀k,k∈F→k<w.heap.size→(L.lab k).1≠L.id):SvAt w' L S:=by
 have key:∀{k:Nat} {u:Nat×Nat},k<w.heap.size→L.lab k=(L.id,u)→k∉F:=fun hk hl hm=>hF _ hm hk (by rw [hl])
 exact ⟨hf.at_ h.obj (key h.obj.lt h.t0),h.tr.fr hf (fun k hk=>key (h.tr.lt k hk) (h.t1 k hk)),h.hp.fr hf (fun k hk=>key (h.hp.lt k hk) (h.t2 k hk)),h.hmade,h.ecs,h.ews,
  wild_fr h.rcs hf (fun k hk=>key (own_lt' h.rcs k hk) (h.t3 k hk)),wild_fr h.rws hf (fun k hk=>key (own_lt' h.rws k hk) (h.t4 k hk)),
  wild_fr h.rph hf (fun k hk=>key (own_lt' h.rph k hk) (h.t5 k hk)),wild_fr h.rmo hf (fun k hk=>key (own_lt' h.rmo k hk) (h.t6 k hk)),
  h.rco.fr hf (fun k hk=>key (h.rco.lt k hk) (h.t7 k hk)),fun n hl=>(h.ech n hl).fr hf (fun k hk=>key ((h.ech n hl).lt k hk) (h.t8 n hl k hk)),
  fun c hl=>(h.ewh c hl).fr hf (fun k hk=>key ((h.ewh c hl).lt k hk) (h.t9 c hl k hk)),h.t0,h.t1,h.t2,h.t3,h.t4,h.t5,h.t6,h.t7,h.t8,h.t9⟩
theorem SvAt.keep {w w':World} {L:SvL} {S:Sv} (h:SvAt w L S) (hf:Fr [] w w'):SvAt w' L S:=h.fr hf (fun k hk=>by cases hk)
structure SvTags (L:SvL) (lab:Nat→Nat×Nat×Nat):Prop where
 t0:lab L.a=(L.id,0,0)
 t1:∀k,k∈L.tL.fp→lab k=(L.id,1,0)
 t2:∀k,k∈L.hL.fp→lab k=(L.id,2,0)
 t3:∀k,k∈blks L.cA→lab k=(L.id,3,0)
 t4:∀k,k∈blks L.wA→lab k=(L.id,4,0)
 t5:∀k,k∈blks L.pA→lab k=(L.id,5,0)
 t6:∀k,k∈blks L.mA→lab k=(L.id,6,0)
 t7:∀k,k∈blks L.oA→lab k=(L.id,7,0)
 t8:∀n:Nat,n<L.cs.length→∀k,k∈blks (L.cs[n]!).A→lab k=(L.id,8,n)
 t9:∀c:Nat,c<L.ws.length→∀k,k∈blks (L.ws[c]!).A→lab k=(L.id,9,c)
theorem SvAt.tags {w:World} {L:SvL} {S:Sv} (h:SvAt w L S) (t:Nat×Nat):SvTags L (L.re w t):=by
 refine ⟨?_,fun k hk=> ?_,fun k hk=> ?_,fun k hk=> ?_,fun k hk=> ?_,fun k hk=> ?_,fun k hk=> ?_,fun k hk=> ?_,fun n hn k hk=> ?_,fun n hn k hk=> ?_⟩
 ·rw [SvL.re_old h.obj.lt];exact h.t0
 ·rw [SvL.re_old (h.tr.lt k hk)];exact h.t1 k hk
 ·rw [SvL.re_old (h.hp.lt k hk)];exact h.t2 k hk
 ·rw [SvL.re_old (own_lt' h.rcs k hk)];exact h.t3 k hk
 ·rw [SvL.re_old (own_lt' h.rws k hk)];exact h.t4 k hk
 ·rw [SvL.re_old (own_lt' h.rph k hk)];exact h.t5 k hk
 ·rw [SvL.re_old (own_lt' h.rmo k hk)];exact h.t6 k hk
 ·rw [SvL.re_old (h.rco.lt k hk)];exact h.t7 k hk
 ·rw [SvL.re_old ((h.ech n hn).lt k hk)];exact h.t8 n hn k hk
 ·rw [SvL.re_old ((h.ewh n hn).lt k hk)];exact h.t9 n hn k hk
theorem SvL.re_part {L:SvL} {w:World} {t:Nat×Nat} {k:Nat} (h:(k<w.heap.size∧L.lab k=(L.id,t))∨w.heap.size≤k):L.re w t k=(L.id,t):=by
 rcases h with ⟨h1,h2⟩ |h1
 ·rw [SvL.re_old h1,h2]
 ·exact SvL.re_new h1
theorem SvL.part_fr {L:SvL} {w w':World} {F:List Nat} (hf:Fr F w w') (hF:∀k,k∈F→k<w.heap.size→(L.lab k).1=L.id):Fr (L.own w) w w':=
 hf.mono fun k hk=>by
  rcases Nat.lt_or_ge k w.heap.size with hl |hl
  ·left
   rw [SvL.mem_own]
   exact ⟨hl,hF k hk hl⟩
  ·exact .inr hl
theorem SvL.re_own {L:SvL} {w:World} {t:Nat×Nat} {k:Nat} (h:k<w.heap.size) (e:(L.re w t k).1=L.id):(L.lab k).1=L.id:=by rwa [SvL.re_old h] at e
theorem SvAt.trail {w w':World} {L:SvL} {S:Sv} (h:SvAt w L S) {tL':TrL} {T':Tr} (ht:TrAt w' tL' T') (he:L.tL.ext tL' w) (hf:Fr L.tL.fp w w'):
  ∃L',SvAt w' L' { S with T:=T' }∧L.ext L' w∧Fr (L.own w) w w':=by
 have hF:∀k,k∈L.tL.fp→k<w.heap.size→L.lab k=(L.id,1,0):=fun k hk _=>h.t1 k hk
 have o:=h.off (P:=(· =(1,0))) hf (fun k hk hl=>⟨_,rfl,hF k hk hl⟩)
 have g:=h.tags (1,0)
 have ea:=he.1
 refine ⟨{ L with tL:=tL',lab:=L.re w (1,0) },⟨?_,ht,o.hp (by decide),h.hmade,h.ecs,h.ews,o.rcs (by decide),o.rws (by decide),o.rph (by decide),o.rmo (by decide),o.rco (by decide),fun n hn=>o.ech n hn (by simp),fun n hn=>o.ewh n hn (by simp),
  g.t0,fun k hk=>SvL.re_part ((he.2 k hk).imp (fun h1=>⟨h.tr.lt k h1,h.t1 k h1⟩) id),g.t2,g.t3,g.t4,g.t5,g.t6,g.t7,g.t8,g.t9⟩,⟨rfl,rfl,fun k hk e=>SvL.re_own hk e⟩,SvL.part_fr hf (fun k hk hl=>by rw [hF k hk hl])⟩
 have :=o.obj (by decide)
 simp only [scs] at this⊢
 rw [ea]
 exact this
theorem SvAt.heap {w w':World} {L:SvL} {S:Sv} (h:SvAt w L S) {hL':HpL} {H':Hp} (ht:HpAt w' hL' H') (he:L.hL.ext hL' w) (hf:Fr L.hL.fp w w'):
  ∃L',SvAt w' L' { S with H:=H' }∧L.ext L' w∧Fr (L.own w) w w':=by
 have hF:∀k,k∈L.hL.fp→k<w.heap.size→L.lab k=(L.id,2,0):=fun k hk _=>h.t2 k hk
 have o:=h.off (P:=(· =(2,0))) hf (fun k hk hl=>⟨_,rfl,hF k hk hl⟩)
 have g:=h.tags (2,0)
 have ea:=he.1
 refine ⟨{ L with hL:=hL',lab:=L.re w (2,0) },⟨?_,o.tr (by decide),ht,he.2.2 h.hmade,h.ecs,h.ews,o.rcs (by decide),o.rws (by decide),o.rph (by decide),o.rmo (by decide),o.rco (by decide),fun n hn=>o.ech n hn (by simp),fun n hn=>o.ewh n hn (by simp),
  g.t0,g.t1,fun k hk=>SvL.re_part ((he.2.1 k hk).imp (fun h1=>⟨h.hp.lt k h1,h.t2 k h1⟩) id),g.t3,g.t4,g.t5,g.t6,g.t7,g.t8,g.t9⟩,⟨rfl,rfl,fun k hk e=>SvL.re_own hk e⟩,SvL.part_fr hf (fun k hk hl=>by rw [hF k hk hl])⟩
 have :=o.obj (by decide)
 simp only [scs] at this⊢
 rw [ea]
 exact this
theorem SvAt.top {w w':World} {L L':SvL} {S S':Sv} (h:SvAt w L S) (hf:Fr [L.a] w w') (ho:At w' L.a 122 (scs L' S'))
  (hL:L'.a=L.a∧L'.tL=L.tL∧L'.hL=L.hL∧L'.cA=L.cA∧L'.cC=L.cC∧L'.wA=L.wA∧L'.wC=L.wC∧L'.pA=L.pA∧L'.pC=L.pC∧L'.mA=L.mA∧L'.mC=L.mC∧L'.oA=L.oA∧L'.oC=L.oC∧L'.cs=L.cs∧L'.ws=L.ws∧L'.id=L.id∧L'.lab=L.lab)
  (hS:S'.T=S.T∧S'.H=S.H∧S'.list=S.list∧S'.watch=S.watch∧S'.phase=S.phase∧S'.model=S.model∧S'.core=S.core):SvAt w' L' S'∧L.ext L' w∧Fr (L.own w) w w':=by
 have hF:∀k,k∈[L.a]→k<w.heap.size→L.lab k=(L.id,0,0):=fun k hk _=>by simp at hk;subst hk;exact h.t0
 have o:=h.off (P:=(· =(0,0))) hf (fun k hk hl=>⟨_,rfl,hF k hk hl⟩)
 obtain ⟨L1,L2,L3,L4,L5,L6,L7,L8,L9,L10,L11,L12,L13,L14,L15,L16,L17⟩:=hL
 obtain ⟨S1,S2,S3,S4,S5,S6,S7⟩:=hS
 refine ⟨⟨by rw [L1];exact ho,?_,?_,?_,?_,?_,?_,?_,?_,?_,?_,?_,?_,?_,?_,?_,?_,?_,?_,?_,?_,?_,?_⟩,⟨L1,L16,fun k _ e=>by rwa [L17] at e⟩,SvL.part_fr hf (fun k hk hl=>by rw [hF k hk hl])⟩
 ·rw [L2,S1];exact o.tr (by decide)
 ·rw [L3,S2];exact o.hp (by decide)
 ·rw [L3];exact h.hmade
 ·rw [L14,S3];exact h.ecs
 ·rw [L15,S4];exact h.ews
 ·rw [L4,L5,L14];exact o.rcs (by decide)
 ·rw [L6,L7,L15];exact o.rws (by decide)
 ·rw [L8,L9,S5];exact o.rph (by decide)
 ·rw [L10,L11,S6];exact o.rmo (by decide)
 ·rw [L12,L13,S7];exact o.rco (by decide)
 ·rw [L14];exact fun n hn=>o.ech n hn (by simp)
 ·rw [L15];exact fun n hn=>o.ewh n hn (by simp)
 ·rw [L17,L1,L16];exact h.t0
 ·rw [L17,L2,L16];exact h.t1
 ·rw [L17,L3,L16];exact h.t2
 ·rw [L17,L4,L16];exact h.t3
 ·rw [L17,L6,L16];exact h.t4
 ·rw [L17,L8,L16];exact h.t5
 ·rw [L17,L10,L16];exact h.t6
 ·rw [L17,L12,L16];exact h.t7
 ·rw [L17,L14,L16];exact h.t8
 ·rw [L17,L15,L16];exact h.t9
theorem set_idem {α:Type} {l:List α} {i:Nat} {x:α} (h:l[i]? =some x):l.set i x=l:=by
 apply List.ext_getElem?
 intro j
 rw [List.getElem?_set]
 split
 ·rename_i e
  subst e
  split
  ·exact h.symm
  ·rename_i hl
   rw [List.getElem?_eq_none (by omega)]
 ·rfl
theorem getB_set {α:Type} [Inhabited α] (l:List α) (i j:Nat) (x:α):(l.set i x)[j]! =if i=j∧i<l.length then x else l[j]! :=by
 simp only [List.getElem!_eq_getElem?_getD,List.getElem?_set]
 by_cases h:i=j
 ·subst h
  by_cases h2:i<l.length
  ·simp [h2]
  ·simp [h2]
 ·simp [h]
theorem SvAt.lits' {w w':World} {L:SvL} {S:Sv} (h:SvAt w L S) {n:Nat} (hn:n<L.cs.length) {ls:List Int} {F:List Nat} (hi:Ints w' (L.cs[n]!).A (L.cs[n]!).c ls) (hl:ls.length=(L.cs[n]!).lits.length)
  (hf:Fr F w w') (hF:∀k,k∈F→k<w.heap.size→L.lab k=(L.id,8,n)):∃L',SvAt w' L' (S.lset n ls)∧L.ext L' w∧Fr (L.own w) w w'∧L'.cs=L.cs.set n { L.cs[n]! with lits:=ls }∧L'.ws=L.ws∧L'.wA=L.wA∧L'.tL=L.tL:=by
 have o:=h.off (P:=(· =(8,n))) hf (fun k hk hl=>⟨_,rfl,hF k hk hl⟩)
 have hget:∀j:Nat,(L.cs.set n { L.cs[n]! with lits:=ls })[j]! =if n=j∧n<L.cs.length then { L.cs[n]! with lits:=ls } else L.cs[j]! :=fun j=>getB_set _ _ _ _
 refine ⟨{ L with cs:=L.cs.set n { L.cs[n]! with lits:=ls } },⟨?_,o.tr (by simp),o.hp (by simp),h.hmade,?_,h.ews,?_,o.rws (by simp),o.rph (by simp),o.rmo (by simp),o.rco (by simp),?_,fun c hc=>o.ewh c hc (by simp),h.t0,h.t1,h.t2,h.t3,h.t4,h.t5,h.t6,h.t7,?_,h.t9⟩,⟨rfl,rfl,fun k _ e=>e⟩,SvL.part_fr hf (fun k hk hl=>by rw [hF k hk hl]),rfl,rfl,rfl,rfl⟩
 ·have :=o.obj (by simp)
  simp only [scs,Sv.lset,List.length_set] at this⊢
  exact this
 ·simp only [Sv.lset,Sv.rc]
  rw [←h.ecs,List.map_set]
  congr 1
  simp only [Cw.rc,List.getElem!_eq_getElem?_getD,List.getElem?_map,List.getElem?_eq_getElem hn,Option.map_some,Option.getD_some]
 ·have :=o.rcs (by simp)
  unfold Recs at this⊢
  have e:flatC (L.cs.set n { L.cs[n]! with lits:=ls })=flatC L.cs:=by
   obtain ⟨g0,g1,g2⟩:=flatC_get L.cs n hn
   rw [←flatC_set L.cs n _ hn]
   simp only
   have e0:(flatC L.cs).set (n*3) (.slice (L.cs[n]!).A ls.length (L.cs[n]!).c)=flatC L.cs:=set_idem (by rw [hl];exact g0)
   rw [e0,set_idem g1,set_idem g2]
  simp only [List.length_set,e]
  exact this
 ·intro j hj
  simp only [List.length_set] at hj
  simp only
  rw [hget]
  by_cases e:n=j
  ·subst e
   rw [if_pos ⟨rfl,hn⟩]
   exact hi
  ·rw [if_neg (fun x=>e x.1)]
   exact o.ech j hj (by simp;omega)
 ·intro j hj k hk
  simp only [List.length_set] at hj
  simp only at hk
  rw [hget] at hk
  by_cases e:n=j
  ·subst e
   rw [if_pos ⟨rfl,hn⟩] at hk
   exact h.t8 n hn k hk
  ·rw [if_neg (fun x=>e x.1)] at hk
   exact h.t8 j hj k hk
theorem SvAt.lits {w w':World} {L:SvL} {S:Sv} (h:SvAt w L S) {n:Nat} (hn:n<L.cs.length) {ls:List Int} {F:List Nat} (hi:Ints w' (L.cs[n]!).A (L.cs[n]!).c ls) (hl:ls.length=(L.cs[n]!).lits.length)
  (hf:Fr F w w') (hF:∀k,k∈F→k<w.heap.size→L.lab k=(L.id,8,n)):∃L',SvAt w' L' (S.lset n ls)∧L.ext L' w∧Fr (L.own w) w w'∧L'.cs=L.cs.set n { L.cs[n]! with lits:=ls }∧L'.ws=L.ws∧L'.wA=L.wA:=by
 obtain ⟨L',h1,h2,h3,h4,h5,h6,_⟩:=h.lits' hn hi hl hf hF
 exact ⟨L',h1,h2,h3,h4,h5,h6⟩
theorem SvAt.wset {w w1:World} {L:SvL} {S:Sv} (h:SvAt w L S) {c:Nat} (hc:c<L.ws.length) {A':Option Addr} {c':Nat} {l':List Nat} {F:List Nat} (hi:Ints w1 A' c' (casts l'))
  (hf:Fr F w w1) (hF:∀k,k∈F→k<w.heap.size→L.lab k=(L.id,9,c)) (hA:∀k,k∈blks A'→(k<w.heap.size∧L.lab k=(L.id,9,c))∨w.heap.size≤k):
  ∃gw,L.wA=some ⟨gw,0,none⟩∧gw<w.heap.size∧w1.frozen? ⟨gw,c,none⟩=false∧∃L',SvAt (w1.setCell ⟨gw,c,none⟩ (.slice A' l'.length c')) L' (S.wset c l')∧L.ext L' w∧Fr (L.own w) w (w1.setCell ⟨gw,c,none⟩ (.slice A' l'.length c'))∧L'={ L with ws:=L.ws.set c ⟨A',c',l'⟩,lab:=L.re w (9,c) }:=by
 have o1:=h.off (P:=(· =(9,c))) hf (fun k hk hl=>⟨_,rfl,hF k hk hl⟩)
 have r1:=o1.rws (by simp)
 have hgw:∃gw,L.wA=some ⟨gw,0,none⟩∧gw<w.heap.size:=by
  rcases h.rws.2 with ⟨_,h2⟩ |⟨g,cap,cur,hv,_,hg,_⟩
  ·omega
  ·simp only [Value.slice.injEq,true_and] at hv
   exact ⟨g,hv.1,At.lt (t:=22) hg⟩
 obtain ⟨gw,hwA,hgl⟩:=hgw
 have hlab:L.lab gw=(L.id,4,0):=h.t4 gw (by rw [hwA];simp [blks])
 have r1':=r1
 unfold Wrow at r1
 rw [hwA] at r1
 have hst:=(World.ownsRow.stored r1 c (.slice A' l'.length c')).1
 have hf2:Fr (gw::F) w (w1.setCell ⟨gw,c,none⟩ (.slice A' l'.length c')):=(hf.mono (fun k hk=> .inl (by simp [hk]))).setCell (.inl (by simp)) _
 have hF2:∀k,k∈gw::F→k<w.heap.size→∃t,(t=(9,c)∨t=(4,0))∧L.lab k=(L.id,t):=by
  intro k hk hl
  rcases List.mem_cons.1 hk with rfl |hk
  ·exact ⟨_, .inr rfl,hlab⟩
  ·exact ⟨_, .inl rfl,hF k hk hl⟩
 have o:=h.off (P:=fun t=>t=(9,c)∨t=(4,0)) hf2 hF2
 have g:=h.tags (9,c)
 have hne:∀k,k∈blks A'→k≠gw:=by
  rintro k hk rfl
  rcases hA k hk with ⟨_,h2⟩ |h2
  ·rw [hlab] at h2;simp at h2
  ·omega
 have hget:∀j:Nat,(L.ws.set c ⟨A',c',l'⟩)[j]! =if c=j∧c<L.ws.length then ⟨A',c',l'⟩ else L.ws[j]! :=fun j=>getB_set _ _ _ _
 refine ⟨gw,hwA,hgl,World.ownsRow.frozenAt r1 c,{ L with ws:=L.ws.set c ⟨A',c',l'⟩,lab:=L.re w (9,c) },⟨?_,o.tr (by simp),o.hp (by simp),h.hmade,h.ecs,?_,o.rcs (by simp),?_,o.rph (by simp),o.rmo (by simp),o.rco (by simp),fun n hn=>o.ech n hn (by simp),?_,
  g.t0,g.t1,g.t2,g.t3,g.t4,g.t5,g.t6,g.t7,g.t8,?_⟩,⟨rfl,rfl,fun k hk e=>SvL.re_own hk e⟩,SvL.part_fr hf2 (fun k hk hl=>by obtain ⟨t,_,e⟩:=hF2 k hk hl;rw [e]),rfl⟩
 ·have :=o.obj (by simp)
  simp only [scs,Sv.wset,List.length_set] at this⊢
  exact this
 ·simp only [Sv.wset]
  rw [←h.ews,List.map_set]
 ·unfold Wrow
  simp only [List.length_set,List.map_set]
  rw [hwA]
  exact hst
 ·intro j hj
  simp only [List.length_set] at hj
  simp only
  rw [hget]
  by_cases e:c=j
  ·subst e
   rw [if_pos ⟨rfl,hc⟩]
   exact hi.far (p:=⟨gw,c,none⟩) (fun hk=>hne _ hk rfl) _
  ·rw [if_neg (fun x=>e x.1)]
   exact o.ewh j hj (by simp;omega)
 ·intro j hj k hk
  simp only [List.length_set] at hj
  simp only at hk
  rw [hget] at hk
  by_cases e:c=j
  ·subst e
   rw [if_pos ⟨rfl,hc⟩] at hk
   exact SvL.re_part (hA k hk)
  ·rw [if_neg (fun x=>e x.1)] at hk
   exact g.t9 j hj k hk
theorem code_calls (w:World) (l:Int) (h0: -1000000000≤l) (h1:l≤1000000000):
  Calls Tryz.prog 125 #[.int .i64 l] w fun e w'=>e= .returned (.int .i64 (lcode l:Nat))∧w=w':=by
 by_cases hn:l<0
 ·have hd:decide (l<0)=true:=decide_eq_true hn
  have hc:Hid ((lcode l:Int)= -2*l+1):=by unfold lcode Hid;rw [if_pos hn];omega
  have hk:Hid (∀x:Int,x= -2*l+1→Ending.returned (.int .i64 x)= .returned (.int .i64 (lcode l:Nat))):=fun x hx=>by rw [hx,hc.out]
  go_enter Tryz.func125,Tryz.ntmps125
  go_wp2_with fail
  go_ret
  exact ⟨hk.out _ (by first |rfl |omega | (simp;omega)),rfl⟩
 ·have hd:decide (l<0)=false:=decide_eq_false hn
  have hc:Hid ((lcode l:Int)=2*l):=by unfold lcode Hid;rw [if_neg hn];omega
  have hk:Hid (∀x:Int,x=2*l→Ending.returned (.int .i64 x)= .returned (.int .i64 (lcode l:Nat))):=fun x hx=>by rw [hx,hc.out]
  go_enter Tryz.func125,Tryz.ntmps125
  go_wp2_with fail
  go_ret
  exact ⟨hk.out _ (by first |rfl |omega | (simp;omega)),rfl⟩
theorem SvAt.cells {w:World} {L:SvL} {S:Sv} (h:SvAt w L S):
  w.cell? ⟨L.a,0,none⟩=some (.pointer (some ⟨L.tL.a,0,none⟩))∧w.cell? ⟨L.a,1,none⟩=some (.pointer (some ⟨L.hL.a,0,none⟩))∧w.cell? ⟨L.a,2,none⟩=some (.int .i64 S.vars)∧w.cell? ⟨L.a,3,none⟩=some (.slice L.cA L.cs.length L.cC)∧
  w.cell? ⟨L.a,4,none⟩=some (.slice L.wA L.ws.length L.wC)∧w.cell? ⟨L.a,5,none⟩=some (.slice L.pA S.phase.length L.pC)∧w.cell? ⟨L.a,6,none⟩=some (.slice L.mA S.model.length L.mC)∧w.cell? ⟨L.a,7,none⟩=some (.slice L.oA S.core.length L.oC)∧
  w.cell? ⟨L.a,8,none⟩=some (.int .i64 S.head)∧w.cell? ⟨L.a,9,none⟩=some (.int .i64 S.used)∧w.cell? ⟨L.a,10,none⟩=some (.int .i64 S.bump)∧w.cell? ⟨L.a,11,none⟩=some (.int .i64 S.many)∧w.cell? ⟨L.a,12,none⟩=some (.int .i64 S.limit)∧
  w.cell? ⟨L.a,13,none⟩=some (.bool S.bad)∧w.cell? ⟨L.a,14,none⟩=some (.bool S.has):=by
 have o:=h.obj
 refine ⟨?_,?_,?_,?_,?_,?_,?_,?_,?_,?_,?_,?_,?_,?_,?_⟩<;>(rw [o.cell];rfl)
theorem made_calls (w:World) (L:SvL) (S:Sv) (h:SvAt w L S):
  Calls Tryz.prog 81 #[.pointer (some ⟨L.a,0,none⟩)] w fun e w'=>e= .returned (.bool true)∧w=w':=by
 obtain ⟨c0,-⟩:=h.cells
 clear h
 go_enter Tryz.func81,Tryz.ntmps81
 go_wp2_with fail
 go_ret
 exact ⟨rfl,rfl⟩
structure Sv.Ok (S:Sv) (m:Nat):Prop where
 vl:S.vars≤262143
 tr:∃R,TRep S.T S.vars R S.T.levels.length
 hi:HI S.H
 hl:S.H.at_.length=S.vars+1
 ph:S.phase.length=S.vars+1
 wl:S.watch.length=2*S.vars+2
 ll:S.list.length≤2199023255552
 wb:∀c n:Nat,n∈S.watch[c]! →n<S.list.length
 wt:(S.watch.map List.length).sum+m≤2*S.list.length
 lr:∀n:Nat,∀x∈(S.rc n).lits,x≠0∧ -(S.vars:Int)≤x∧x≤S.vars
 ln:∀n:Nat,(S.rc n).lits.length≠1
 lb:∀n:Nat,(S.rc n).lits.length≤1048576
 hd:S.head≤S.T.lits.length
 rs:∀v:Int,0≤S.T.reaB v∧S.T.reaB v≤S.list.length
theorem Sv.Ok.small {S:Sv} {m:Nat} (ok:S.Ok m):∀v:Int,1≤v→v<S.T.cells.length→ -1≤(S.T.cel v).v∧(S.T.cel v).v≤1:=by
 obtain ⟨R,hR⟩:=ok.tr
 exact hR.small
theorem Sv.Ok.lit {S:Sv} {m:Nat} (ok:S.Ok m) {n k:Nat} (hk:k<(S.rc n).lits.length):(S.rc n).lits[k]! ≠0∧ -(S.vars:Int)≤(S.rc n).lits[k]! ∧(S.rc n).lits[k]! ≤S.vars:=
 ok.lr n _ (by simp only [List.getElem!_eq_getElem?_getD,List.getElem?_eq_getElem hk,Option.getD_some];exact List.getElem_mem hk)
theorem code_lt {x:Int} {v:Nat} (h0: -(v:Int)≤x) (h1:x≤v):lcode x<2*v+2:=by
 unfold lcode
 split<;>omega
theorem sum_get:∀(l:List Nat) (c:Nat),l[c]! ≤l.sum
 |[],c=>by simp
 |x::r,0=>by simp
 |x::r,c+1=>by have :=sum_get r c;simp only [List.sum_cons];simp at this⊢;omega
theorem Sv.Ok.room {S:Sv} {m:Nat} (ok:S.Ok m) (c:Nat):(S.watch[c]!).length≤4398046511104:=by
 have h1:=sum_get (S.watch.map List.length) c
 have h2:=ok.wt
 have h3:=ok.ll
 have e:(S.watch.map List.length)[c]! =(S.watch[c]!).length:=by
  simp only [List.getElem!_eq_getElem?_getD,List.getElem?_map]
  cases S.watch[c]? <;>rfl
 omega
theorem findK_stop {S:Sv} {l:List Int} {f k:Nat} (h:l.length≤k):S.findK l f k=none:=by
 cases f with
 |zero=>rfl
 |succ f=>simp only [Sv.findK];rw [if_neg (by omega)]
theorem findK_go {S:Sv} {l:List Int} {f k:Nat} (h:k<l.length) (hv:¬0≤S.val l[k]!):S.findK l (f+1) k=S.findK l f (k+1):=by
 simp only [Sv.findK]
 rw [if_pos h,if_neg hv]
theorem findK_yes {S:Sv} {l:List Int} {f k:Nat} (h:k<l.length) (hv:0≤S.val l[k]!):S.findK l (f+1) k=some k:=by
 simp only [Sv.findK]
 rw [if_pos h,if_pos hv]
theorem SvAt.rc_eq {w:World} {L:SvL} {S:Sv} (h:SvAt w L S) {n:Nat} (hn:n<L.cs.length):S.rc n=(L.cs[n]!).rc:=by
 unfold Sv.rc
 rw [←h.ecs]
 simp only [List.getElem!_eq_getElem?_getD,List.getElem?_map,List.getElem?_eq_getElem hn,Option.map_some,Option.getD_some]
theorem SvAt.wat_eq {w:World} {L:SvL} {S:Sv} (h:SvAt w L S) {c:Nat} (hc:c<L.ws.length):S.wat c=(L.ws[c]!).l:=by
 unfold Sv.wat
 rw [←h.ews]
 simp only [List.getElem!_eq_getElem?_getD,List.getElem?_map,List.getElem?_eq_getElem hc,Option.map_some,Option.getD_some]
theorem SvAt.lenc {w:World} {L:SvL} {S:Sv} (h:SvAt w L S):L.cs.length=S.list.length:=by rw [←h.ecs,List.length_map]
theorem SvAt.lenw {w:World} {L:SvL} {S:Sv} (h:SvAt w L S):L.ws.length=S.watch.length:=by rw [←h.ews,List.length_map]
theorem SvAt.rcell {w:World} {L:SvL} {S:Sv} (h:SvAt w L S) {n:Nat} (hn:n<L.cs.length):∃g,L.cA=some ⟨g,0,none⟩∧
  w.cell? ⟨g,n*3,none⟩=some (.slice (L.cs[n]!).A (L.cs[n]!).lits.length (L.cs[n]!).c)∧w.cell? ⟨g,n*3+1,none⟩=some (.bool (L.cs[n]!).lrn)∧w.cell? ⟨g,n*3+2,none⟩=some (.int .i64 (L.cs[n]!).act):=by
 have r:=h.rcs
 unfold Recs at r
 obtain ⟨g,hg⟩:∃g,L.cA=some ⟨g,0,none⟩:=by
  rcases r.2 with ⟨_,h2⟩ |⟨g,cap,cur,hv,_,hg,_⟩
  ·omega
  ·simp only [Value.slice.injEq,true_and] at hv
   exact ⟨g,hv.1⟩
 rw [hg] at r
 obtain ⟨g0,g1,g2⟩:=flatC_get L.cs n hn
 have hl:=flatC_len L.cs
 refine ⟨g,hg,?_,?_,?_⟩
 ·rw [World.ownsRow.cellAt r (n*3) (by omega)];exact g0
 ·rw [World.ownsRow.cellAt r (n*3+1) (by omega)];exact g1
 ·rw [World.ownsRow.cellAt r (n*3+2) (by omega)];exact g2
theorem SvAt.whd {w:World} {L:SvL} {S:Sv} (h:SvAt w L S) {c:Nat} (hc:c<L.ws.length):∃g,L.wA=some ⟨g,0,none⟩∧w.cell? ⟨g,c,none⟩=some (.slice (L.ws[c]!).A (L.ws[c]!).l.length (L.ws[c]!).c)∧w.frozen? ⟨g,c,none⟩=false:=by
 have r:=h.rws
 unfold Wrow at r
 obtain ⟨g,hg⟩:∃g,L.wA=some ⟨g,0,none⟩:=by
  rcases r.2 with ⟨_,h2⟩ |⟨g,cap,cur,hv,_,hg,_⟩
  ·omega
  ·simp only [Value.slice.injEq,true_and] at hv
   exact ⟨g,hv.1⟩
 rw [hg] at r
 refine ⟨g,hg,?_,World.ownsRow.frozenAt r c⟩
 rw [World.ownsRow.cellAt r c (by omega)]
 simp only [List.getElem?_map,List.getElem?_eq_getElem hc,Option.map_some,List.getElem!_eq_getElem?_getD,Option.getD_some,Wl.val]
theorem Fr.cellN {w w':World} {F:List Nat} {p:Addr} {v:Value} (h:Fr F w w') (hn:p.block∉F) (hc:w.cell? p=some v):w'.cell? p=some v:=by
 rw [World.cell?_of_block (h.block p.block (lt_of_cell hc) hn)]
 exact hc
theorem casts_app (l:List Nat) (n:Nat):casts l++[(n:Int)]=casts (l++[n]):=by simp [casts]
def MvP (MV:Sv×Bool) (L:SvL) (w:World) (e:Ending) (w':World):Prop:=
 (e= .returned (.bool false)∧MV.2=false∧Fr [] w w')∨(e= .returned (.bool true)∧MV.2=true∧∃L',SvAt w' L' MV.1∧L.ext L' w∧Fr (L.own w) w w')
def SvP (r:Value) (S':Sv) (L:SvL) (w:World) (e:Ending) (w':World):Prop:=e= .returned r∧∃L',SvAt w' L' S'∧L.ext L' w∧Fr (L.own w) w w'
set_option maxRecDepth 100000 in
set_option maxHeartbeats 4000000 in
theorem moved_calls (w:World) (L:SvL) (S:Sv) (h:SvAt w L S) (m:Nat) (ok:S.Ok m) (n:Nat) (hn:n<S.list.length):
  Calls Tryz.prog 198 #[.pointer (some ⟨L.a,0,none⟩), .int .i64 n] w (MvP (S.movedF n) L w):=by
 have hnc:n<L.cs.length:=by rw [h.lenc];exact hn
 have hrc:=h.rc_eq hnc
 obtain ⟨-,-,-,-⟩:=h.cells
 obtain ⟨gc,hgc,x0,-,-⟩:=h.rcell hnc
 have hrow:=h.ech n hnc
 have hlab:=h.t8 n hnc
 have hlb:=ok.lb n
 have hlit:=fun k hk=>ok.lit (n:=n) (k:=k) hk
 rw [hrc] at hlb hlit
 simp only [Cw.rc] at hlb hlit
 obtain ⟨⟨A,c,l,b,ac⟩,hx⟩:∃x,L.cs[n]! =x:=⟨_,rfl⟩
 rw [hx] at hrc x0 hrow hlb hlit hlab
 simp only [Cw.rc] at hrc x0 hrow hlb hlit hlab
 have HROW:=Lib.hid hrow
 have HH:=Lib.hid h
 have HV:=Lib.hid (fun (u:Ext w) (y:Int) (h0: -9223372036854775808≤y) (h1:y≤9223372036854775807)=>trail_value u.v L.tL S.T (h.tr.fr u.fr (by simp)) y h0 h1 ok.small)
 have HVL:=ok.vl
 have HLIT:=Lib.hid hlit
 have hll:=ok.ll
 obtain ⟨fk,hfk⟩:∃fk,S.findK l l.length 2=fk:=⟨_,rfl⟩
 have HFK:=Lib.hid hfk
 have hmv:S.movedF n=S.movedTo n l fk:=by
  simp only [Sv.movedF,hrc,hfk]
 have HMV:=Lib.hid hmv
 obtain ⟨MV,hMV⟩:∃MV,S.movedF n=MV:=⟨_,rfl⟩
 rw [hMV] at HMV⊢
 have NO:Hid (fk=none→∀W,Fr [] w W→MvP MV L w (.returned (.bool false)) W):=fun h1 W hW=>by
  subst h1
  rw [HMV.out]
  exact .inl ⟨rfl,rfl,hW⟩
 have YES:Hid (∀k,fk=some k→∀W L',SvAt W L' ((S.lset n (swp2 l 1 k)).wput (lcode l[k]!) n)→L.ext L' w→Fr (L.own w) w W→MvP MV L w (.returned (.bool true)) W):=fun k h1 W L' g1 g2 g3=>by
  subst h1
  rw [HMV.out]
  exact .inr ⟨rfl,rfl,L',g1,g2,g3⟩
 obtain ⟨c0,-,-,c3,c4,-⟩:=h.cells
 rw [hgc] at c3
 have HC0:=Lib.hid c0
 have hlenc:=h.lenc
 have HX:=Lib.hid hx
 have HLAB:=Lib.hid hlab
 have HWLN:Hid (L.ws.length=2*S.vars+2):=h.lenw.trans ok.wl
 have HROOM:=Lib.hid ok.room
 have HWAT:=Lib.hid (fun c hc=>h.wat_eq (c:=c) hc)
 clear hMV hmv hfk hrc hrow hlit h hx hlab
 go_enter Tryz.func198,Tryz.ntmps198
 go_wp2_with fail
 clear c0 c3 c4 x0
 go_loopg [6] l.length (fun g x6 wr=>∃k:Nat,k+g=l.length+2∧2≤k∧x6= .int .i64 k∧Hid (S.findK l g k=fk)∧Fr [] w wr)
 case atStart=>exact ⟨2,by omega,by omega,rfl,HFK.out,Fr.refl _ _⟩
 case round=>
  obtain ⟨k,hk,hk2,rfl,HF2,hf⟩:=hrel
  have HK:=Lib.hid hk
  have HF:=Lib.hid hf
  have hkl:k≤l.length+2:=by omega
  clear hk hf
  by_cases hlt:k<l.length
  ·obtain ⟨f,hf1⟩:∃f,gk=f+1:=⟨gk-1,by have :=HK.out;omega⟩
   obtain ⟨hy0,hy1,hy2⟩:=HLIT.out k hlt
   obtain ⟨gb,hA,hgl⟩:=HROW.out.pos hlt
   have cy:=HF.out.cellS ((hA▸HROW.out:Ints w (some ⟨gb,0,none⟩) c l).cell hlt)
   have c0:=HF.out.cellS HC0.out
   obtain ⟨y,hy⟩:∃y,l[k]! =y:=⟨_,rfl⟩
   rw [hy] at hy0 hy1 hy2 cy
   have HY:=Lib.hid hy
   have e0:=Ext.cell c0
   have ey:=Ext.cell cy
   obtain ⟨v,hv⟩:∃v,S.T.valF y=v:=⟨_,rfl⟩
   have HVY:=Lib.hid hv
   have KV:=Lib.hid (fun u:Ext wr=>HV.out ⟨u.v,HF.out.then_ u.fr⟩ y (by omega) (by omega))
   simp only [hv] at KV
   clear hy hv
   subst hA
   by_cases hv0:0≤v
   ·have hd:decide (0≤v)=true:=decide_eq_true hv0
    have HKK:Hid (fk=some k):=by
     have :=HF2.out
     rw [hf1,findK_yes hlt (by unfold Sv.val;rw [HY.out,HVY.out];exact hv0)] at this
     exact this.symm
    go_wp2_with fail
    refine wp_region_ext (by kernel_rfl) (by kernel_rfl) ?_
    repeat (go_big_quiet_step (exact call_same (KV.out _)))
    refine wpQuiet_nil ?_
    rintro w2 ⟨u2,hu2⟩
    have HF_w2:Hid (Fr [] wr w2):=hu2▸u2.fr
    clear hu2 u2
    clear e0 ey c0 cy
    have HFW:=Lib.hid (HF.out.then_ HF_w2.out)
    clear HF HF_w2 KV
    have cy:=HFW.out.cellS (HROW.out.cell hlt)
    have c1:=HFW.out.cellS (HROW.out.cell (i:=1) (by omega))
    rw [HY.out] at cy
    obtain ⟨z,hz⟩:∃z,l[1]! =z:=⟨_,rfl⟩
    rw [hz] at c1
    have HZ:=Lib.hid hz
    clear hz
    have f1:=(HROW.out.fr HFW.out (by simp)).frozen 1
    have fk':=(HROW.out.fr HFW.out (by simp)).frozen k
    go_upto_region 6 with fail
    go_region
    go_upto_region 7 with fail
    obtain ⟨W,hW⟩:∃W,((w2.setCell ⟨gb,1,none⟩ (.int .i64 y)).setCell ⟨gb,k,none⟩ (.int .i64 z)).drew=W:=⟨_,rfl⟩
    rw [hW]
    have hIW:Ints W (some ⟨gb,0,none⟩) c (swp2 l 1 k):=by
     have :=(((HROW.out.fr HFW.out (by simp)).set_ 1 y).set_ k z).drew
     rw [hW] at this
     unfold swp2
     rw [HY.out,HZ.out]
     exact this
    have hFW:Fr [gb] w2 W:=hW▸(((Fr.refl [gb] w2).setCell (.inl (by simp)) _).setCell (.inl (by simp)) _).drew
    have hlen:(swp2 l 1 k).length=l.length:=by simp [swp2]
    have h2:=HH.out.keep HFW.out
    obtain ⟨L1,h1,he1,hf1,hcs1,hws1,hwA1⟩:=h2.lits (n:=n) (by omega) (ls:=swp2 l 1 k) (F:=[gb]) (by rw [HX.out];exact hIW) (by rw [HX.out];exact hlen) hFW (fun j hj _=>by simp at hj;subst hj;exact HLAB.out _ (by simp [blks]))
    have hcy:lcode y<L1.ws.length:=by
     have :=code_lt (v:=S.vars) hy1 hy2
     rw [hws1,HWLN.out]
     exact this
    obtain ⟨cy',hcy'⟩:∃cy',lcode y=cy':=⟨_,rfl⟩
    have KC:=Lib.hid (fun W'=>code_calls W' y (by omega) (by omega))
    have HCY:=Lib.hid hcy'
    simp only [hcy'] at KC
    rw [hcy'] at hcy
    obtain ⟨gw,hgw,sw,fw⟩:=h1.whd hcy
    have hr9:=h1.ewh cy' hcy
    have hl9:=HROOM.out cy'
    have hw9:S.wat cy'=(L1.ws[cy']!).l:=by rw [hws1];exact HWAT.out cy' (by rw [←hws1];exact hcy)
    unfold Sv.wat at hw9
    rw [hw9] at hl9
    have hn9:∀j,j∈blks (L1.ws[cy']!).A→L1.lab j=(L1.id,9,cy'):=h1.t9 cy' hcy
    obtain ⟨⟨A9,c9,l9⟩,hx9⟩:∃x,L1.ws[cy']! =x:=⟨_,rfl⟩
    have HX9:=Lib.hid hx9
    rw [hx9] at sw hr9 hl9 hw9 hn9
    simp only at sw hr9 hl9 hw9 hn9
    have HW9:Hid (S.watch[cy']! =l9):=hw9
    obtain ⟨s0,-,-,-,s4,-⟩:=h1.cells
    rw [hgw,he1.1,hws1] at s4
    have HN0:Hid (L.a∉blks A9):=fun hm=>by
     have e1:=hn9 _ hm
     rw [←he1.1,h1.t0] at e1
     simp at e1
    have HN1:Hid (gb∉blks A9):=fun hm=>by
     have e1:=hn9 _ hm
     have e2:=h1.t8 n (by rw [hcs1];simp;omega) gb (by rw [hcs1,getB_set,if_pos ⟨rfl,by omega⟩,HX.out];simp [blks])
     rw [e2] at e1
     simp at e1
    have HN2:Hid (gw∉blks A9):=fun hm=>by
     have e1:=hn9 _ hm
     have e2:=h1.t4 gw (by rw [hgw];simp [blks])
     rw [e2] at e1
     simp at e1
    have s1:W.cell? ⟨gb,1,none⟩=some (.int .i64 y):=by
     rw [hIW.cell (i:=1) (by omega)]
     unfold swp2
     rw [HY.out,HZ.out]
     simp only [List.getElem!_eq_getElem?_getD]
     rw [List.getElem?_set_ne (by omega),List.getElem?_set_self (by omega)]
     rfl
    have HS4:=Lib.hid s4
    have HS1:=Lib.hid s1
    have HSW:=Lib.hid sw
    have HFW9:=Lib.hid fw
    have HR9:=Lib.hid hr9
    have HN9:=Lib.hid hn9
    have H1:=Lib.hid h1
    have HE1:=Lib.hid (SvL.ext_trans (SvL.ext_refl L w) (⟨he1.1,he1.2.1,fun j hj e=>he1.2.2 j (Nat.lt_of_lt_of_le hj HFW.out.size) e⟩:L.ext L1 w) (Nat.le_refl _))
    have HF1:=Lib.hid (SvL.own_then (SvL.ext_refl L w) (HFW.out.mono (fun j hj=>by cases hj)) hf1)
    have HCYL:Hid (cy'<L1.ws.length):=hcy
    have hcyi:cy'<L.ws.length:=by rw [←hws1];exact hcy
    have hl1:(1:Int)<l.length:=by omega
    have hll9:l9.length<17592186044416:=by omega
    have HLL9:=Lib.hid hll9
    have HFRW:Hid (Fr (blks A9) W W):=Fr.refl _ _
    have HGW:=Lib.hid hgw
    clear hgw hws1 hwA1 hcy
    clear hW hIW hFW hlen h2 he1 hf1 hcs1 hr9 hl9 hw9 hn9 hx9 s0 s4 s1 sw fw h1 cy c1 f1 fk' hcy' hll9
    refine wp_region_noPanic ?_
    refine wp_region_C (fun w':World=>Fr (blks A9) W w') 22 (by kernel_rfl) (HFRW.out.drew) (fun hT0=> ?_)
    apply TB 15 [(0,[]),(1,[]),(2,[]),(3,[3,22]),(4,[]),(5,[]),(6,[6,22]),(8,[]),(9,[]),(10,[]),(11,[11,22]),(12,[]),(13,[]),(14,[14,22]),(18,[])];kernel_rfl;rfl;· (repeat (apply TBc;rfl;rfl;(· intro w hSw;(try (have hSw:=hSw.resolve_left (List.cons_ne_nil _ _);(have s4:=hSw.cellN HN0.out HS4.out;have s1:=hSw.cellN HN1.out HS1.out;have sw:=hSw.cellN HN2.out HSW.out)));go_simp<;>with_reducible rfl);try simp only [Act.put,q5,q6,q7]));exact TBn
    exact hT0;intro hT0
    have hSx:=hT0.resolve_left (by decide)
    refine wpAnyC_ready (rs:=[7,19]) (by kernel_rfl) (by simp) ?_
    refine ReadyC.cons (o:= ?or7u16) ?hor7u16 ?hstepr7u16 ?_
    case hor7u16=>rfl
    case hstepr7u16=>
     intro K hK
     (go_simp;refine (KC.out _).mono ?_;rintro e w5 ⟨rfl,rfl⟩;dsimp only)
     refine hK.out _ _ (.inr ?_) (fun hT16=> ?_)
     ·first |exact hSx.then_ hfA |exact hSx.alloc _ |exact hSx
     clear hK K
     try simp only [Act.put,q5,q6,q7]
     have hSx:=hT16.resolve_left (by decide)
     refine wpAnyC_ready (rs:=[15,19]) (by kernel_rfl) (by simp) ?_
     refine ReadyC.cons (o:= ?or7u17) ?hor7u17 ?hstepr7u17 ?_
     case hor7u17=>rfl
     case hstepr7u17=>
      intro K hK
      (go_simp;refine (KC.out _).mono ?_;rintro e w5 ⟨rfl,rfl⟩;dsimp only)
      refine hK.out _ _ (.inr ?_) (fun hT17=> ?_)
      ·first |exact hSx.then_ hfA |exact hSx.alloc _ |exact hSx
      clear hK K
      try simp only [Act.put,q5,q6,q7]
      apply TB 2 [(16,[]),(17,[17,22])];kernel_rfl;rfl;· (repeat (apply TBc;rfl;rfl;(· intro w hSw;(try (have hSw:=hSw.resolve_left (List.cons_ne_nil _ _);(have s4:=hSw.cellN HN0.out HS4.out;have s1:=hSw.cellN HN1.out HS1.out;have sw:=hSw.cellN HN2.out HSW.out)));go_simp<;>with_reducible rfl);try simp only [Act.put,q5,q6,q7]));exact TBn
      exact hT17;intro hT17
      refine R2 19 (by kernel_rfl) (by rfl) hT17 fun K hK hSx=> ?_
      go_simp
      refine hK.out _ _ (.inr ?_) (fun hT20=> ?_)
      ·first |exact hSx.then_ hfA |exact hSx.alloc _ |exact hSx
      clear hK K
      try simp only [Act.put,q5,q6,q7]
      refine R2 20 (by kernel_rfl) (by rfl) hT20 fun K hK hSx=> ?_
      (refine step_append_int rfl _ _ rfl A9 c9 (casts l9) _ rfl (casts_len l9).symm ?hownr7u21 _ 1 n rfl ?hcellr7u21 (by rw [casts_len];exact HLL9.out) ?_;(case hownr7u21=>first |exact HR9.out.drew.alloc _ |exact HR9.out.alloc _ |exact HR9.out);(case hcellr7u21=>simp);intro gA cA wA hiA hfA hgA hsA)
      refine hK.out _ _ (.inr ?_) (fun hT21=> ?_)
      ·first |exact hSx.then_ hfA |exact hSx.alloc _ |exact hSx
      clear hK K
      try simp only [Act.put,q5,q6,q7]
      apply TB 1 [(21,[])];kernel_rfl;rfl;· (repeat (apply TBc;rfl;rfl;(· intro w hSw;go_simp<;>with_reducible rfl);try simp only [Act.put,q5,q6,q7]));exact TBn
      exact hT21;intro hT21
      refine R2 22 (by kernel_rfl) (by rfl) hT21 fun K hK hSx=> ?_
      (have sb:=hSx.cellN HN2.out HSW.out;have fb:World.frozen? _ _=_:=(World.frozen?_of_block (hSx.block gw (lt_of_cell HSW.out) HN2.out)).trans HFW9.out;go_simp)
      refine hK.out _ _ (.inl rfl) (fun hT23=> ?_)
      clear hK K
      try simp only [Act.put,q5,q6,q7]
      refine wpAnyC_done (by kernel_rfl) ?_ _
      refine NoPanic.normal ?_
      have hsz:W.heap.size≤wA.heap.size:=hSx.size
      have hiA2:Ints wA (some ⟨gA,0,none⟩) cA (casts (l9++[n])):=by rw [←casts_app];exact hiA
      obtain ⟨gw2,hg2,_,_,L2,h2,he2,hf2,_⟩:=H1.out.wset HCYL.out hiA2 hSx (fun j hj _=>HN9.out j hj) (fun j hj=>by
       simp [blks] at hj
       subst hj
       rcases hgA with h5 |h5
       ·exact .inl ⟨(HR9.out.lt _ h5),HN9.out _ h5⟩
       ·right
        rw [h5]
        first |exact Nat.le_refl _ | (simp))
      obtain rfl :gw=gw2:=by rw [HGW.out] at hg2;simpa using hg2
      simp only [List.length_append,List.length_singleton] at h2 hf2
      have HSW2:Hid ((S.lset n (swp2 l 1 k)).wset cy' (l9++[n])=(S.lset n (swp2 l 1 k)).wput (lcode l[k]!) n):=by
       rw [HY.out,HCY.out]
       unfold Sv.wput Sv.wat Hid
       show _=Sv.wset _ _ (S.watch[cy']! ++[n])
       rw [HW9.out]
      rw [HSW2.out] at h2
      have hsz2:w.heap.size≤W.heap.size:=HF1.out.size
      have FIN:=Lib.hid (YES.out k HKK.out _ L2 h2 (SvL.ext_trans HE1.out he2 hsz2) (SvL.own_then HE1.out HF1.out hf2))
      go_wp2_with fail
      go_ret
      exact FIN.out
     refine ReadyC.cons (o:= ?or7u24) ?hor7u24 ?hstepr7u24 ReadyC.nil
     case hor7u24=>rfl
     intro K hK
     go_simp
     refine hK.out _ _ (.inr ?_) (fun hT17=> ?_)
     ·first |exact hSx.then_ hfA |exact hSx.alloc _ |exact hSx
     clear hK K
     try simp only [Act.put,q5,q6,q7]
     refine R2 15 (by kernel_rfl) (by rfl) hT17 fun K hK hSx=> ?_
     (go_simp;refine (KC.out _).mono ?_;rintro e w5 ⟨rfl,rfl⟩;dsimp only)
     refine hK.out _ _ (.inr ?_) (fun hT18=> ?_)
     ·first |exact hSx.then_ hfA |exact hSx.alloc _ |exact hSx
     clear hK K
     try simp only [Act.put,q5,q6,q7]
     apply TB 2 [(16,[]),(17,[17,22])];kernel_rfl;rfl;· (repeat (apply TBc;rfl;rfl;(· intro w hSw;(try (have hSw:=hSw.resolve_left (List.cons_ne_nil _ _);(have s4:=hSw.cellN HN0.out HS4.out;have s1:=hSw.cellN HN1.out HS1.out;have sw:=hSw.cellN HN2.out HSW.out)));go_simp<;>with_reducible rfl);try simp only [Act.put,q5,q6,q7]));exact TBn
     exact hT18;intro hT18
     refine R2 20 (by kernel_rfl) (by rfl) hT18 fun K hK hSx=> ?_
     (refine step_append_int rfl _ _ rfl A9 c9 (casts l9) _ rfl (casts_len l9).symm ?hownr7u28 _ 1 n rfl ?hcellr7u28 (by rw [casts_len];exact HLL9.out) ?_;(case hownr7u28=>first |exact HR9.out.drew.alloc _ |exact HR9.out.alloc _ |exact HR9.out);(case hcellr7u28=>simp);intro gA cA wA hiA hfA hgA hsA)
     refine hK.out _ _ (.inr ?_) (fun hT21=> ?_)
     ·first |exact hSx.then_ hfA |exact hSx.alloc _ |exact hSx
     clear hK K
     try simp only [Act.put,q5,q6,q7]
     apply TB 1 [(21,[])];kernel_rfl;rfl;· (repeat (apply TBc;rfl;rfl;(· intro w hSw;go_simp<;>with_reducible rfl);try simp only [Act.put,q5,q6,q7]));exact TBn
     exact hT21;intro hT21
     refine R2 22 (by kernel_rfl) (by rfl) hT21 fun K hK hSx=> ?_
     (have sb:=hSx.cellN HN2.out HSW.out;have fb:World.frozen? _ _=_:=(World.frozen?_of_block (hSx.block gw (lt_of_cell HSW.out) HN2.out)).trans HFW9.out;go_simp)
     refine hK.out _ _ (.inl rfl) (fun hT23=> ?_)
     clear hK K
     try simp only [Act.put,q5,q6,q7]
     refine wpAnyC_done (by kernel_rfl) ?_ _
     refine NoPanic.normal ?_
     have hsz:W.heap.size≤wA.heap.size:=hSx.size
     have hiA2:Ints wA (some ⟨gA,0,none⟩) cA (casts (l9++[n])):=by rw [←casts_app];exact hiA
     obtain ⟨gw2,hg2,_,_,L2,h2,he2,hf2,_⟩:=H1.out.wset HCYL.out hiA2 hSx (fun j hj _=>HN9.out j hj) (fun j hj=>by
      simp [blks] at hj
      subst hj
      rcases hgA with h5 |h5
      ·exact .inl ⟨(HR9.out.lt _ h5),HN9.out _ h5⟩
      ·right
       rw [h5]
       first |exact Nat.le_refl _ | (simp))
     obtain rfl :gw=gw2:=by rw [HGW.out] at hg2;simpa using hg2
     simp only [List.length_append,List.length_singleton] at h2 hf2
     have HSW2:Hid ((S.lset n (swp2 l 1 k)).wset cy' (l9++[n])=(S.lset n (swp2 l 1 k)).wput (lcode l[k]!) n):=by
      rw [HY.out,HCY.out]
      unfold Sv.wput Sv.wat Hid
      show _=Sv.wset _ _ (S.watch[cy']! ++[n])
      rw [HW9.out]
     rw [HSW2.out] at h2
     have hsz2:w.heap.size≤W.heap.size:=HF1.out.size
     have FIN:=Lib.hid (YES.out k HKK.out _ L2 h2 (SvL.ext_trans HE1.out he2 hsz2) (SvL.own_then HE1.out HF1.out hf2))
     go_wp2_with fail
     go_ret
     exact FIN.out
    refine ReadyC.cons (o:= ?or7u31) ?hor7u31 ?hstepr7u31 ReadyC.nil
    case hor7u31=>rfl
    intro K hK
    go_simp
    refine hK.out _ _ (.inr ?_) (fun hT16=> ?_)
    ·first |exact hSx.then_ hfA |exact hSx.alloc _ |exact hSx
    clear hK K
    try simp only [Act.put,q5,q6,q7]
    refine R2 7 (by kernel_rfl) (by rfl) hT16 fun K hK hSx=> ?_
    (go_simp;refine (KC.out _).mono ?_;rintro e w5 ⟨rfl,rfl⟩;dsimp only)
    refine hK.out _ _ (.inr ?_) (fun hT17=> ?_)
    ·first |exact hSx.then_ hfA |exact hSx.alloc _ |exact hSx
    clear hK K
    try simp only [Act.put,q5,q6,q7]
    refine R2 15 (by kernel_rfl) (by rfl) hT17 fun K hK hSx=> ?_
    (go_simp;refine (KC.out _).mono ?_;rintro e w5 ⟨rfl,rfl⟩;dsimp only)
    refine hK.out _ _ (.inr ?_) (fun hT18=> ?_)
    ·first |exact hSx.then_ hfA |exact hSx.alloc _ |exact hSx
    clear hK K
    try simp only [Act.put,q5,q6,q7]
    apply TB 2 [(16,[]),(17,[17,22])];kernel_rfl;rfl;· (repeat (apply TBc;rfl;rfl;(· intro w hSw;(try (have hSw:=hSw.resolve_left (List.cons_ne_nil _ _);(have s4:=hSw.cellN HN0.out HS4.out;have s1:=hSw.cellN HN1.out HS1.out;have sw:=hSw.cellN HN2.out HSW.out)));go_simp<;>with_reducible rfl);try simp only [Act.put,q5,q6,q7]));exact TBn
    exact hT18;intro hT18
    refine R2 20 (by kernel_rfl) (by rfl) hT18 fun K hK hSx=> ?_
    (refine step_append_int rfl _ _ rfl A9 c9 (casts l9) _ rfl (casts_len l9).symm ?hownr7u36 _ 1 n rfl ?hcellr7u36 (by rw [casts_len];exact HLL9.out) ?_;(case hownr7u36=>first |exact HR9.out.drew.alloc _ |exact HR9.out.alloc _ |exact HR9.out);(case hcellr7u36=>simp);intro gA cA wA hiA hfA hgA hsA)
    refine hK.out _ _ (.inr ?_) (fun hT21=> ?_)
    ·first |exact hSx.then_ hfA |exact hSx.alloc _ |exact hSx
    clear hK K
    try simp only [Act.put,q5,q6,q7]
    apply TB 1 [(21,[])];kernel_rfl;rfl;· (repeat (apply TBc;rfl;rfl;(· intro w hSw;go_simp<;>with_reducible rfl);try simp only [Act.put,q5,q6,q7]));exact TBn
    exact hT21;intro hT21
    refine R2 22 (by kernel_rfl) (by rfl) hT21 fun K hK hSx=> ?_
    (have sb:=hSx.cellN HN2.out HSW.out;have fb:World.frozen? _ _=_:=(World.frozen?_of_block (hSx.block gw (lt_of_cell HSW.out) HN2.out)).trans HFW9.out;go_simp)
    refine hK.out _ _ (.inl rfl) (fun hT23=> ?_)
    clear hK K
    try simp only [Act.put,q5,q6,q7]
    refine wpAnyC_done (by kernel_rfl) ?_ _
    refine NoPanic.normal ?_
    have hsz:W.heap.size≤wA.heap.size:=hSx.size
    have hiA2:Ints wA (some ⟨gA,0,none⟩) cA (casts (l9++[n])):=by rw [←casts_app];exact hiA
    obtain ⟨gw2,hg2,_,_,L2,h2,he2,hf2,_⟩:=H1.out.wset HCYL.out hiA2 hSx (fun j hj _=>HN9.out j hj) (fun j hj=>by
     simp [blks] at hj
     subst hj
     rcases hgA with h5 |h5
     ·exact .inl ⟨(HR9.out.lt _ h5),HN9.out _ h5⟩
     ·right
      rw [h5]
      first |exact Nat.le_refl _ | (simp))
    obtain rfl :gw=gw2:=by rw [HGW.out] at hg2;simpa using hg2
    simp only [List.length_append,List.length_singleton] at h2 hf2
    have HSW2:Hid ((S.lset n (swp2 l 1 k)).wset cy' (l9++[n])=(S.lset n (swp2 l 1 k)).wput (lcode l[k]!) n):=by
     rw [HY.out,HCY.out]
     unfold Sv.wput Sv.wat Hid
     show _=Sv.wset _ _ (S.watch[cy']! ++[n])
     rw [HW9.out]
    rw [HSW2.out] at h2
    have hsz2:w.heap.size≤W.heap.size:=HF1.out.size
    have FIN:=Lib.hid (YES.out k HKK.out _ L2 h2 (SvL.ext_trans HE1.out he2 hsz2) (SvL.own_then HE1.out HF1.out hf2))
    go_wp2_with fail
    go_ret
    exact FIN.out
   ·have hd:decide (0≤v)=false:=decide_eq_false hv0
    have HKN:Hid (S.findK l f (k+1)=fk):=by
     have :=HF2.out
     rw [hf1,findK_go hlt (by unfold Sv.val;rw [HY.out,HVY.out];exact hv0)] at this
     exact this
    go_wp2_with fail
    refine wp_region_ext (by kernel_rfl) (by kernel_rfl) ?_
    repeat (go_big_quiet_step (exact call_same (KV.out _)))
    refine wpQuiet_nil ?_
    rintro w2 ⟨u2,hu2⟩
    have HF_w2:Hid (Fr [] wr w2):=hu2▸u2.fr
    clear hu2 u2
    clear e0 ey c0 cy
    go_wp2_with fail
    go_roundg f
    case measure=>omega
    case rel=>exact ⟨k+1,by have :=HK.out;omega,by omega,by go_num,HKN.out,HF.out.then_ HF_w2.out⟩
  ·have HKN:Hid (fk=none):=by
    have :=HF2.out
    rw [findK_stop (by omega)] at this
    exact this.symm
   go_wp2_with fail
   go_ret
   exact NO.out HKN.out _ HF.out
theorem swp2_len (l:List Int) (i j:Nat):(swp2 l i j).length=l.length:=by simp [swp2]
theorem get_mem {l:List Int} {i:Nat} (h:i<l.length):l[i]! ∈l:=by
 simp only [List.getElem!_eq_getElem?_getD,List.getElem?_eq_getElem h,Option.getD_some];exact List.getElem_mem h
theorem swp2_mem {l:List Int} {i j:Nat} (hi:i<l.length) (hj:j<l.length) {x:Int} (h:x∈swp2 l i j):x∈l:=by
 unfold swp2 at h
 rcases List.mem_or_eq_of_mem_set h with h |rfl
 ·rcases List.mem_or_eq_of_mem_set h with h |rfl
  ·exact h
  ·exact get_mem hj
 ·exact get_mem hi
theorem swp2_get {l:List Int} {i j k:Nat} (hi:i<l.length) (hj:j<l.length) (hk:k<l.length):(swp2 l i j)[k]! =if k=j then l[i]! else if k=i then l[j]! else l[k]! :=by
 unfold swp2
 rw [getB_set,getB_set]
 by_cases h1:k=j
 ·subst h1
  simp [hk]
 ·rw [if_neg (by omega),if_neg h1]
  by_cases h2:k=i
  ·subst h2
   simp [hk]
  ·rw [if_neg (by omega),if_neg h2]
namespace Sv
theorem rc_lset (S:Sv) (n j:Nat) (l:List Int):(S.lset n l).rc j=if n=j∧n<S.list.length then { S.rc n with lits:=l } else S.rc j:=by
 unfold rc lset
 exact getB_set _ _ _ _
theorem rc_out {S:Sv} {n:Nat} (h:S.list.length≤n):S.rc n=⟨[],false,0⟩:=by
 unfold rc
 simp only [List.getElem!_eq_getElem?_getD,List.getElem?_eq_none h]
 rfl
theorem Ok.lset {S:Sv} {m:Nat} (ok:S.Ok m) {n:Nat} {l:List Int} (hl:l.length=(S.rc n).lits.length) (hm:∀x∈l,x∈(S.rc n).lits):(S.lset n l).Ok m:=by
 refine ⟨ok.vl,ok.tr,ok.hi,ok.hl,ok.ph,ok.wl,by simpa [Sv.lset] using ok.ll,fun c k h=>by simpa [Sv.lset] using ok.wb c k h,by simpa [Sv.lset] using ok.wt,fun k x hx=> ?_,fun k=> ?_,fun k=> ?_,ok.hd,fun v=>by simpa [Sv.lset] using ok.rs v⟩
 ·rw [rc_lset] at hx
  split at hx
  ·exact ok.lr n x (hm x hx)
  ·exact ok.lr k x hx
 ·rw [rc_lset]
  split
  ·simp only [hl];exact ok.ln n
  ·exact ok.ln k
 ·rw [rc_lset]
  split
  ·simp only [hl];exact ok.lb n
  ·exact ok.lb k
theorem sum_set:∀(l:List Nat) (c x:Nat),c<l.length→(l.set c x).sum+l[c]! =l.sum+x
 |[],c,x,h=>by simp at h
 |y::r,0,x,h=>by simp;omega
 |y::r,c+1,x,h=>by
  have :=sum_set r c x (by simpa using h)
  simp only [List.set_cons_succ,List.sum_cons]
  have e:(y::r)[c+1]! =r[c]! :=by simp
  rw [e]
  omega
theorem wlens (S:Sv) (c:Nat) (l:List Nat) (hc:c<S.watch.length):((S.wset c l).watch.map List.length).sum+(S.wat c).length=(S.watch.map List.length).sum+l.length:=by
 have h:=sum_set (S.watch.map List.length) c l.length (by simpa using hc)
 have e:(S.watch.map List.length)[c]! =(S.wat c).length:=by
  unfold wat
  simp only [List.getElem!_eq_getElem?_getD,List.getElem?_map,List.getElem?_eq_getElem hc,Option.map_some,Option.getD_some]
 rw [e] at h
 simpa [wset,List.map_set] using h
theorem Ok.wset {S:Sv} {m m':Nat} (ok:S.Ok m) {c:Nat} {l:List Nat} (hc:c<S.watch.length) (hl:∀n∈l,n<S.list.length) (hm:l.length+m'≤(S.wat c).length+m):(S.wset c l).Ok m':=by
 have hw:=wlens S c l hc
 have ht:=ok.wt
 refine ⟨ok.vl,ok.tr,ok.hi,ok.hl,ok.ph,by simpa [Sv.wset] using ok.wl,ok.ll,fun k n h=> ?_,?_,ok.lr,ok.ln,ok.lb,ok.hd,ok.rs⟩
 ·unfold Sv.wset at h
  simp only at h
  rw [getB_set] at h
  split at h
  ·exact hl n h
  ·exact ok.wb k n h
 ·have :(S.wset c l).list=S.list:=rfl
  rw [this]
  omega
theorem Ok.wput {S:Sv} {m:Nat} (ok:S.Ok (m+1)) {c n:Nat} (hc:c<S.watch.length) (hn:n<S.list.length):(S.wput c n).Ok m:=by
 refine ok.wset hc (fun j hj=> ?_) (by simp;omega)
 rcases List.mem_append.1 hj with h |h
 ·exact ok.wb c j h
 ·simp at h;omega
theorem Ok.less {S:Sv} {m m':Nat} (ok:S.Ok m) (h:m'≤m):S.Ok m':=⟨ok.vl,ok.tr,ok.hi,ok.hl,ok.ph,ok.wl,ok.ll,ok.wb,by have :=ok.wt;omega,ok.lr,ok.ln,ok.lb,ok.hd,ok.rs⟩
theorem Ok.turned {S:Sv} {m:Nat} (ok:S.Ok m) (n:Nat) (off:Int):(S.turned n off).Ok m:=by
 unfold Sv.turned
 split
 ·by_cases h:(S.rc n).lits.length=0
  ·refine ok.lset (swp2_len _ _ _) (fun x hx=> ?_)
   have :(swp2 (S.rc n).lits 0 1)=[]:=List.eq_nil_of_length_eq_zero (by rw [swp2_len];exact h)
   rw [this] at hx
   cases hx
  ·have :=ok.ln n
   exact ok.lset (swp2_len _ _ _) (fun x hx=>swp2_mem (by omega) (by omega) hx)
 ·exact ok
theorem findK_lt {S:Sv} {l:List Int}:∀(f k j:Nat),S.findK l f k=some j→k≤j∧j<l.length∧0≤S.val l[j]!
 |0,k,j,h=>by simp [findK] at h
 |f+1,k,j,h=>by
  simp only [findK] at h
  split at h
  ·split at h
   ·rename_i h1 h2
    simp only [Option.some.injEq] at h
    subst h
    exact ⟨Nat.le_refl _,h1,h2⟩
   ·have :=findK_lt f (k+1) j h
    exact ⟨by omega,this.2⟩
  ·cases h
theorem Ok.moved {S:Sv} {m:Nat} (ok:S.Ok (m+1)) {n:Nat} (hn:n<S.list.length) (h:(S.movedF n).2=true):(S.movedF n).1.Ok m:=by
 unfold Sv.movedF at h⊢
 cases hk:S.findK (S.rc n).lits (S.rc n).lits.length 2 with
 |none=>rw [hk] at h;cases h
 |some k=>
  obtain ⟨h1,h2,_⟩:=findK_lt _ _ _ hk
  simp only [Sv.movedTo]
  have o1:=ok.lset (n:=n) (l:=swp2 (S.rc n).lits 1 k) (swp2_len _ _ _) (fun x hx=>swp2_mem (by omega) h2 hx)
  have hl:=ok.lit h2
  have :=code_lt hl.2.1 hl.2.2
  refine o1.wput (by simp only [Sv.lset];rw [ok.wl];exact this) (by simpa [Sv.lset] using hn)
theorem moved_same (S:Sv) (n:Nat):(S.movedF n).1.T=S.T∧(S.movedF n).1.vars=S.vars∧(S.movedF n).1.list.length=S.list.length∧(S.movedF n).1.head=S.head∧(S.movedF n).1.H=S.H∧(S.movedF n).1.watch.length=S.watch.length:=by
 unfold movedF
 cases S.findK (S.rc n).lits (S.rc n).lits.length 2<;>simp [movedTo,wput,wset,lset]
theorem turned_same (S:Sv) (n:Nat) (off:Int):(S.turned n off).T=S.T∧(S.turned n off).vars=S.vars∧(S.turned n off).list.length=S.list.length∧(S.turned n off).head=S.head∧(S.turned n off).H=S.H∧(S.turned n off).watch=S.watch:=by
 unfold turned
 split<;>simp [lset]
theorem Ok.put {S:Sv} {m:Nat} (ok:S.Ok m) {x r:Int} (hr:0≤r∧r≤S.list.length):(S.put x r).Ok m:=by
 by_cases hb:S.T.putB x=true
 ·have e:S.put x r={ S with T:=S.T.putF x r }:=by unfold Sv.put;rw [if_pos hb]
  rw [e]
  obtain ⟨R,hR⟩:=ok.tr
  have h2:=hR.put x r hb
  refine ⟨ok.vl,⟨_,h2⟩,ok.hi,ok.hl,ok.ph,ok.wl,ok.ll,ok.wb,ok.wt,ok.lr,ok.ln,ok.lb,?_,fun v=> ?_⟩
  ·have :=ok.hd
   simp only [Tr.putF,List.length_append,List.length_singleton]
   omega
  ·have h3:=h2.reaB v
   have h4:=hR.reaB v
   have h5:=ok.rs v
   simp only
   rw [h3,look_app]
   cases hlk:look R v with
   |none=>
    split
    ·rename_i e
     split at e
     ·simp at e
     ·omega
    ·rename_i e2 e
     split at e
     ·simp only [Option.none_or,Option.some.injEq] at e
      rw [←e]
      exact hr
     ·cases e
   |some e0=>
    rw [hlk] at h4
    simp only at h4
    split
    ·omega
    ·rename_i e2 e
     have :e2=e0:=by
      split at e
      ·simpa using e.symm
      ·simpa using e.symm
     rw [this,←h4]
     exact h5
 ·have e:S.put x r=S:=by unfold Sv.put;rw [if_neg hb]
  rw [e]
  exact ok
theorem Ok.visit {S:Sv} {m:Nat} (ok:S.Ok (m+1)) {n:Nat} (hn:n<S.list.length) (off:Int):
  (S.visitF n off).1.Ok (if (S.visitF n off).2.1=true then m+1 else m)∧(S.visitF n off).1.vars=S.vars∧(S.visitF n off).1.list.length=S.list.length∧(S.visitF n off).1.head=S.head∧(S.visitF n off).1.watch.length=S.watch.length:=by
 unfold Sv.visitF
 split
 ·exact ⟨ok.less (by simp),rfl,rfl,rfl,rfl⟩
 ·have o1:=ok.turned n off
  obtain ⟨q1,q2,q3,q4,q5,q6⟩:=turned_same S n off
  generalize S.turned n off=S1 at *
  unfold Sv.visitT
  simp only
  split
  ·exact ⟨o1,q2,q3,q4,by rw [q6]⟩
  ·split
   ·rename_i h
    obtain ⟨p1,p2,p3,p4,p5,p6⟩:=moved_same S1 n
    exact ⟨o1.moved (by omega) h,by rw [p2,q2],by rw [p3,q3],by rw [p4,q4],by rw [p6,q6]⟩
   ·split
    ·exact ⟨o1,q2,q3,q4,by rw [q6]⟩
    ·exact ⟨o1.put ⟨by omega,by omega⟩,q2,q3,q4,by show S1.watch.length=_;rw [q6]⟩
end Sv
theorem SvAt.swap {w:World} {L:SvL} {S:Sv} (h:SvAt w L S) {n i j:Nat} (hn:n<L.cs.length) (hi:i<(L.cs[n]!).lits.length) (hj:j<(L.cs[n]!).lits.length) {g:Nat} (hg:(L.cs[n]!).A=some ⟨g,0,none⟩):
  ∃L',SvAt ((w.setCell ⟨g,i,none⟩ (.int .i64 ((L.cs[n]!).lits[j]!))).setCell ⟨g,j,none⟩ (.int .i64 ((L.cs[n]!).lits[i]!))).drew L' (S.lset n (swp2 (L.cs[n]!).lits i j))∧L.ext L' w∧
   Fr (L.own w) w ((w.setCell ⟨g,i,none⟩ (.int .i64 ((L.cs[n]!).lits[j]!))).setCell ⟨g,j,none⟩ (.int .i64 ((L.cs[n]!).lits[i]!))).drew∧L'.cs=L.cs.set n { L.cs[n]! with lits:=swp2 (L.cs[n]!).lits i j }∧L'.tL=L.tL:=by
 have hr:=h.ech n hn
 have hr':=hr
 rw [hg] at hr'
 have hI:=((hr'.set_ i ((L.cs[n]!).lits[j]!)).set_ j ((L.cs[n]!).lits[i]!)).drew
 have hf:Fr [g] w ((w.setCell ⟨g,i,none⟩ (.int .i64 ((L.cs[n]!).lits[j]!))).setCell ⟨g,j,none⟩ (.int .i64 ((L.cs[n]!).lits[i]!))).drew:=(((Fr.refl [g] w).setCell (.inl (by simp)) _).setCell (.inl (by simp)) _).drew
 obtain ⟨L',h1,h2,h3,h4,h5,h6,h7⟩:=h.lits' hn (ls:=swp2 (L.cs[n]!).lits i j) (F:=[g]) (by rw [hg];exact hI) (swp2_len _ _ _) hf (fun k hk _=>by
  simp at hk
  subst hk
  exact h.t8 n hn k (by rw [hg];simp [blks]))
 exact ⟨L',h1,h2,h3,h4,h7⟩
set_option maxRecDepth 100000 in
set_option maxHeartbeats 8000000 in
theorem visit_calls (w:World) (L:SvL) (S:Sv) (h:SvAt w L S) (m:Nat) (ok:S.Ok (m+1)) (n:Nat) (hn:n<S.list.length) (off:Int):
  Calls Tryz.prog 167 #[.pointer (some ⟨L.a,0,none⟩), .int .i64 n, .int .i64 off] w (SvP (.tuple #[.bool (S.visitF n off).2.1, .bool (S.visitF n off).2.2]) (S.visitF n off).1 L w):=by
 have hnc:n<L.cs.length:=by rw [h.lenc];exact hn
 have hrc:=h.rc_eq hnc
 obtain ⟨gc,hgc,x0,-,-⟩:=h.rcell hnc
 have hrow:=h.ech n hnc
 have hln:=ok.ln n
 have hlb:=ok.lb n
 have hlit:=fun k hk=>ok.lit (n:=n) (k:=k) hk
 rw [hrc] at hln hlb hlit
 simp only [Cw.rc] at hln hlb hlit
 have HSW:=Lib.hid (fun i j g h1 h2 h3=>h.swap (i:=i) (j:=j) (g:=g) hnc h1 h2 h3)
 obtain ⟨⟨A,c,l,b,ac⟩,hx⟩:∃x,L.cs[n]! =x:=⟨_,rfl⟩
 rw [hx] at hrc x0 hrow hln hlb hlit HSW
 simp only [Cw.rc] at hrc x0 hrow hln hlb hlit HSW
 have HROW:=Lib.hid hrow
 have HH:=Lib.hid h
 have HOK:=Lib.hid ok
 have HVL:=ok.vl
 have hll:=ok.ll
 obtain ⟨c0,-,-,c3,-⟩:=h.cells
 rw [hgc] at c3
 have HC0:=Lib.hid c0
 have HRC:=Lib.hid (show (S.rc n).lits=l by rw [hrc])
 obtain ⟨VF,hVF⟩:∃VF,S.visitF n off=VF:=⟨_,rfl⟩
 have HVF:=Lib.hid hVF
 rw [hVF]
 have FIN:Hid (∀(S':Sv) (r1 r2:Bool),VF=(S',r1,r2)→∀W L',SvAt W L' S'→L.ext L' w→Fr (L.own w) w W→SvP (.tuple #[.bool VF.2.1, .bool VF.2.2]) VF.1 L w (.returned (.tuple #[.bool r1, .bool r2])) W):=fun S' r1 r2 e W L' g1 g2 g3=>by
  subst e
  exact ⟨rfl,L',g1,g2,g3⟩
 have HNR:=Lib.hid hn
 have hlenc:=h.lenc
 have hlenl:Hid (L.cs.length=S.list.length):=hlenc
 clear hVF hrc hrow h hx
 by_cases hl0:l.length=0
 ·have HV0:Hid (VF=(S,false,true)):=(by rw [←HVF.out];unfold Sv.visitF;rw [if_pos (by rw [HRC.out];exact hl0)]:VF=(S,false,true))
  have F0:=Lib.hid (fun W hW=>FIN.out S false true HV0.out W L (HH.out.keep hW) (SvL.ext_refl _ _) (hW.mono (fun k hk=>by cases hk)))
  have hd:((l.length:Int)==0)=true:=by simp [hl0]
  clear HVF HV0 FIN HSW
  go_enter Tryz.func167,Tryz.ntmps167
  go_wp2_with fail
  go_ret2
  exact F0.out _ (Fr.refl _ _)
 ·have hl2:2≤l.length:=by omega
  have hl00:0<l.length:=by omega
  have hl01:1<l.length:=by omega
  have hd:((l.length:Int)==0)=false:=by rw [beq_eq_false_iff_ne];omega
  have HVT:Hid (VF=(S.turned n off).visitT n):=(by rw [←HVF.out];unfold Sv.visitF;rw [if_neg (by rw [HRC.out];exact hl0)]:VF=(S.turned n off).visitT n)
  obtain ⟨gb,hA,hgl⟩:=HROW.out.pos (i:=0) (by omega)
  subst hA
  have cy0:=HROW.out.cell (i:=0) (by omega)
  have cy1:=HROW.out.cell (i:=1) (by omega)
  have fr0:=HROW.out.frozen 0
  have fr1:=HROW.out.frozen 1
  have HLIT:=Lib.hid hlit
  clear hlit HVF
  by_cases hoff:l[0]! =off
  ·have HT:Hid (S.turned n off=S.lset n (swp2 l 0 1)):=(by unfold Sv.turned;rw [HRC.out,if_pos hoff]:S.turned n off=S.lset n (swp2 l 0 1))
   have hto:=HOK.out.turned n off
   have hts:=Sv.turned_same S n off
   rw [HT.out] at hto hts HVT
   have hrc1:((S.lset n (swp2 l 0 1)).rc n).lits=swp2 l 0 1:=by rw [Sv.rc_lset,if_pos ⟨rfl,HNR.out⟩]
   have hx0:(swp2 l 0 1)[0]! =l[1]! :=by rw [swp2_get (by omega) (by omega) (by omega)];simp
   obtain ⟨y0,hy0⟩:∃y,l[0]! =y:=⟨_,rfl⟩
   obtain ⟨y1,hy1⟩:∃y,l[1]! =y:=⟨_,rfl⟩
   have hyr:=HLIT.out 1 (by omega)
   obtain ⟨L1,g1,g2,g3,g4,g5⟩:=HSW.out 0 1 gb (by omega) (by omega) rfl
   have hI1:=((HROW.out.set_ 0 l[1]!).set_ 1 l[0]!).drew.cell (i:=0) (by simp;omega)
   rw [hy1] at hx0 hyr
   rw [hy0,hy1] at g1 g3 hI1
   rw [hy0] at cy0 hoff
   rw [hy1] at cy1
   have hI1:((w.setCell ⟨gb,0,none⟩ (.int .i64 y1)).setCell ⟨gb,1,none⟩ (.int .i64 y0)).drew.cell? ⟨gb,0,none⟩=some (.int .i64 y1):=by
    rw [hI1]
    simp only [List.getElem!_eq_getElem?_getD]
    rw [List.getElem?_set_ne (by omega),List.getElem?_set_self (by omega)]
    rfl
   have hb:(y0==off)=true:=by simp [hoff]
   have G1:=Lib.hid g1
   have G2:=Lib.hid g2
   have G3:=Lib.hid g3
   have HI1:=Lib.hid hI1
   have HTO:=Lib.hid hto
   have HTS:=Lib.hid hts
   have HRC1:=Lib.hid hrc1
   have HX0:=Lib.hid hx0
   clear g1 g2 g3 g4 g5 hI1 hto hts hrc1 hx0 hoff hy0 hy1 HT
   go_enter Tryz.func167,Tryz.ntmps167
   go_upto_region 5 with fail
   go_region
   go_upto_region 6 with fail
   obtain ⟨W1,hW1⟩:∃W,((w.setCell ⟨gb,0,none⟩ (.int .i64 y1)).setCell ⟨gb,1,none⟩ (.int .i64 y0)).drew=W:=⟨_,rfl⟩
   rw [hW1] at G1 G3 HI1⊢
   obtain ⟨S1,hS1⟩:∃S1,S.lset n (swp2 l 0 1)=S1:=⟨_,rfl⟩
   rw [hS1] at G1 HVT HTO HTS HRC1
   rw [←HRC1.out] at HX0
   clear hW1 hS1 HRC1 c0 c3 x0 cy0 cy1 fr0 fr1 HSW HROW hb hd HH
   have hT:=HTS.out.1
   have hn1:n<S1.list.length:=by rw [HTS.out.2.2.1];exact HNR.out
   have HN1:=Lib.hid hn1
   have c0:=G1.out.cells.1
   rw [G2.out.1] at c0
   have HC0':=Lib.hid c0
   have HSML:=Lib.hid HTO.out.small
   have HVT2:=Lib.hid (fun u:Ext W1=>trail_value u.v L1.tL S1.T (G1.out.tr.fr u.fr (by simp)) y1 (by omega) (by omega) HSML.out)
   obtain ⟨v,hv⟩:∃v,S1.T.valF y1=v:=⟨_,rfl⟩
   have HVV:=Lib.hid hv
   simp only [hv] at HVT2
   have e0:=Ext.cell c0
   have ey:=Ext.cell HI1.out
   clear hv hT hn1
   by_cases hp:0<v
   ·have hd:decide (0<v)=true:=decide_eq_true hp
    have hS5:Hid (VF=(S1,true,true)):=(by
     rw [HVT.out]
     unfold Sv.visitT
     simp only [HX0.out]
     rw [if_pos (by unfold Sv.val;rw [HVV.out];omega)]:VF=(S1,true,true))
    refine wp_region_ext (by kernel_rfl) (by kernel_rfl) ?_
    repeat (go_big_quiet_step (exact call_same (HVT2.out _)))
    refine wpQuiet_nil ?_
    rintro w2 ⟨u2,hu2⟩
    have HF_w2:Hid (Fr [] W1 w2):=hu2▸u2.fr
    clear hu2 u2
    have FF:=Lib.hid (FIN.out _ true true hS5.out w2 L1 (G1.out.keep HF_w2.out) G2.out (G3.out.then_ (HF_w2.out.mono (fun k hk=>by cases hk))))
    clear e0 ey c0
    go_wp2_with fail
    go_ret2
    exact FF.out
   ·have hd:decide (0<v)=false:=decide_eq_false hp
    refine wp_region_ext (by kernel_rfl) (by kernel_rfl) ?_
    repeat (go_big_quiet_step (exact call_same (HVT2.out _)))
    refine wpQuiet_nil ?_
    rintro w2 ⟨u2,hu2⟩
    have HF_w2:Hid (Fr [] W1 w2):=hu2▸u2.fr
    clear hu2 u2
    clear e0 ey c0
    have G12:=Lib.hid (G1.out.keep HF_w2.out)
    have HMV:=moved_calls w2 L1 S1 G12.out (m+1) HTO.out n HN1.out
    rw [G2.out.1] at HMV
    have HMV:=Lib.hid HMV
    go_wp2_with fail
    refine HMV.out.mono ?_
    clear HMV
    rintro e w3 hc3
    rcases hc3 with ⟨rfl,hq,hf3⟩ |⟨rfl,hq,L2,h2,he2,hf2⟩
    ·have HMF:=Lib.hid hq
     have HF3:=Lib.hid (HF_w2.out.then_ hf3)
     have G13:=Lib.hid (G12.out.keep hf3)
     clear hq hf3 G12
     have c0:=HF3.out.cellS HC0'.out
     have cy:=HF3.out.cellS HI1.out
     have e0:=Ext.cell c0
     have ey:=Ext.cell cy
     have HVT3:=Lib.hid (fun u:Ext w3=>trail_value u.v L1.tL S1.T (G13.out.tr.fr u.fr (by simp)) y1 (by omega) (by omega) HSML.out)
     simp only [HVV.out] at HVT3
     by_cases hng:v<0
     ·have hd2:decide (v<0)=true:=decide_eq_true hng
      have hS5:Hid (VF=(S1,true,false)):=(by
       rw [HVT.out]
       unfold Sv.visitT
       simp only [HX0.out]
       rw [if_neg (by unfold Sv.val;rw [HVV.out];omega),if_neg (by rw [HMF.out];simp),if_pos (by unfold Sv.val;rw [HVV.out];omega)]:VF=(S1,true,false))
      go_upto_region 10 with fail
      refine wp_region_ext (by kernel_rfl) (by kernel_rfl) ?_
      repeat (go_big_quiet_step (exact call_same (HVT3.out _)))
      refine wpQuiet_nil ?_
      rintro w4 ⟨u2,hu2⟩
      have HF_w4:Hid (Fr [] w3 w4):=hu2▸u2.fr
      clear hu2 u2
      have HF4:=Lib.hid (HF3.out.then_ HF_w4.out)
      have FF:=Lib.hid (FIN.out _ true false hS5.out w4 L1 (G13.out.keep HF_w4.out) G2.out (G3.out.then_ (HF4.out.mono (fun k hk=>by cases hk))))
      clear e0 ey c0 cy
      go_wp2_with fail
      go_ret2
      exact FF.out
     ·have hd2:decide (v<0)=false:=decide_eq_false hng
      go_upto_region 10 with fail
      refine wp_region_ext (by kernel_rfl) (by kernel_rfl) ?_
      repeat (go_big_quiet_step (exact call_same (HVT3.out _)))
      refine wpQuiet_nil ?_
      rintro w4 ⟨u2,hu2⟩
      have HF_w4:Hid (Fr [] w3 w4):=hu2▸u2.fr
      clear hu2 u2
      have HF4:=Lib.hid (HF3.out.then_ HF_w4.out)
      have G4:=Lib.hid (G13.out.keep HF_w4.out)
      have HC4:=Lib.hid (HF4.out.cellS HC0'.out)
      have HI4:=Lib.hid (HF4.out.cellS HI1.out)
      have HTL:Hid (S1.T.lits.length<17592186044416):=by
       obtain ⟨R,hR⟩:=HTO.out.tr
       have h1:=hR.len_le
       have h2:S1.T.lits.length=R.length:=by rw [hR.lits,List.length_map]
       have h3:=HTO.out.vl
       show _<_
       omega
      have HPUT:=Lib.hid (fun W (hW:Fr [] w4 W)=>trail_put W L1.tL S1.T (G4.out.tr.fr hW (by simp)) y1 ((n:Int)+1) (by omega) (by omega) HTL.out)
      have hn4:n<2199023255552:=by have :=HNR.out;omega
      have hw1:IntKind.i64.wrap ((n:Int)+1)=(n:Int)+1:=IntWalk.i64_in _ (by omega)
      clear e0 ey c0 cy
      go_upto_region 12 with fail
      refine wp_region_noPanic ?_
      refine wp_region_C (fun w':World=>Fr [] w4 w') 9 (by kernel_rfl) ((Fr.refl [] w4).drew) (fun hT0=> ?_)
      apply TB 9 [(0,[]),(1,[]),(2,[]),(3,[3,9]),(4,[]),(5,[]),(6,[6,9]),(7,[]),(8,[])];kernel_rfl;rfl;· (repeat (apply TBc;rfl;rfl;(· intro w hSw;(try (have hSw:=hSw.resolve_left (List.cons_ne_nil _ _);(have s0:=hSw.cellS HC4.out;have s1:=hSw.cellS HI4.out)));go_simp<;>with_reducible rfl);try simp only [Act.put,q5,q6,q7]));exact TBn
      exact hT0;intro hT0
      refine R2 9 (by kernel_rfl) (by rfl) hT0 fun K hK hSx=> ?_
      (go_simp;refine (HPUT.out _ hSx).mono ?_;rintro e w5 ⟨rfl,tL2,ht2,hte2,htf2⟩;dsimp only)
      refine hK.out _ _ (.inl rfl) (fun hT10=> ?_)
      clear hK K
      try simp only [Act.put,q5,q6,q7]
      refine wpAnyC_done (by kernel_rfl) ?_ _
      refine NoPanic.normal ?_
      have g4:=G4.out.keep hSx
      obtain ⟨L5,h5,he5,hf5⟩:=g4.trail ht2 hte2 htf2
      have hS5:Hid (VF=(S1.put y1 (n+1),true,true)):=(by
       rw [HVT.out]
       unfold Sv.visitT
       simp only [HX0.out]
       rw [if_neg (by unfold Sv.val;rw [HVV.out];omega),if_neg (by rw [HMF.out];simp),if_neg (by unfold Sv.val;rw [HVV.out];omega)]:VF=(S1.put y1 (n+1),true,true))
      have hz:w.heap.size≤w4.heap.size:=Nat.le_trans G3.out.size HF4.out.size
      have hE:L.ext L5 w:=by
       refine ⟨he5.1.trans G2.out.1,he5.2.1.trans G2.out.2.1,fun k hk e=>G2.out.2.2 k hk ?_⟩
       have :=he5.2.2 k (Nat.lt_of_lt_of_le hk (Nat.le_trans hz hSx.size)) (e.trans G2.out.2.1.symm)
       exact this.trans G2.out.2.1
      have hF:Fr (L.own w) w w5:=SvL.own_then G2.out G3.out (((HF4.out.then_ hSx).mono (fun k hk=>by cases hk)).trans hf5 (fun k hk=>by
       rw [SvL.mem_own] at hk
       rcases Nat.lt_or_ge k W1.heap.size with hl |hl
       ·exact .inl (SvL.mem_own.2 ⟨hl,hk.2⟩)
       ·exact .inr hl))
      have FF:=Lib.hid (FIN.out _ true true hS5.out w5 L5 h5 hE hF)
      go_wp2_with fail
      go_ret2
      exact FF.out
    ·have hS5:Hid (VF=((S1.movedF n).1,false,true)):=(by
      rw [HVT.out]
      unfold Sv.visitT
      simp only [HX0.out]
      rw [if_neg (by unfold Sv.val;rw [HVV.out];omega),if_pos hq]:VF=((S1.movedF n).1,false,true))
     have hz:w.heap.size≤w2.heap.size:=Nat.le_trans G3.out.size HF_w2.out.size
     have hE:L.ext L2 w:=by
      refine ⟨he2.1.trans G2.out.1,he2.2.1.trans G2.out.2.1,fun k hk e=>G2.out.2.2 k hk ?_⟩
      have :=he2.2.2 k (Nat.lt_of_lt_of_le hk hz) (e.trans G2.out.2.1.symm)
      exact this.trans G2.out.2.1
     have hF:Fr (L.own w) w w3:=SvL.own_then G2.out G3.out ((HF_w2.out.mono (fun k hk=>by cases hk)).trans hf2 (fun k hk=>by
      rw [SvL.mem_own] at hk
      rcases Nat.lt_or_ge k W1.heap.size with hl |hl
      ·exact .inl (SvL.mem_own.2 ⟨hl,hk.2⟩)
      ·exact .inr hl))
     have FF:=Lib.hid (FIN.out _ false true hS5.out w3 L2 h2 hE hF)
     clear hq h2 he2 hf2
     go_wp2_with fail
     go_ret2
     exact FF.out
  ·have HT:Hid (S.turned n off=S):=(by unfold Sv.turned;rw [HRC.out,if_neg hoff]:S.turned n off=S)
   rw [HT.out] at HVT
   obtain ⟨y1,hy1⟩:∃y,l[0]! =y:=⟨_,rfl⟩
   have hyr:=HLIT.out 0 (by omega)
   rw [hy1] at hyr cy0 hoff
   have hb:(y1==off)=false:=by simp [hoff]
   have HI1:=Lib.hid cy0
   have HX0:Hid ((S.rc n).lits[0]! =y1):=(by rw [HRC.out];exact hy1:(S.rc n).lits[0]! =y1)
   have G1:=HH
   have G2:=Lib.hid (SvL.ext_refl L w)
   have G3:Hid (Fr (L.own w) w w):=Fr.refl _ _
   have HTO:=HOK
   have HTS:Hid (S.T=S.T∧S.vars=S.vars∧S.list.length=S.list.length∧S.head=S.head∧S.H=S.H∧S.watch=S.watch):=⟨rfl,rfl,rfl,rfl,rfl,rfl⟩
   obtain ⟨L1,hL1⟩:∃L1,L1=L:=⟨_,rfl⟩
   have G1:Hid (SvAt w L1 S):=by rw [hL1];exact HH.out
   have G2:Hid (L.ext L1 w):=by rw [hL1];exact SvL.ext_refl L w
   obtain ⟨W1,hW1⟩:∃W1,W1=w:=⟨_,rfl⟩
   obtain ⟨S1,hS1⟩:∃S1,S1=S:=⟨_,rfl⟩
   clear hoff hy1 HT HSW HROW HLIT
   go_enter Tryz.func167,Tryz.ntmps167
   go_upto_region 6 with fail
   rw [←hS1] at HTO
   have HTS:Hid (S1.T=S.T∧S1.vars=S.vars∧S1.list.length=S.list.length∧S1.head=S.head∧S1.H=S.H∧S1.watch=S.watch):=by rw [hS1];exact ⟨rfl,rfl,rfl,rfl,rfl,rfl⟩
   have G1:Hid (SvAt W1 L1 S1):=by rw [hW1,hS1];exact G1.out
   have G3:Hid (Fr (L.own w) w W1):=by rw [hW1];exact G3.out
   have HI1:Hid (W1.cell? ⟨gb,0,none⟩=some (.int .i64 y1)):=by rw [hW1];exact HI1.out
   have HX0:Hid ((S1.rc n).lits[0]! =y1):=by rw [hS1];exact HX0.out
   have HVT:Hid (VF=S1.visitT n):=by rw [hS1];exact HVT.out
   rw [show Code.wp _ _ _ _ w=Code.wp _ _ _ _ W1 from by rw [hW1]]
   clear hW1 hS1 hL1 c0 c3 x0 cy0 cy1 fr0 fr1 hb hd HH
   have hT:=HTS.out.1
   have hn1:n<S1.list.length:=by rw [HTS.out.2.2.1];exact HNR.out
   have HN1:=Lib.hid hn1
   have c0:=G1.out.cells.1
   rw [G2.out.1] at c0
   have HC0':=Lib.hid c0
   have HSML:=Lib.hid HTO.out.small
   have HVT2:=Lib.hid (fun u:Ext W1=>trail_value u.v L1.tL S1.T (G1.out.tr.fr u.fr (by simp)) y1 (by omega) (by omega) HSML.out)
   obtain ⟨v,hv⟩:∃v,S1.T.valF y1=v:=⟨_,rfl⟩
   have HVV:=Lib.hid hv
   simp only [hv] at HVT2
   have e0:=Ext.cell c0
   have ey:=Ext.cell HI1.out
   clear hv hT hn1
   by_cases hp:0<v
   ·have hd:decide (0<v)=true:=decide_eq_true hp
    have hS5:Hid (VF=(S1,true,true)):=(by
     rw [HVT.out]
     unfold Sv.visitT
     simp only [HX0.out]
     rw [if_pos (by unfold Sv.val;rw [HVV.out];omega)]:VF=(S1,true,true))
    refine wp_region_ext (by kernel_rfl) (by kernel_rfl) ?_
    repeat (go_big_quiet_step (exact call_same (HVT2.out _)))
    refine wpQuiet_nil ?_
    rintro w2 ⟨u2,hu2⟩
    have HF_w2:Hid (Fr [] W1 w2):=hu2▸u2.fr
    clear hu2 u2
    have FF:=Lib.hid (FIN.out _ true true hS5.out w2 L1 (G1.out.keep HF_w2.out) G2.out (G3.out.then_ (HF_w2.out.mono (fun k hk=>by cases hk))))
    clear e0 ey c0
    go_wp2_with fail
    go_ret2
    exact FF.out
   ·have hd:decide (0<v)=false:=decide_eq_false hp
    refine wp_region_ext (by kernel_rfl) (by kernel_rfl) ?_
    repeat (go_big_quiet_step (exact call_same (HVT2.out _)))
    refine wpQuiet_nil ?_
    rintro w2 ⟨u2,hu2⟩
    have HF_w2:Hid (Fr [] W1 w2):=hu2▸u2.fr
    clear hu2 u2
    clear e0 ey c0
    have G12:=Lib.hid (G1.out.keep HF_w2.out)
    have HMV:=moved_calls w2 L1 S1 G12.out (m+1) HTO.out n HN1.out
    rw [G2.out.1] at HMV
    have HMV:=Lib.hid HMV
    go_wp2_with fail
    refine HMV.out.mono ?_
    clear HMV
    rintro e w3 hc3
    rcases hc3 with ⟨rfl,hq,hf3⟩ |⟨rfl,hq,L2,h2,he2,hf2⟩
    ·have HMF:=Lib.hid hq
     have HF3:=Lib.hid (HF_w2.out.then_ hf3)
     have G13:=Lib.hid (G12.out.keep hf3)
     clear hq hf3 G12
     have c0:=HF3.out.cellS HC0'.out
     have cy:=HF3.out.cellS HI1.out
     have e0:=Ext.cell c0
     have ey:=Ext.cell cy
     have HVT3:=Lib.hid (fun u:Ext w3=>trail_value u.v L1.tL S1.T (G13.out.tr.fr u.fr (by simp)) y1 (by omega) (by omega) HSML.out)
     simp only [HVV.out] at HVT3
     by_cases hng:v<0
     ·have hd2:decide (v<0)=true:=decide_eq_true hng
      have hS5:Hid (VF=(S1,true,false)):=(by
       rw [HVT.out]
       unfold Sv.visitT
       simp only [HX0.out]
       rw [if_neg (by unfold Sv.val;rw [HVV.out];omega),if_neg (by rw [HMF.out];simp),if_pos (by unfold Sv.val;rw [HVV.out];omega)]:VF=(S1,true,false))
      go_upto_region 10 with fail
      refine wp_region_ext (by kernel_rfl) (by kernel_rfl) ?_
      repeat (go_big_quiet_step (exact call_same (HVT3.out _)))
      refine wpQuiet_nil ?_
      rintro w4 ⟨u2,hu2⟩
      have HF_w4:Hid (Fr [] w3 w4):=hu2▸u2.fr
      clear hu2 u2
      have HF4:=Lib.hid (HF3.out.then_ HF_w4.out)
      have FF:=Lib.hid (FIN.out _ true false hS5.out w4 L1 (G13.out.keep HF_w4.out) G2.out (G3.out.then_ (HF4.out.mono (fun k hk=>by cases hk))))
      clear e0 ey c0 cy
      go_wp2_with fail
      go_ret2
      exact FF.out
     ·have hd2:decide (v<0)=false:=decide_eq_false hng
      go_upto_region 10 with fail
      refine wp_region_ext (by kernel_rfl) (by kernel_rfl) ?_
      repeat (go_big_quiet_step (exact call_same (HVT3.out _)))
      refine wpQuiet_nil ?_
      rintro w4 ⟨u2,hu2⟩
      have HF_w4:Hid (Fr [] w3 w4):=hu2▸u2.fr
      clear hu2 u2
      have HF4:=Lib.hid (HF3.out.then_ HF_w4.out)
      have G4:=Lib.hid (G13.out.keep HF_w4.out)
      have HC4:=Lib.hid (HF4.out.cellS HC0'.out)
      have HI4:=Lib.hid (HF4.out.cellS HI1.out)
      have HTL:Hid (S1.T.lits.length<17592186044416):=by
       obtain ⟨R,hR⟩:=HTO.out.tr
       have h1:=hR.len_le
       have h2:S1.T.lits.length=R.length:=by rw [hR.lits,List.length_map]
       have h3:=HTO.out.vl
       show _<_
       omega
      have HPUT:=Lib.hid (fun W (hW:Fr [] w4 W)=>trail_put W L1.tL S1.T (G4.out.tr.fr hW (by simp)) y1 ((n:Int)+1) (by omega) (by omega) HTL.out)
      have hn4:n<2199023255552:=by have :=HNR.out;omega
      have hw1:IntKind.i64.wrap ((n:Int)+1)=(n:Int)+1:=IntWalk.i64_in _ (by omega)
      clear e0 ey c0 cy
      go_upto_region 12 with fail
      refine wp_region_noPanic ?_
      refine wp_region_C (fun w':World=>Fr [] w4 w') 9 (by kernel_rfl) ((Fr.refl [] w4).drew) (fun hT0=> ?_)
      apply TB 9 [(0,[]),(1,[]),(2,[]),(3,[3,9]),(4,[]),(5,[]),(6,[6,9]),(7,[]),(8,[])];kernel_rfl;rfl;· (repeat (apply TBc;rfl;rfl;(· intro w hSw;(try (have hSw:=hSw.resolve_left (List.cons_ne_nil _ _);(have s0:=hSw.cellS HC4.out;have s1:=hSw.cellS HI4.out)));go_simp<;>with_reducible rfl);try simp only [Act.put,q5,q6,q7]));exact TBn
      exact hT0;intro hT0
      refine R2 9 (by kernel_rfl) (by rfl) hT0 fun K hK hSx=> ?_
      (go_simp;refine (HPUT.out _ hSx).mono ?_;rintro e w5 ⟨rfl,tL2,ht2,hte2,htf2⟩;dsimp only)
      refine hK.out _ _ (.inl rfl) (fun hT10=> ?_)
      clear hK K
      try simp only [Act.put,q5,q6,q7]
      refine wpAnyC_done (by kernel_rfl) ?_ _
      refine NoPanic.normal ?_
      have g4:=G4.out.keep hSx
      obtain ⟨L5,h5,he5,hf5⟩:=g4.trail ht2 hte2 htf2
      have hS5:Hid (VF=(S1.put y1 (n+1),true,true)):=(by
       rw [HVT.out]
       unfold Sv.visitT
       simp only [HX0.out]
       rw [if_neg (by unfold Sv.val;rw [HVV.out];omega),if_neg (by rw [HMF.out];simp),if_neg (by unfold Sv.val;rw [HVV.out];omega)]:VF=(S1.put y1 (n+1),true,true))
      have hz:w.heap.size≤w4.heap.size:=Nat.le_trans G3.out.size HF4.out.size
      have hE:L.ext L5 w:=by
       refine ⟨he5.1.trans G2.out.1,he5.2.1.trans G2.out.2.1,fun k hk e=>G2.out.2.2 k hk ?_⟩
       have :=he5.2.2 k (Nat.lt_of_lt_of_le hk (Nat.le_trans hz hSx.size)) (e.trans G2.out.2.1.symm)
       exact this.trans G2.out.2.1
      have hF:Fr (L.own w) w w5:=SvL.own_then G2.out G3.out (((HF4.out.then_ hSx).mono (fun k hk=>by cases hk)).trans hf5 (fun k hk=>by
       rw [SvL.mem_own] at hk
       rcases Nat.lt_or_ge k W1.heap.size with hl |hl
       ·exact .inl (SvL.mem_own.2 ⟨hl,hk.2⟩)
       ·exact .inr hl))
      have FF:=Lib.hid (FIN.out _ true true hS5.out w5 L5 h5 hE hF)
      go_wp2_with fail
      go_ret2
      exact FF.out
    ·have hS5:Hid (VF=((S1.movedF n).1,false,true)):=(by
      rw [HVT.out]
      unfold Sv.visitT
      simp only [HX0.out]
      rw [if_neg (by unfold Sv.val;rw [HVV.out];omega),if_pos hq]:VF=((S1.movedF n).1,false,true))
     have hz:w.heap.size≤w2.heap.size:=Nat.le_trans G3.out.size HF_w2.out.size
     have hE:L.ext L2 w:=by
      refine ⟨he2.1.trans G2.out.1,he2.2.1.trans G2.out.2.1,fun k hk e=>G2.out.2.2 k hk ?_⟩
      have :=he2.2.2 k (Nat.lt_of_lt_of_le hk hz) (e.trans G2.out.2.1.symm)
      exact this.trans G2.out.2.1
     have hF:Fr (L.own w) w w3:=SvL.own_then G2.out G3.out ((HF_w2.out.mono (fun k hk=>by cases hk)).trans hf2 (fun k hk=>by
      rw [SvL.mem_own] at hk
      rcases Nat.lt_or_ge k W1.heap.size with hl |hl
      ·exact .inl (SvL.mem_own.2 ⟨hl,hk.2⟩)
      ·exact .inr hl))
     have FF:=Lib.hid (FIN.out _ false true hS5.out w3 L2 h2 hE hF)
     clear hq h2 he2 hf2
     go_wp2_with fail
     go_ret2
     exact FF.out
theorem run_append_in (w:World) (ty:TypeId) (g c:Nat) (zs:List Int) (hown:Ints w (some ⟨g,0,none⟩) c zs) (j:Nat) (ad:Addr) (c':Nat) (ys:List Int) (hr:∀k:Nat,k<ys.length→w.cell? (ad.add k)=some (.int .i64 ys[k]!)) (hj:j+ys.length≤zs.length):
  ∃w',(Builtin.append_ #[22,22] ty #[.slice (some ⟨g,0,none⟩) j c, .slice (some ad) ys.length c']).run Tryz.prog w= .ok (.slice (some ⟨g,0,none⟩) (j+ys.length) c) w'∧
   Ints w' (some ⟨g,0,none⟩) c (zs.take j++ys++zs.drop (j+ys.length))∧Fr [g] w w':=by
 obtain ⟨i0,hi,hz0,hz1,hz2⟩:=info_parts infoInt
 rcases hown.2 with ⟨h1,_⟩ |⟨g',cap,cur,hv,hb,hg,hn,hm,hs,ht⟩
 ·simp at h1
 ·simp only [Value.slice.injEq,Option.some.injEq,Addr.mk.injEq,true_and,and_true] at hv
  obtain ⟨rfl,rfl⟩:=hv
  have hsz:cur.size=c:=by simpa using hs
  have hnc:zs.length≤c:=by simpa using hn
  have hrun:=run_append_room (P:=Tryz.prog) w 22 ty 3 i0 Tryz.underlying22 hi g j c cur hg ad ys.length c' (ys.map (Value.int .i64)) (by rw [hz1];simp) (fun k u hu=>by
   simp only [List.getElem?_map,Option.map_eq_some_iff] at hu
   obtain ⟨y,hy,rfl⟩:=hu
   have hk:=(List.getElem?_eq_some_iff.1 hy).1
   have :=hr k hk
   rw [List.getElem!_eq_getElem?_getD,hy] at this
   exact this) (by simp [Value.oneCell']) (by omega) (by rw [hz1];simp;omega)
  have hsize:(cur.toList.take j++ys.map (Value.int .i64)++cur.toList.drop (j+ys.length)).toArray.size=c:=by
   simp only [List.size_toArray,List.length_append,List.length_take,List.length_drop,List.length_map,Array.length_toList]
   omega
  rw [hz1] at hrun
  simp only [Nat.mul_one,List.length_map] at hrun
  refine ⟨_,hrun,⟨by simp, .inr ⟨g,c,_,?_,hb,setRow_heap w g cur _ 3 _ hg,?_,hm,?_,?_⟩⟩,⟨rfl,rfl,rfl,by simp,fun k _ hk=>setRow_other w g k _ (fun e=>hk (by simp [e]))⟩⟩
  ·rfl
  ·simp only [List.length_append,List.length_take,List.length_drop]
   omega
  ·rw [Nat.mul_one];exact hsize
  ·simp only [Nat.mul_one] at ht⊢
   have hlen:(zs.take j++ys++zs.drop (j+ys.length)).length=zs.length:=by
    simp only [List.length_append,List.length_take,List.length_drop]
    omega
   rw [hlen,List.map_append,List.map_append,List.map_take,List.map_drop,←ht]
   have e1:(cur.toList.take zs.length).take j=cur.toList.take j:=by rw [List.take_take,Nat.min_eq_left (by omega)]
   rw [e1]
   have e2:(cur.toList.take zs.length).drop (j+ys.length)=(cur.toList.drop (j+ys.length)).take (zs.length-(j+ys.length)):=by rw [List.drop_take]
   rw [e2]
   have hj2:(cur.toList.take j).length=j:=by rw [List.length_take,Array.length_toList];omega
   have hL:(cur.toList.take j++ys.map (Value.int .i64)).length=j+ys.length:=by rw [List.length_append,hj2,List.length_map]
   have hT:(cur.toList.take j++ys.map (Value.int .i64)).take zs.length=cur.toList.take j++ys.map (Value.int .i64):=List.take_of_length_le (by rw [hL];exact hj)
   rw [List.take_append,hL,hT]
theorem wpList_append_in1 (w:World) {ops:Array Oper} {rest:List Oper} {o:Oper} {a:Act} {Q:Exit→Act→World→Prop} (hgd:o.guard=none) (s x:Operand)
  (ho:o.op= .call { callee:= .builtin .append,args:=#[s,x],argTypes:=#[22,22] }) (g c j:Nat) (zs:List Int) (hs:a.eval s= .slice (some ⟨g,0,none⟩) j c) (hown:Ints w (some ⟨g,0,none⟩) c zs)
  (ad:Addr) (c':Nat) (y:Int) (hx:a.eval x= .slice (some ad) 1 c') (hy:w.cell? ad=some (.int .i64 y)) (hj:j<zs.length)
  (h:∀w',Ints w' (some ⟨g,0,none⟩) c (zs.take j++[y]++zs.drop (j+1))→Fr [g] w w'→wpList Tryz.prog ops Q rest (a.put o.dst (.slice (some ⟨g,0,none⟩) (j+1) c)) w'):
  wpList Tryz.prog ops Q (o::rest) a w:=by
 refine wpList_plain hgd fun K hK=> ?_
 obtain ⟨w',hr,h2,h3⟩:=run_append_in w o.type g c zs hown j ad c' [y] (fun k hk=>by
  simp at hk
  subst hk
  rw [show ad.add 0=ad from if_pos rfl]
  exact hy) (by simp;omega)
 unfold Oper.wp execOp
 simp only [List.length_singleton] at hr h2
 simp only [ho,resolve,invoke,builtin,Sem.run_bind,Sem.run_pure,Result.andThen_ok,List.map_toArray,List.map_cons,List.map_nil,hs,hx,hr]
 exact hK _ _ (h w' h2 h3)
theorem step_append_in {w:World} {ops:Array Oper} {o:Oper} {a:Act} {K:Act→World→Prop} {Q:Exit→Act→World→Prop} {E:Prop} (hgd:o.guard=none) (s x:Operand)
  (ho:o.op= .call { callee:= .builtin .append,args:=#[s,x],argTypes:=#[22,22] }) (g c j:Nat) (zs:List Int) (hs:a.eval s= .slice (some ⟨g,0,none⟩) j c) (hown:Ints w (some ⟨g,0,none⟩) c zs)
  (ad:Addr) (m c':Nat) (ys:List Int) (hm:ys.length=m) (hx:a.eval x= .slice (some ad) m c') (hr:∀k:Nat,k<ys.length→w.cell? (ad.add k)=some (.int .i64 ys[k]!)) (hj:j+ys.length≤zs.length)
  (h:∀w',Ints w' (some ⟨g,0,none⟩) c (zs.take j++ys++zs.drop (j+ys.length))→Fr [g] w w'→K (a.put o.dst (.slice (some ⟨g,0,none⟩) (j+m) c)) w'):
  if Region.wanted o (yielded ops a.tmps)=true then Oper.wp Tryz.prog o a w K Q else E:=by
 have hw:Region.wanted o (yielded ops a.tmps)=true:=by simp [Region.wanted,hgd]
 rw [if_pos hw]
 subst hm
 obtain ⟨w',hrun,h2,h3⟩:=run_append_in w o.type g c zs hown j ad c' ys hr hj
 unfold Oper.wp execOp
 simp only [ho,resolve,invoke,builtin,Sem.run_bind,Sem.run_pure,Result.andThen_ok,List.map_toArray,List.map_cons,List.map_nil,hs,hx,hrun]
 exact h w' h2 h3
theorem step_append_ints {w:World} {ops:Array Oper} {o:Oper} {a:Act} {K:Act→World→Prop} {Q:Exit→Act→World→Prop} {E:Prop} (hgd:o.guard=none) (s x:Operand)
  (ho:o.op= .call { callee:= .builtin .append,args:=#[s,x],argTypes:=#[22,22] }) (A:Option Addr) (c:Nat) (xs:List Int) (n:Nat) (hs:a.eval s= .slice A n c) (hn:n=xs.length) (hown:Ints w A c xs)
  (B:Option Addr) (m c':Nat) (ys:List Int) (hm:ys.length=m) (hx:a.eval x= .slice B m c') (hr:Ints w B c' ys) (hlen:xs.length+ys.length≤17592186044416)
  (h:∀A' cap w',Ints w' A' cap (xs++ys)→Fr (blks A) w w'→(∀k,k∈blks A'→k∈blks A∨k=w.heap.size)→w.heap.size≤w'.heap.size→K (a.put o.dst (.slice A' (n+m) cap)) w'):
  if Region.wanted o (yielded ops a.tmps)=true then Oper.wp Tryz.prog o a w K Q else E:=by
 have hw:Region.wanted o (yielded ops a.tmps)=true:=by simp [Region.wanted,hgd]
 rw [if_pos hw]
 subst hn hm
 rcases hr.form with ⟨rfl,rfl,rfl⟩ |⟨g,rfl,hg,_,_⟩
 ·obtain ⟨i0,hi,hz0,hz1,hz2⟩:=info_parts infoInt
  have hc:xs.length≤c:=by
   rcases hown.form with ⟨_,_,rfl⟩ |⟨_,_,_,h1,_⟩
   ·simp
   ·exact h1
  have hrun:(Builtin.append_ #[22,22] o.type #[.slice A xs.length c, .slice none 0 0]).run Tryz.prog w= .ok (.slice A xs.length c) w:=by
   cases A<;>simp [Builtin.append_,run_underlying Tryz.underlying22,sizeOf,typeInfo,hi,Builtin.lenOf,hc,Builtin.firstCells,loadCells,storeCells]
  unfold Oper.wp execOp
  simp only [List.length_nil] at hx
  simp only [ho,resolve,invoke,builtin,Sem.run_bind,Sem.run_pure,Result.andThen_ok,List.map_toArray,List.map_cons,List.map_nil,hs,hx,hrun]
  have :=h A c w (by rw [List.append_nil];exact hown) (Fr.refl _ _) (fun k hk=> .inl hk) (Nat.le_refl _)
  rw [List.length_nil,Nat.add_zero] at this
  exact this
 ·have hcell:=fun j (hj:j<ys.length)=>hr.cell hj
  obtain ⟨A',cap,w',hrun,h2,h3,h4,h5,h6,h7⟩:=run_append_row w 22 o.type 3 (.int .i64 0) 1 8 Tryz.underlying22 infoInt rfl (by decide) A c xs.length (xs.map (Value.int .i64)) hown ⟨g,0,none⟩ ys.length c' (ys.map (Value.int .i64)) (by simp) (fun j u hu=>by
   simp only [List.getElem?_map,Option.map_eq_some_iff] at hu
   obtain ⟨y,hy,rfl⟩:=hu
   have hj:=(List.getElem?_eq_some_iff.1 hy).1
   have :=hcell j hj
   rw [List.getElem!_eq_getElem?_getD,hy] at this
   rw [addr_add,Nat.zero_add]
   exact this) (by simp [Value.oneCell']) (by unfold maxLen;omega) (by omega)
  unfold Oper.wp execOp
  simp only [ho,resolve,invoke,builtin,Sem.run_bind,Sem.run_pure,Result.andThen_ok,List.map_toArray,List.map_cons,List.map_nil,hs,hx,hrun]
  refine h A' cap w' ?_ h3 h4 h5
  unfold Ints
  rw [List.length_append,List.map_append]
  exact h2
def SvL.has (L:SvL) (k:Nat):Prop:=k=L.a∨k∈L.tL.fp∨k∈L.hL.fp∨k∈blks L.cA∨k∈blks L.wA∨k∈blks L.pA∨k∈blks L.mA∨k∈blks L.oA∨(∃n:Nat,n<L.cs.length∧k∈blks (L.cs[n]!).A)∨(∃c:Nat,c<L.ws.length∧k∈blks (L.ws[c]!).A)
theorem SvAt.has_own {w:World} {L:SvL} {S:Sv} (h:SvAt w L S) {k:Nat} (hk:L.has k):(L.lab k).1=L.id:=by
 rcases hk with rfl |hk |hk |hk |hk |hk |hk |hk |⟨n,hn,hk⟩ |⟨c,hc,hk⟩
 ·rw [h.t0]
 ·rw [h.t1 k hk]
 ·rw [h.t2 k hk]
 ·rw [h.t3 k hk]
 ·rw [h.t4 k hk]
 ·rw [h.t5 k hk]
 ·rw [h.t6 k hk]
 ·rw [h.t7 k hk]
 ·rw [h.t8 n hn k hk]
 ·rw [h.t9 c hc k hk]
theorem SvAt.relab {w:World} {L:SvL} {S:Sv} (h:SvAt w L S) (lab':Nat→Nat×Nat×Nat) (hh:∀k,L.has k→lab' k=L.lab k):SvAt w { L with lab:=lab' } S:=by
 refine ⟨h.obj,h.tr,h.hp,h.hmade,h.ecs,h.ews,h.rcs,h.rws,h.rph,h.rmo,h.rco,h.ech,h.ewh,?_,fun k hk=> ?_,fun k hk=> ?_,fun k hk=> ?_,fun k hk=> ?_,fun k hk=> ?_,fun k hk=> ?_,fun k hk=> ?_,fun n hn k hk=> ?_,fun n hn k hk=> ?_⟩
 ·exact (hh _ (.inl rfl)).trans h.t0
 ·exact (hh _ (.inr (.inl hk))).trans (h.t1 k hk)
 ·exact (hh _ (.inr (.inr (.inl hk)))).trans (h.t2 k hk)
 ·exact (hh _ (.inr (.inr (.inr (.inl hk))))).trans (h.t3 k hk)
 ·exact (hh _ (.inr (.inr (.inr (.inr (.inl hk)))))).trans (h.t4 k hk)
 ·exact (hh _ (.inr (.inr (.inr (.inr (.inr (.inl hk))))))).trans (h.t5 k hk)
 ·exact (hh _ (.inr (.inr (.inr (.inr (.inr (.inr (.inl hk)))))))).trans (h.t6 k hk)
 ·exact (hh _ (.inr (.inr (.inr (.inr (.inr (.inr (.inr (.inl hk))))))))).trans (h.t7 k hk)
 ·exact (hh _ (.inr (.inr (.inr (.inr (.inr (.inr (.inr (.inr (.inl ⟨n,hn,hk⟩)))))))))).trans (h.t8 n hn k hk)
 ·exact (hh _ (.inr (.inr (.inr (.inr (.inr (.inr (.inr (.inr (.inr ⟨n,hn,hk⟩)))))))))).trans (h.t9 n hn k hk)
theorem SvAt.take {w:World} {L:SvL} {S:Sv} (h:SvAt w L S) {c:Nat} (hc:c<L.ws.length):
  ∃gw,L.wA=some ⟨gw,0,none⟩∧gw<w.heap.size∧w.frozen? ⟨gw,c,none⟩=false∧∃L',SvAt (w.setCell ⟨gw,c,none⟩ (.slice none 0 0)) L' (S.wset c [])∧L.ext L' w∧Fr (L.own w) w (w.setCell ⟨gw,c,none⟩ (.slice none 0 0))∧
   Ints (w.setCell ⟨gw,c,none⟩ (.slice none 0 0)) (L.ws[c]!).A (L.ws[c]!).c (casts (L.ws[c]!).l)∧∀k,k∈blks (L.ws[c]!).A→(L'.lab k).1≠L'.id∧k∈L.own w:=by
 have hrow:=h.ewh c hc
 obtain ⟨gw,h1,h2,h3,L1,h4,h5,h6,h7⟩:=h.wset hc (A':=none) (c':=0) (l':=[]) (F:=[]) (w1:=w) (Ints.nil w) (Fr.refl _ _) (fun k hk=>by cases hk) (fun k hk=>by simp [blks] at hk)
 refine ⟨gw,h1,h2,h3,?_⟩
 simp only [List.length_nil] at h4 h6
 have hlab:=h.t9 c hc
 have hno:∀k,k∈blks (L.ws[c]!).A→¬L1.has k:=fun k hk hh=>by
  have e1:=hlab k hk
  subst h7
  rcases hh with rfl |hh |hh |hh |hh |hh |hh |hh |⟨n,hn,hh⟩ |⟨c',hc',hh⟩
  ·rw [h.t0] at e1;simp at e1
  ·rw [h.t1 k hh] at e1;simp at e1
  ·rw [h.t2 k hh] at e1;simp at e1
  ·rw [h.t3 k hh] at e1;simp at e1
  ·rw [h.t4 k hh] at e1;simp at e1
  ·rw [h.t5 k hh] at e1;simp at e1
  ·rw [h.t6 k hh] at e1;simp at e1
  ·rw [h.t7 k hh] at e1;simp at e1
  ·rw [h.t8 n hn k hh] at e1;simp at e1
  ·simp only [List.length_set] at hc'
   simp only at hh
   rw [getB_set] at hh
   by_cases e:c=c'
   ·rw [if_pos ⟨e,hc⟩] at hh
    simp [blks] at hh
   ·rw [if_neg (fun x=>e x.1)] at hh
    rw [h.t9 c' hc' k hh] at e1
    simp at e1
    exact e e1.symm
 have hid:L1.id=L.id:=h5.2.1
 refine ⟨{ L1 with lab:=fun k=>if k∈blks (L.ws[c]!).A then (L1.id+1,0,0) else L1.lab k },h4.relab _ (fun k hk=>if_neg (fun hm=>hno k hm hk)),⟨h5.1,hid,fun k hk e=> ?_⟩,h6,?_,fun k hk=>⟨?_,?_⟩⟩
 ·simp only at e
  split at e
  ·rw [hid] at e;simp at e
  ·exact h5.2.2 k hk e
 ·refine hrow.far (p:=⟨gw,c,none⟩) (fun hm=> ?_) _
  have e1:=hlab gw hm
  rw [h.t4 gw (by rw [h1];simp [blks])] at e1
  simp at e1
 ·simp only
  rw [if_pos hk]
  simp
 ·rw [SvL.mem_own]
  exact ⟨hrow.lt k hk,by rw [hlab k hk]⟩
theorem SvAt.give {w w1:World} {L:SvL} {S:Sv} (h:SvAt w L S) {c:Nat} (hc:c<L.ws.length) {A0 A':Option Addr} {c':Nat} {l':List Nat} (hA0:∀k,k∈blks A0→(L.lab k).1≠L.id) (hi:Ints w1 A' c' (casts l'))
  (hf:Fr (blks A0) w w1) (hA:∀k,k∈blks A'→k∈blks A0∨w.heap.size≤k):
  ∃gw,L.wA=some ⟨gw,0,none⟩∧w1.frozen? ⟨gw,c,none⟩=false∧∃L',SvAt (w1.setCell ⟨gw,c,none⟩ (.slice A' l'.length c')) L' (S.wset c l')∧L'.a=L.a∧L'.id=L.id∧(∀k,k<w.heap.size→(L'.lab k).1=L.id→(L.lab k).1=L.id∨k∈blks A0)∧
   Fr (blks A0++L.own w) w (w1.setCell ⟨gw,c,none⟩ (.slice A' l'.length c')):=by
 have hno:∀k,L.has k→k∉blks A0:=fun k hk hm=>hA0 k hm (h.has_own hk)
 have h2:=h.relab (fun k=>if k∈blks A0 then (L.id,9,c) else L.lab k) (fun k hk=>if_neg (hno k hk))
 obtain ⟨gw,g1,g2,g3,L',g4,g5,g6,g7⟩:=h2.wset (c:=c) hc (l':=l') hi hf (fun k hk _=>if_pos hk) (fun k hk=>by
  rcases hA k hk with h3 |h3
  ·rcases Nat.lt_or_ge k w.heap.size with hl |hl
   ·exact .inl ⟨hl,if_pos h3⟩
   ·exact .inr hl
  ·exact .inr h3)
 refine ⟨gw,g1,g3,L',g4,g5.1,g5.2.1,fun k hk e=> ?_,g6.mono (fun k hk=> ?_)⟩
 ·have :=g5.2.2 k hk e
  simp only at this
  by_cases hm:k∈blks A0
  ·exact .inr hm
  ·rw [if_neg hm] at this
   exact .inl this
 ·rw [SvL.mem_own] at hk
  left
  by_cases hm:k∈blks A0
  ·exact List.mem_append_left _ hm
  ·have e:=hk.2
   simp only [if_neg hm] at e
   exact List.mem_append_right _ (SvL.mem_own.2 ⟨hk.1,e⟩)
namespace Sv
theorem Ok.visits (off:Int):∀(ws keep:List Nat) (S:Sv),S.Ok (keep.length+ws.length)→(∀n∈ws,n<S.list.length)→(∀n∈keep,n<S.list.length)→lcode off<S.watch.length→
  (visitsF off ws keep S).1.Ok 0∧(visitsF off ws keep S).1.vars=S.vars∧(visitsF off ws keep S).1.head=S.head∧(visitsF off ws keep S).1.list.length=S.list.length∧∀n,(visitsF off ws keep S).2=some n→n<S.list.length
 |[],keep,S,ok,_,hk,hc=>by
  simp only [visitsF]
  refine ⟨ok.wset hc (fun n hn=> ?_) (by simp;omega),rfl,rfl,rfl,fun n h=>by cases h⟩
  rcases List.mem_append.1 hn with h |h
  ·exact hk n h
  ·exact ok.wb _ n h
 |n::r,keep,S,ok,hw,hk,hc=>by
  simp only [visitsF]
  have hn:=hw n (by simp)
  obtain ⟨v1,v2,v3,v4,v5⟩:=(ok.less (m':=keep.length+r.length+1) (by simp;omega)).visit hn off
  generalize S.visitF n off=q at *
  have hk1:∀j∈(if q.2.1=true then keep++[n] else keep),j<q.1.list.length:=fun j hj=>by
   rw [v3]
   split at hj
   ·rcases List.mem_append.1 hj with h |h
    ·exact hk j h
    ·simp at h;omega
   ·exact hk j hj
  have ok1:q.1.Ok ((if q.2.1=true then keep++[n] else keep).length+r.length):=by
   split
   ·rename_i h
    rw [if_pos h] at v1
    exact v1.less (by simp;omega)
   ·rename_i h
    rw [if_neg h] at v1
    exact v1
  split
  ·have ih:=Ok.visits off r _ q.1 ok1 (fun j hj=>by rw [v3];exact hw j (by simp [hj])) hk1 (by rw [v5];exact hc)
   exact ⟨ih.1,by rw [ih.2.1,v2],by rw [ih.2.2.1,v4],by rw [ih.2.2.2.1,v3],fun j hj=>by have :=ih.2.2.2.2 j hj;omega⟩
  ·refine ⟨ok1.wset (by rw [v5];exact hc) (fun j hj=> ?_) (by simp <;>omega),v2,v4,v3,fun j hj=>by simp at hj;omega⟩
   rcases List.mem_append.1 hj with h |h
   ·exact hk1 j h
   ·rw [v3];exact hw j (by simp [h])
theorem put_lits (S:Sv) (x r:Int):S.T.lits.length≤(S.put x r).T.lits.length:=by
 unfold put
 simp only
 split
 ·simp [Tr.putF]
 ·exact Nat.le_refl _
theorem visit_lits (S:Sv) (n:Nat) (off:Int):S.T.lits.length≤(S.visitF n off).1.T.lits.length:=by
 unfold visitF
 split
 ·exact Nat.le_refl _
 ·have e:=(turned_same S n off).1
  rw [←e]
  generalize S.turned n off=S1
  unfold visitT
  simp only
  split
  ·exact Nat.le_refl _
  ·split
   ·rw [(moved_same S1 n).1];exact Nat.le_refl _
   ·split
    ·exact Nat.le_refl _
    ·exact put_lits _ _ _
theorem visits_lits (off:Int):∀(ws keep:List Nat) (S:Sv),S.T.lits.length≤(visitsF off ws keep S).1.T.lits.length
 |[],keep,S=>Nat.le_refl _
 |n::r,keep,S=>by
  simp only [visitsF]
  have h1:=visit_lits S n off
  split
  ·exact Nat.le_trans h1 (visits_lits off r _ _)
  ·exact h1
end Sv
end Go.Proofs.YtjmmpfjcpdepjaaGreatDoor
