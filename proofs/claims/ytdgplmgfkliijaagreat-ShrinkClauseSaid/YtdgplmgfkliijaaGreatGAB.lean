/- Parts of a proof. -/
import Derived.Test.YtdgplmgfkliijaaGreatGAA
import Derived.Deep.LoopGhost
import Derived.BigRegion
import Derived.Deep.RegionHeld3
import Derived.BigQuiet
import Derived.Deep.DeepCutAuto
import Derived.WalkLawsBesides
set_option linter.unusedVariables false
set_option linter.unusedSimpArgs false
set_option maxHeartbeats 2000000
set_option maxRecDepth 100000
namespace Go.Proofs.YtdgplmgfkliijaaGreat
open Go.RowKit
structure jE where
 v:Int
 l:Int
 r:Int
instance:Inhabited jE:=⟨⟨0,0,0⟩⟩
def jE.free:jE:=⟨0,-1,0⟩
def flat:List jE→List Value
 |[]=>[]
 |c::cs=> .int .i64 c.v:: .int .i64 c.l:: .int .i64 c.r::flat cs
theorem C3 (a b:List jE):flat (a++b)=flat a++flat b:=by
 induction a with
 |nil=>rfl
 |cons c cs ih=>simp [flat,ih]
theorem OB:∀(cs:List jE) (i:Nat),i<cs.length→(flat cs)[i*3]? =some (.int .i64 (cs[i]!).v)∧(flat cs)[i*3+1]? =some (.int .i64 (cs[i]!).l)∧(flat cs)[i*3+2]? =some (.int .i64 (cs[i]!).r):=by
 intro cs
 induction cs with
 |nil=>intro i h;simp at h
 |cons c cs ih=>
  intro i h
  cases i with
  |zero=>simp [flat]
  |succ i=>
   have :=ih i (by simpa using h)
   have e:(i+1)*3=i*3+1+1+1:=by omega
   rw [e]
   simpa [flat] using this
theorem OA:∀(cs:List jE) (i:Nat) (c:jE),i<cs.length→(((flat cs).set (i*3) (.int .i64 c.v)).set (i*3+1) (.int .i64 c.l)).set (i*3+2) (.int .i64 c.r)=flat (cs.set i c):=by
 intro cs
 induction cs with
 |nil=>intro i _ h;simp at h
 |cons d cs ih=>
  intro i c h
  cases i with
  |zero=>simp [flat]
  |succ i=>
   have :=ih i c (by simpa using h)
   have e:(i+1)*3=i*3+1+1+1:=by omega
   rw [e]
   simp only [flat,List.set_cons_succ]
   rw [this]
def Cls (w:World) (A:Option Addr) (c:Nat) (cs:List jE):Prop:=w.ownsRow 0 110 3 (.slice A cs.length c) cs.length (flat cs)
namespace Cls
variable {w w':World} {A:Option Addr} {c:Nat} {cs:List jE}
theorem form (h:Cls w A c cs):(A=none∧c=0∧cs=[])∨∃g,A=some ⟨g,0,none⟩∧g<w.heap.size∧cs.length≤c∧c≤maxLen:=by
 rcases h.2 with ⟨h1,h2⟩ |⟨g,cap,cur,hv,_,hg,hn,hm,_⟩
 ·simp only [Value.slice.injEq] at h1
  exact .inl ⟨h1.1,h1.2.2,aJ h2⟩
 ·simp only [Value.slice.injEq,true_and] at hv
  obtain ⟨rfl,rfl⟩:=hv
  exact .inr ⟨g,rfl,At.lt (t:=110) hg,hn,hm⟩
theorem pos {i:Nat} (h:Cls w A c cs) (hi:i<cs.length):∃g,A=some ⟨g,0,none⟩∧g<w.heap.size:=by
 rcases h.form with ⟨_,_,rfl⟩ |⟨g,h1,h2,_⟩
 ·simp at hi
 ·exact ⟨g,h1,h2⟩
theorem cell {g:Nat} (h:Cls w (some ⟨g,0,none⟩) c cs) {i:Nat} (hi:i<cs.length):
  w.cell? ⟨g,i*3,none⟩=some (.int .i64 (cs[i]!).v)∧w.cell? ⟨g,i*3+1,none⟩=some (.int .i64 (cs[i]!).l)∧w.cell? ⟨g,i*3+2,none⟩=some (.int .i64 (cs[i]!).r):=by
 obtain ⟨h1,h2,h3⟩:=OB cs i hi
 refine ⟨?_,?_,?_⟩
 ·rw [World.ownsRow.cellAt h _ (by omega)];exact h1
 ·rw [World.ownsRow.cellAt h _ (by omega)];exact h2
 ·rw [World.ownsRow.cellAt h _ (by omega)];exact h3
theorem frozen {g:Nat} (h:Cls w (some ⟨g,0,none⟩) c cs) (i:Nat):w.frozen? ⟨g,i,none⟩=false:=World.ownsRow.frozenAt h i
theorem eo {g:Nat} (h:Cls w (some ⟨g,0,none⟩) c cs) {i:Nat} (hi:i<cs.length) (x:jE):
  Cls (((w.setCell ⟨g,i*3,none⟩ (.int .i64 x.v)).setCell ⟨g,i*3+1,none⟩ (.int .i64 x.l)).setCell ⟨g,i*3+2,none⟩ (.int .i64 x.r)) (some ⟨g,0,none⟩) c (cs.set i x):=by
 have h1:=(World.ownsRow.stored h (i*3) (.int .i64 x.v)).1
 have h2:=(World.ownsRow.stored h1 (i*3+1) (.int .i64 x.l)).1
 have h3:=(World.ownsRow.stored h2 (i*3+2) (.int .i64 x.r)).1
 unfold Cls
 rw [OA cs i x hi] at h3
 rw [aw]
 exact h3
theorem G8:∀k,(Value.slice A cs.length c).ownBlock=some k→k∈ap A:=fun k hk=>(iR k).1 hk
theorem gh (h:Cls w A c cs) {p:Addr} (hp:p.block∉ap A) (u:Value):Cls (w.setCell p u) A c cs:=
 Fr.own (S:=[p.block]) ((Fr.refl [p.block] w).setCell (.inl (by simp)) u) h (fun k hk=>by
  have :=G8 k hk
  simp only [ah]
  rintro rfl;exact hp this)
theorem fr {S:List Nat} (h:Cls w A c cs) (hf:Fr S w w') (hd:∀k,k∈ap A→k∉S):Cls w' A c cs:=hf.own h (fun k hk=>hd k (G8 k hk))
theorem alloc (h:Cls w A c cs) (o:Obj):Cls (w.alloc o) A c cs:=World.ownsRow.alloc h o
theorem lt (h:Cls w A c cs):∀k,k∈ap A→k<w.heap.size:=by
 rcases h.form with ⟨rfl,_⟩ |⟨g,rfl,h1,_⟩
 ·simp [ap]
 ·simpa [ap] using h1
theorem len (h:Cls w A c cs):cs.length≤maxLen:=by
 rcases h.form with ⟨_,_,rfl⟩ |⟨g,_,_,h1,h2⟩
 ·simp [maxLen]
 ·omega
end Cls
structure Tr where
 cells:List jE
 lits:List Int
 levels:List Int
structure ew where
 a:Nat
 A1:Option Addr
 c1:Nat
 A2:Option Addr
 c2:Nat
 A3:Option Addr
 c3:Nat
def ew.fp (L:ew):List Nat:=L.a::(ap L.A1++(ap L.A2++ap L.A3))
structure TrAt (w:World) (L:ew) (T:Tr):Prop where
 obj:At w L.a 113 #[.slice L.A1 T.cells.length L.c1, .slice L.A2 T.lits.length L.c2, .slice L.A3 T.levels.length L.c3]
 cells:Cls w L.A1 L.c1 T.cells
 lits:Ints w L.A2 L.c2 T.lits
 levels:Ints w L.A3 L.c3 T.levels
 nodup:L.fp.Nodup
def Tr.iV (T:Tr) (v:Int):Bool:=decide (1≤v)&&decide (v<T.cells.length)
theorem Tr.dj {T:Tr} {v:Int} (h:T.iV v=true):1≤v∧v<T.cells.length:=by simpa [Tr.iV] using h
def Tr.kq (T:Tr) (v:Int):jE:=T.cells[v.toNat]!
theorem nS {a b:Bool} (h:a=b):Ending.returned (.bool a)= .returned (.bool b):=by rw [h]
theorem mI {k:IntKind} {a b:Int} (h:a=b):Ending.returned (.int k a)= .returned (.int k b):=by rw [h]
theorem dw (w:World) (L:ew) (T:Tr) (h:TrAt w L T) (v:Int) (b:Bool) (hb:T.iV v=b):
  Calls Tryz.prog 82 #[.pointer (some ⟨L.a,0,none⟩), .int .i64 v] w fun e w'=>e= .returned (.bool b)∧w=w':=by
 subst hb
 have c1:=h.obj.cell 0
 simp at c1
 unfold Tr.iV
 by_cases h0:1≤v
 ·by_cases h1:v<T.cells.length
  ·go_enter Tryz.func82,Tryz.ntmps82
   go_wp2
   go_ret
   exact ⟨nS (by simp [h0,h1]),rfl⟩
  ·go_enter Tryz.func82,Tryz.ntmps82
   go_wp2
   go_ret
   exact ⟨nS (by simp [h1]),rfl⟩
 ·go_enter Tryz.func82,Tryz.ntmps82
  go_wp2
  go_ret
  exact ⟨nS (by simp;omega),rfl⟩
theorem TrAt.hJ {w:World} {L:ew} {T:Tr} (h:TrAt w L T) {v:Int} (h0:0≤v) (h1:v<T.cells.length):
  ∃g,L.A1=some ⟨g,0,none⟩∧w.cell? ⟨g,v.toNat*3,none⟩=some (.int .i64 (T.kq v).v)∧w.cell? ⟨g,v.toNat*3+1,none⟩=some (.int .i64 (T.kq v).l)∧w.cell? ⟨g,v.toNat*3+2,none⟩=some (.int .i64 (T.kq v).r)∧∀j,w.frozen? ⟨g,j,none⟩=false:=by
 obtain ⟨g,hg,_⟩:=h.cells.pos (i:=v.toNat) (by omega)
 refine ⟨g,hg,?_⟩
 have :=h.cells
 rw [hg] at this
 obtain ⟨a,b,c⟩:=this.cell (i:=v.toNat) (by omega)
 exact ⟨a,b,c,this.frozen⟩
def Tr.da (T:Tr) (v:Int):Int:=if T.iV v=true then (T.kq v).l else -1
def Tr.fe (T:Tr) (v:Int):Int:=if T.iV v=true then (T.kq v).r else 0
theorem jt (w:World) (L:ew) (T:Tr) (h:TrAt w L T) (v:Int):
  Calls Tryz.prog 114 #[.pointer (some ⟨L.a,0,none⟩), .int .i64 v] w fun e w'=>e= .returned (.int .i64 (T.da v))∧w=w':=by
 have o1:=h.obj.cell 0
 simp at o1
 unfold Tr.da
 cases hb:T.iV v with
 |true=>
  obtain ⟨h0,h1⟩:=Tr.dj hb
  obtain ⟨g,hg,c0,c1,c2,_⟩:=h.hJ (v:=v) (by omega) h1
  rw [hg] at o1
  have HB:=ae hb
  have HH:=ae h
  clear hb h hg
  go_enter Tryz.func114,Tryz.ntmps114
  go_wp2_with fail
  refine (dw _ L T HH.o v true HB.o).mono ?_
  rintro e w1 ⟨rfl,rfl⟩
  go_wp2
  go_ret
  exact ⟨mI (by simp),rfl⟩
 |false=>
  have HB:=ae hb
  have HH:=ae h
  clear hb h
  go_enter Tryz.func114,Tryz.ntmps114
  go_wp2_with fail
  refine (dw _ L T HH.o v false HB.o).mono ?_
  rintro e w1 ⟨rfl,rfl⟩
  go_wp2
  go_ret
  exact ⟨mI (by simp),rfl⟩
theorem j6 (w:World) (L:ew) (T:Tr) (h:TrAt w L T) (v:Int):
  Calls Tryz.prog 150 #[.pointer (some ⟨L.a,0,none⟩), .int .i64 v] w fun e w'=>e= .returned (.int .i64 (T.fe v))∧w=w':=by
 have o1:=h.obj.cell 0
 simp at o1
 unfold Tr.fe
 cases hb:T.iV v with
 |true=>
  obtain ⟨h0,h1⟩:=Tr.dj hb
  obtain ⟨g,hg,c0,c1,c2,_⟩:=h.hJ (v:=v) (by omega) h1
  rw [hg] at o1
  have HB:=ae hb
  have HH:=ae h
  clear hb h hg
  go_enter Tryz.func150,Tryz.ntmps150
  go_wp2_with fail
  refine (dw _ L T HH.o v true HB.o).mono ?_
  rintro e w1 ⟨rfl,rfl⟩
  go_wp2
  go_ret
  exact ⟨mI (by simp),rfl⟩
 |false=>
  have HB:=ae hb
  have HH:=ae h
  clear hb h
  go_enter Tryz.func150,Tryz.ntmps150
  go_wp2_with fail
  refine (dw _ L T HH.o v false HB.o).mono ?_
  rintro e w1 ⟨rfl,rfl⟩
  go_wp2
  go_ret
  exact ⟨mI (by simp),rfl⟩
theorem lf (w:World) (L:ew) (T:Tr) (h:TrAt w L T):
  Calls Tryz.prog 111 #[.pointer (some ⟨L.a,0,none⟩)] w fun e w'=>e= .returned (.int .i64 T.levels.length)∧w=w':=by
 have o1:=h.obj.cell 2
 simp at o1
 clear h
 go_enter Tryz.func111,Tryz.ntmps111
 go_wp2
 go_ret
 exact ⟨rfl,rfl⟩
theorem ko (w:World) (L:ew) (T:Tr) (h:TrAt w L T):
  Calls Tryz.prog 112 #[.pointer (some ⟨L.a,0,none⟩)] w fun e w'=>e= .returned (.int .i64 T.lits.length)∧w=w':=by
 have o1:=h.obj.cell 1
 simp at o1
 clear h
 go_enter Tryz.func112,Tryz.ntmps112
 go_wp2
 go_ret
 exact ⟨rfl,rfl⟩
def Tr.X9 (T:Tr) (i:Int):Int:=if 0≤i∧i<T.lits.length then T.lits[i.toNat]! else 0
theorem ku (w:World) (L:ew) (T:Tr) (h:TrAt w L T) (i:Int):
  Calls Tryz.prog 113 #[.pointer (some ⟨L.a,0,none⟩), .int .i64 i] w fun e w'=>e= .returned (.int .i64 (T.X9 i))∧w=w':=by
 have o1:=h.obj.cell 1
 simp at o1
 unfold Tr.X9
 by_cases h0:0≤i
 ·by_cases h1:i<T.lits.length
  ·obtain ⟨g,hg,_⟩:=h.lits.pos (i:=i.toNat) (by omega)
   have hc:=h.lits
   rw [hg] at hc o1
   have c1:=hc.cell (i:=i.toNat) (by omega)
   rw [if_pos ⟨h0,h1⟩]
   obtain ⟨y,hy⟩:∃y,T.lits[i.toNat]! =y:=⟨_,rfl⟩
   rw [hy] at c1⊢
   clear h hg hc hy
   go_enter Tryz.func113,Tryz.ntmps113
   go_wp2
   go_ret
   exact ⟨rfl,rfl⟩
  ·rw [if_neg (by omega)]
   clear h
   go_enter Tryz.func113,Tryz.ntmps113
   go_wp2
   go_ret
   exact ⟨rfl,rfl⟩
 ·rw [if_neg (by omega)]
  clear h
  go_enter Tryz.func113,Tryz.ntmps113
  go_wp2
  go_ret
  exact ⟨rfl,rfl⟩
def tv (l:Int):Int:=if l= -9223372036854775808 then l else if l<0 then -l else l
theorem mH {l:Int} (h:0≤l):tv l=l:=by unfold tv;rw [if_neg (by omega),if_neg (by omega)]
theorem pV {l:Int} (h:l<0) (h2: -9223372036854775808<l):tv l= -l:=by unfold tv;rw [if_neg (by omega),if_pos h]
theorem nQ {l:Int} (h:l= -9223372036854775808):tv l=l:=by unfold tv;rw [if_pos h]
theorem IY {l:Int} (h:l= -9223372036854775808):wrap64 (-l)=l:=by subst h;unfold wrap64;omega
theorem mf (l:Int) (h: -9223372036854775808≤l):(0≤l∧tv l=l)∨(l<0∧ -9223372036854775807≤l∧tv l= -l)∨(l<0∧tv l=l∧wrap64 (-l)=l):=by
 by_cases h0:0≤l
 ·exact .inl ⟨h0,mH h0⟩
 ·by_cases h1:l= -9223372036854775808
  ·exact .inr (.inr ⟨by omega,nQ h1,IY h1⟩)
  ·exact .inr (.inl ⟨by omega,by omega,pV (by omega) (by omega)⟩)
def Tr.kQ (T:Tr) (l:Int):Int:=if T.iV (tv l)=true then (if l<0 then -(T.kq (tv l)).v else (T.kq (tv l)).v) else 0
theorem dQ (w:World) (L:ew) (T:Tr) (h:TrAt w L T) (l:Int) (Rx: -9223372036854775808≤l) (V2:l≤9223372036854775807) (vJ:∀v:Int,1≤v→v<T.cells.length→ -1≤(T.kq v).v∧(T.kq v).v≤1):
  Calls Tryz.prog 50 #[.pointer (some ⟨L.a,0,none⟩), .int .i64 l] w fun e w'=>e= .returned (.int .i64 (T.kQ l))∧w=w':=by
 have o1:=h.obj.cell 0
 simp at o1
 unfold Tr.kQ
 rcases mf l Rx with ⟨hl,hv⟩ |⟨hl,jM,hv⟩ |⟨hl,hv,hw⟩
 ·rw [hv]
  clear hv Rx
  cases hb:T.iV l with
  |true=>
   obtain ⟨h0,h1⟩:=Tr.dj hb
   obtain ⟨g,hg,c0,c1,c2,_⟩:=h.hJ (v:=l) (by omega) h1
   rw [hg] at o1
   obtain ⟨y,hy⟩:∃y,(T.kq (l)).v=y:=⟨_,rfl⟩
   have kS:=vJ _ (by omega) h1
   rw [hy] at c0 kS⊢
   rw [if_pos rfl,if_neg (by omega)]
   have HB:=ae hb
   have HH:=ae h
   clear hb h hg hy c1 c2 vJ
   go_enter Tryz.func50,Tryz.ntmps50
   go_wp2_with fail
   refine (dw _ L T HH.o _ true HB.o).mono ?_
   rintro e w1 ⟨rfl,rfl⟩
   go_wp2
   go_ret
   exact ⟨rfl,rfl⟩
  |false=>
   have HB:=ae hb
   have HH:=ae h
   clear hb h
   go_enter Tryz.func50,Tryz.ntmps50
   go_wp2_with fail
   refine (dw _ L T HH.o _ false HB.o).mono ?_
   rintro e w1 ⟨rfl,rfl⟩
   go_wp2
   go_ret
   exact ⟨by simp,rfl⟩
 ·rw [hv]
  clear hv Rx
  cases hb:T.iV (-l) with
  |true=>
   obtain ⟨h0,h1⟩:=Tr.dj hb
   obtain ⟨g,hg,c0,c1,c2,_⟩:=h.hJ (v:= -l) (by omega) h1
   rw [hg] at o1
   obtain ⟨y,hy⟩:∃y,(T.kq (-l)).v=y:=⟨_,rfl⟩
   have kS:=vJ _ (by omega) h1
   rw [hy] at c0 kS⊢
   rw [if_pos rfl,if_pos hl]
   have HB:=ae hb
   have HH:=ae h
   clear hb h hg hy c1 c2 vJ
   go_enter Tryz.func50,Tryz.ntmps50
   go_wp2_with fail
   refine (dw _ L T HH.o _ true HB.o).mono ?_
   rintro e w1 ⟨rfl,rfl⟩
   go_wp2
   go_ret
   exact ⟨rfl,rfl⟩
  |false=>
   have HB:=ae hb
   have HH:=ae h
   clear hb h
   go_enter Tryz.func50,Tryz.ntmps50
   go_wp2_with fail
   refine (dw _ L T HH.o _ false HB.o).mono ?_
   rintro e w1 ⟨rfl,rfl⟩
   go_wp2
   go_ret
   exact ⟨by simp,rfl⟩
 ·have hb:T.iV l=false:=by
   cases hh:T.iV l with
   |false=>rfl
   |true=>have :=(Tr.dj hh).1;omega
  rw [hv,hb]
  have HB:=ae hb
  have HH:=ae h
  clear hb h hv Rx
  go_enter Tryz.func50,Tryz.ntmps50
  go_wp2_with fail
  refine (dw _ L T HH.o _ false HB.o).mono ?_
  rintro e w1 ⟨rfl,rfl⟩
  go_wp2
  go_ret
  exact ⟨by simp,rfl⟩
theorem gy {a:Nat} {x y z:List Nat} (h:(a::(x++(y++z))).Nodup):
  (∀k,k∈x→k≠a∧k∉y∧k∉z)∧(∀k,k∈y→k≠a∧k∉x∧k∉z)∧(∀k,k∈z→k≠a∧k∉x∧k∉y):=by
 simp only [eB,ag,List.nodup_append] at h
 obtain ⟨h1,h2,⟨h3,h4,h5⟩,h6⟩:=h
 refine ⟨fun k hk=>⟨?_,?_,?_⟩,fun k hk=>⟨?_,?_,?_⟩,fun k hk=>⟨?_,?_,?_⟩⟩
 ·rintro rfl;exact h1 (.inl hk)
 ·exact fun hy=>h6 k hk k (.inl hy) rfl
 ·exact fun hz=>h6 k hk k (.inr hz) rfl
 ·rintro rfl;exact h1 (.inr (.inl hk))
 ·exact fun hx=>h6 k hx k (.inl hk) rfl
 ·exact fun hz=>h5 k hk k hz rfl
 ·rintro rfl;exact h1 (.inr (.inr hk))
 ·exact fun hx=>h6 k hx k (.inr hk) rfl
 ·exact fun hy=>h5 k hy k hk rfl
def ew.ext (L L':ew) (w:World):Prop:=L'.a=L.a∧∀k,k∈L'.fp→k∈L.fp∨w.heap.size≤k
theorem ew.co (L:ew) (w:World):L.ext L w:=⟨rfl,fun _ h=> .inl h⟩
theorem ew.aX {L M N:ew} {w w':World} {S:List Nat} (h:L.ext M w) (k:M.ext N w') (hf:Fr S w w'):L.ext N w:=
 ⟨k.1.trans h.1,fun x hx=>(k.2 x hx).elim (fun hm=>h.2 x hm) (fun hm=> .inr (aF hf.size hm))⟩
namespace TrAt
variable {w w':World} {L:ew} {T:Tr}
theorem drew (h:TrAt w L T):TrAt w.drew L T:=⟨h.obj,h.cells,h.lits,h.levels,h.nodup⟩
theorem alloc (h:TrAt w L T) (o:Obj):TrAt (w.alloc o) L T:=⟨h.obj.alloc o,h.cells.alloc o,h.lits.alloc o,h.levels.alloc o,h.nodup⟩
theorem fr {S:List Nat} (h:TrAt w L T) (hf:Fr S w w') (hd:∀k,k∈L.fp→k∉S):TrAt w' L T:=
 ⟨hf.at_ h.obj (hd _ (by simp [ew.fp])),h.cells.fr hf fun k hk=>hd k (by simp [ew.fp,hk]),h.lits.fr hf fun k hk=>hd k (by simp [ew.fp,hk]),h.levels.fr hf fun k hk=>hd k (by simp [ew.fp,hk]),h.nodup⟩
theorem lt (h:TrAt w L T):∀k,k∈L.fp→k<w.heap.size:=by
 intro k hk
 simp only [ew.fp,av,ag] at hk
 rcases hk with rfl |hk |hk |hk
 ·exact h.obj.lt
 ·exact h.cells.lt k hk
 ·exact h.lits.lt k hk
 ·exact h.levels.lt k hk
theorem IM (h:TrAt w L T) {g:Nat} (hg:L.A1=some ⟨g,0,none⟩) {i:Nat} (hi:i<T.cells.length) (x:jE):
  TrAt (((w.setCell ⟨g,i*3,none⟩ (.int .i64 x.v)).setCell ⟨g,i*3+1,none⟩ (.int .i64 x.l)).setCell ⟨g,i*3+2,none⟩ (.int .i64 x.r)) L { T with cells:=T.cells.set i x }:=by
 obtain ⟨h1,h2,h3⟩:=gy h.nodup
 have hm:g∈ap L.A1:=by simp [hg,ap]
 have hf:Fr [g] w (((w.setCell ⟨g,i*3,none⟩ (.int .i64 x.v)).setCell ⟨g,i*3+1,none⟩ (.int .i64 x.l)).setCell ⟨g,i*3+2,none⟩ (.int .i64 x.r)):=
  (((Fr.refl [g] w).setCell (.inl (by simp)) _).setCell (.inl (by simp)) _).setCell (.inl (by simp)) _
 have ne:∀k,k≠g→k∉[g]:=fun k e=>by simpa using e
 refine ⟨?_,?_,h.lits.fr hf fun k hk=>ne k (fun e=>(h2 k hk).2.1 (e▸hm)),h.levels.fr hf fun k hk=>ne k (fun e=>(h3 k hk).2.1 (e▸hm)),h.nodup⟩
 ·have :=hf.at_ h.obj (ne _ (fun e=>(h1 g hm).1 e.symm))
  simpa using this
 ·have :=h.cells
  rw [hg] at this⊢
  exact this.eo hi x
theorem oP (w:World) (L:ew) {g:Nat} (hg:L.A1=some ⟨g,0,none⟩) (i j k:Nat) (x y z:Value):Fr L.fp w (((w.setCell ⟨g,i,none⟩ x).setCell ⟨g,j,none⟩ y).setCell ⟨g,k,none⟩ z):=
 (((Fr.refl L.fp w).setCell (.inl (by simp [ew.fp,hg,ap])) _).setCell (.inl (by simp [ew.fp,hg,ap])) _).setCell (.inl (by simp [ew.fp,hg,ap])) _
theorem Ha (h:TrAt w L T) {g cap:Nat} {lits:List Int} (hi:Ints w' (some ⟨g,0,none⟩) cap lits) (hf:Fr (ap L.A2) w w') (hg:g∈ap L.A2∨w.heap.size≤g):
  TrAt (w'.setCell ⟨L.a,1,none⟩ (.slice (some ⟨g,0,none⟩) lits.length cap)) { L with A2:=some ⟨g,0,none⟩,c2:=cap } { T with lits:=lits }∧
  L.ext { L with A2:=some ⟨g,0,none⟩,c2:=cap } w∧Fr L.fp w (w'.setCell ⟨L.a,1,none⟩ (.slice (some ⟨g,0,none⟩) lits.length cap)):=by
 obtain ⟨h1,h2,h3⟩:=gy h.nodup
 have bM:=h.lt
 have nG:g≠L.a∧g∉ap L.A1∧g∉ap L.A3:=by
  rcases hg with q |q
  ·exact h2 g q
  ·refine ⟨?_,fun k=> ?_,fun k=> ?_⟩
   ·have :=h.obj.lt;omega
   ·have :=h.cells.lt _ k;omega
   ·have :=h.levels.lt _ k;omega
 have bG:ap (some ⟨g,0,none⟩)=[g]:=rfl
 refine ⟨⟨?_,?_,?_,?_,?_⟩,⟨rfl,?_⟩,?_⟩
 ·have :=(hf.at_ h.obj (fun k=>(h2 _ k).1 rfl)).eo 1 (.slice (some ⟨g,0,none⟩) lits.length cap)
  simpa using this
 ·exact (h.cells.fr hf fun k hk pI=>(h1 k hk).2.1 pI).gh (fun k=>(h1 _ k).1 rfl) _
 ·exact hi.gh (by rw [bG];simpa using fun e=>nG.1 e.symm) _
 ·exact (h.levels.fr hf fun k hk pI=>(h3 k hk).2.2 pI).gh (fun k=>(h3 _ k).1 rfl) _
 ·have hn:=h.nodup
  simp only [ew.fp,eB,ag,List.nodup_append,bG,ah,cK,not_false_eq_true,List.nodup_nil,true_and] at hn⊢
  obtain ⟨n1,n2,⟨n3,n4,n5⟩,n6⟩:=hn
  refine ⟨?_,n2,⟨n4,?_⟩,?_⟩
  ·rintro (hk |hk |hk)
   ·exact n1 (.inl hk)
   ·exact nG.1 hk.symm
   ·exact n1 (.inr (.inr hk))
  ·intro a ha b hb e
   subst ha
   subst e
   exact nG.2.2 hb
  ·intro k hk b hb e
   subst e
   rcases hb with hb |hb
   ·subst hb
    exact nG.2.1 hk
   ·exact n6 k hk k (.inr hb) rfl
 ·intro k hk
  simp only [ew.fp,bG,av,ag,cK,or_false] at hk⊢
  rcases hk with hk |hk |hk |hk
  ·exact .inl (.inl hk)
  ·exact .inl (.inr (.inl hk))
  ·subst hk;exact hg.imp (fun q=> .inr (.inr (.inl q))) id
  ·exact .inl (.inr (.inr (.inr hk)))
 ·exact (hf.mono (T:=L.fp) fun k hk=> .inl (by simp [ew.fp,hk])).setCell (.inl (by simp [ew.fp])) _
end TrAt
def Tr.n8 (T:Tr) (l r:Int):Tr:={ cells:=T.cells.set (tv l).toNat ⟨if l<0 then -1 else 1,T.levels.length,r⟩,lits:=T.lits++[l],levels:=T.levels }
theorem BF (w:World) (L:ew) (T:Tr) (h:TrAt w L T) (l r:Int) (hl:0≤l) (V2:l≤9223372036854775807) (hb:T.iV (l)=true) (hf:T.kq (l)=jE.free) (hlen:T.lits.length<17592186044416):
  Calls Tryz.prog 53 #[.pointer (some ⟨L.a,0,none⟩), .int .i64 l, .int .i64 r] w fun e w'=>e= .returned (.bool true)∧∃L',TrAt w' L' (T.n8 l r)∧L.ext L' w∧Fr L.fp w w':=by
 have o0:=h.obj.cell 0
 have o1:=h.obj.cell 1
 have o2:=h.obj.cell 2
 simp at o0 o1 o2
 obtain ⟨h0,h1⟩:=Tr.dj hb
 obtain ⟨g,hg,c0,c1,c2,tX⟩:=h.hJ (v:=l) (by omega) h1
 rw [hf] at c0 c1 c2
 simp only [jE.free] at c0 c1 c2
 rw [hg] at o0
 have f0:=tX (l.toNat*3)
 have f1:=tX (l.toNat*3+1)
 have f2:=tX (l.toNat*3+2)
 have bM:=h.lt L.a (by simp [ew.fp])
 have VU:=h.lt g (by simp [ew.fp,hg,ap])
 have HB:=ae hb
 have HH:=ae h
 have HG:=ae hg
 clear hb h hf hg tX
 have HV:al (tv l=l):=mH hl
 go_enter Tryz.func53,Tryz.ntmps53
 go_wp2_with fail
 refine (dw _ L T HH.o _ true HB.o).mono ?_
 rintro e w1 ⟨rfl,rfl⟩
 go_wp2
 go_region
 obtain ⟨V,hV⟩:∃V,V=((((w.setCell ⟨g,l.toNat*3,none⟩ (.int .i64 1)).setCell ⟨g,l.toNat*3+1,none⟩ (.int .i64 T.levels.length)).setCell ⟨g,l.toNat*3+2,none⟩ (.int .i64 r)).alloc (.cells #[.int .i64 1, .int .i64 T.levels.length, .int .i64 r] 110)).drew:=⟨_,rfl⟩
 rw [←hV]
 have hA:TrAt V L { T with cells:=T.cells.set l.toNat ⟨1,T.levels.length,r⟩}:=by
  rw [hV];exact ((HH.o.IM HG.o (i:=l.toNat) (by omega) ⟨1,T.levels.length,r⟩).alloc _).drew
 have hF:Fr L.fp w V:=by
  rw [hV];exact ((TrAt.oP w L HG.o _ _ _ _ _ _).alloc _).drew
 clear hV o0 o1 o2 c0 c1 c2 f0 f1 f2 VU bM
 have o1:=hA.obj.cell 1
 have q1:=hA.obj.frozen 1
 simp at o1
 have bM:=hA.lt L.a (by simp [ew.fp])
 have HA:=ae hA
 have HF:=ae hF
 have HN:al (L.a∉ap L.A2):=fun hk=>((gy hA.nodup).2.1 _ hk).1 rfl
 clear hA hF
 go_wp2_with (at_builtin;refine cT _ rfl _ _ rfl L.A2 L.c2 T.lits _ rfl rfl (HA.o.lits.alloc _) ⟨V.heap.size,0,none⟩ 1 l rfl (by simp) (by omega) ?_;intro g2 cap w2 ns bZ eY jz;have q2:=bZ.at_ (HA.o.obj.alloc _) HN.o;have q3:=q2.cell 1;have q4:=q2.frozen 1;simp at q3;have HI:=ae ns;have cH:=ae bZ;have rV:=ae eY;clear q2 ns bZ eY jz)
 go_ret
 refine ⟨rfl,?_⟩
 have eY:g2∈ap L.A2∨(V.alloc (.cells #[.int .i64 l] 3)).heap.size≤g2:=rV.o.imp id (fun e=>by rw [e];exact au _)
 obtain ⟨hN,hX,hF3⟩:=(HA.o.alloc _).Ha HI.o cH.o eY
 refine ⟨_,?_,ew.aX (ew.co L w) ⟨hX.1,fun k hk=>(hX.2 k hk).imp id (fun h=> ?_)⟩ HF.o,?_⟩
 ·have :=hN
  unfold Tr.n8
  rw [HV.o,if_neg (by omega)]
  simpa using this
 ·have :V.heap.size≤(V.alloc (.cells #[.int .i64 l] 3)).heap.size:=by simp
  exact aF this h
 ·have :=(HF.o.alloc (.cells #[.int .i64 l] 3)).trans hF3 (fun k hk=> .inl hk)
  simpa using this
theorem BG (w:World) (L:ew) (T:Tr) (h:TrAt w L T) (l r:Int) (hl:l<0) (Rx: -9223372036854775807≤l) (hb:T.iV (-l)=true) (hf:T.kq (-l)=jE.free) (hlen:T.lits.length<17592186044416):
  Calls Tryz.prog 53 #[.pointer (some ⟨L.a,0,none⟩), .int .i64 l, .int .i64 r] w fun e w'=>e= .returned (.bool true)∧∃L',TrAt w' L' (T.n8 l r)∧L.ext L' w∧Fr L.fp w w':=by
 have o0:=h.obj.cell 0
 have o1:=h.obj.cell 1
 have o2:=h.obj.cell 2
 simp at o0 o1 o2
 obtain ⟨h0,h1⟩:=Tr.dj hb
 obtain ⟨g,hg,c0,c1,c2,tX⟩:=h.hJ (v:= -l) (by omega) h1
 rw [hf] at c0 c1 c2
 simp only [jE.free] at c0 c1 c2
 rw [hg] at o0
 have f0:=tX ((-l).toNat*3)
 have f1:=tX ((-l).toNat*3+1)
 have f2:=tX ((-l).toNat*3+2)
 have bM:=h.lt L.a (by simp [ew.fp])
 have VU:=h.lt g (by simp [ew.fp,hg,ap])
 have HB:=ae hb
 have HH:=ae h
 have HG:=ae hg
 clear hb h hf hg tX
 have HV:al (tv l= -l):=pV hl (by omega)
 go_enter Tryz.func53,Tryz.ntmps53
 go_wp2_with fail
 refine (dw _ L T HH.o _ true HB.o).mono ?_
 rintro e w1 ⟨rfl,rfl⟩
 go_wp2
 go_region
 obtain ⟨V,hV⟩:∃V,V=((((w.setCell ⟨g,(-l).toNat*3,none⟩ (.int .i64 (-1))).setCell ⟨g,(-l).toNat*3+1,none⟩ (.int .i64 T.levels.length)).setCell ⟨g,(-l).toNat*3+2,none⟩ (.int .i64 r)).alloc (.cells #[.int .i64 (-1), .int .i64 T.levels.length, .int .i64 r] 110)).drew:=⟨_,rfl⟩
 rw [←hV]
 have hA:TrAt V L { T with cells:=T.cells.set (-l).toNat ⟨(-1),T.levels.length,r⟩}:=by
  rw [hV];exact ((HH.o.IM HG.o (i:=(-l).toNat) (by omega) ⟨(-1),T.levels.length,r⟩).alloc _).drew
 have hF:Fr L.fp w V:=by
  rw [hV];exact ((TrAt.oP w L HG.o _ _ _ _ _ _).alloc _).drew
 clear hV o0 o1 o2 c0 c1 c2 f0 f1 f2 VU bM
 have o1:=hA.obj.cell 1
 have q1:=hA.obj.frozen 1
 simp at o1
 have bM:=hA.lt L.a (by simp [ew.fp])
 have HA:=ae hA
 have HF:=ae hF
 have HN:al (L.a∉ap L.A2):=fun hk=>((gy hA.nodup).2.1 _ hk).1 rfl
 clear hA hF
 go_wp2_with (at_builtin;refine cT _ rfl _ _ rfl L.A2 L.c2 T.lits _ rfl rfl (HA.o.lits.alloc _) ⟨V.heap.size,0,none⟩ 1 l rfl (by simp) (by omega) ?_;intro g2 cap w2 ns bZ eY jz;have q2:=bZ.at_ (HA.o.obj.alloc _) HN.o;have q3:=q2.cell 1;have q4:=q2.frozen 1;simp at q3;have HI:=ae ns;have cH:=ae bZ;have rV:=ae eY;clear q2 ns bZ eY jz)
 go_ret
 refine ⟨rfl,?_⟩
 have eY:g2∈ap L.A2∨(V.alloc (.cells #[.int .i64 l] 3)).heap.size≤g2:=rV.o.imp id (fun e=>by rw [e];exact au _)
 obtain ⟨hN,hX,hF3⟩:=(HA.o.alloc _).Ha HI.o cH.o eY
 refine ⟨_,?_,ew.aX (ew.co L w) ⟨hX.1,fun k hk=>(hX.2 k hk).imp id (fun h=> ?_)⟩ HF.o,?_⟩
 ·have :=hN
  unfold Tr.n8
  rw [HV.o,if_pos hl]
  simpa using this
 ·have :V.heap.size≤(V.alloc (.cells #[.int .i64 l] 3)).heap.size:=by simp
  exact aF this h
 ·have :=(HF.o.alloc (.cells #[.int .i64 l] 3)).trans hF3 (fun k hk=> .inl hk)
  simpa using this
theorem TrAt.IX {w w':World} {L:ew} {T:Tr} (h:TrAt w L T) {g cap:Nat} {lv:List Int} (hi:Ints w' (some ⟨g,0,none⟩) cap lv) (hf:Fr (ap L.A3) w w') (hg:g∈ap L.A3∨w.heap.size≤g):
  TrAt (w'.setCell ⟨L.a,2,none⟩ (.slice (some ⟨g,0,none⟩) lv.length cap)) { L with A3:=some ⟨g,0,none⟩,c3:=cap } { T with levels:=lv }∧
  L.ext { L with A3:=some ⟨g,0,none⟩,c3:=cap } w∧Fr L.fp w (w'.setCell ⟨L.a,2,none⟩ (.slice (some ⟨g,0,none⟩) lv.length cap)):=by
 obtain ⟨h1,h2,h3⟩:=gy h.nodup
 have nG:g≠L.a∧g∉ap L.A1∧g∉ap L.A2:=by
  rcases hg with q |q
  ·exact h3 g q
  ·refine ⟨?_,fun k=> ?_,fun k=> ?_⟩
   ·have :=h.obj.lt;omega
   ·have :=h.cells.lt _ k;omega
   ·have :=h.lits.lt _ k;omega
 have bG:ap (some ⟨g,0,none⟩)=[g]:=rfl
 refine ⟨⟨?_,?_,?_,?_,?_⟩,⟨rfl,?_⟩,?_⟩
 ·have :=(hf.at_ h.obj (fun k=>(h3 _ k).1 rfl)).eo 2 (.slice (some ⟨g,0,none⟩) lv.length cap)
  simpa using this
 ·exact (h.cells.fr hf fun k hk pI=>(h1 k hk).2.2 pI).gh (fun k=>(h1 _ k).1 rfl) _
 ·exact (h.lits.fr hf fun k hk pI=>(h2 k hk).2.2 pI).gh (fun k=>(h2 _ k).1 rfl) _
 ·exact hi.gh (by rw [bG];simpa using fun e=>nG.1 e.symm) _
 ·have hn:=h.nodup
  simp only [ew.fp,eB,ag,List.nodup_append,bG,ah,cK,not_false_eq_true,List.nodup_nil,true_and] at hn⊢
  obtain ⟨n1,n2,⟨n3,n4,n5⟩,n6⟩:=hn
  refine ⟨?_,n2,⟨n3,?_⟩,?_⟩
  ·rintro (hk |hk |hk)
   ·exact n1 (.inl hk)
   ·exact n1 (.inr (.inl hk))
   ·exact nG.1 hk.symm
  ·intro a ha b hb e
   subst hb
   subst e
   exact nG.2.2 ha
  ·intro k hk b hb e
   subst e
   rcases hb with hb |hb
   ·exact n6 k hk k (.inl hb) rfl
   ·subst hb
    exact nG.2.1 hk
 ·intro k hk
  simp only [ew.fp,bG,av,ag,cK,or_false] at hk⊢
  rcases hk with hk |hk |hk |hk
  ·exact .inl (.inl hk)
  ·exact .inl (.inr (.inl hk))
  ·exact .inl (.inr (.inr (.inl hk)))
  ·subst hk;exact hg.imp (fun q=> .inr (.inr (.inr q))) id
 ·exact (hf.mono (T:=L.fp) fun k hk=> .inl (by simp [ew.fp,hk])).setCell (.inl (by simp [ew.fp])) _
def Tr.iI (T:Tr) (l:Int):Bool:=T.iV (tv l)&&decide ((T.kq (tv l)).v=0∧(T.kq (tv l)).l= -1∧(T.kq (tv l)).r=0)
theorem tH (w:World) (L:ew) (T:Tr) (h:TrAt w L T) (l r:Int) (hl:0≤l) (V2:l≤9223372036854775807) (hb:T.iV (l)=false):
  Calls Tryz.prog 53 #[.pointer (some ⟨L.a,0,none⟩), .int .i64 l, .int .i64 r] w fun e w'=>e= .returned (.bool false)∧w=w':=by
 have HB:=ae hb
 have HH:=ae h
 clear hb h
 go_enter Tryz.func53,Tryz.ntmps53
 go_wp2_with fail
 refine (dw _ L T HH.o _ false HB.o).mono ?_
 rintro e w1 ⟨rfl,rfl⟩
 go_wp2
 go_ret
 exact ⟨rfl,rfl⟩
theorem tI (w:World) (L:ew) (T:Tr) (h:TrAt w L T) (l r:Int) (hl:l<0) (Rx: -9223372036854775807≤l) (hb:T.iV (-l)=false):
  Calls Tryz.prog 53 #[.pointer (some ⟨L.a,0,none⟩), .int .i64 l, .int .i64 r] w fun e w'=>e= .returned (.bool false)∧w=w':=by
 have HB:=ae hb
 have HH:=ae h
 clear hb h
 go_enter Tryz.func53,Tryz.ntmps53
 go_wp2_with fail
 refine (dw _ L T HH.o _ false HB.o).mono ?_
 rintro e w1 ⟨rfl,rfl⟩
 go_wp2
 go_ret
 exact ⟨rfl,rfl⟩
theorem tJ (w:World) (L:ew) (T:Tr) (h:TrAt w L T) (l r:Int) (hl:l<0) (hw:wrap64 (-l)=l) (hb:T.iV (l)=false):
  Calls Tryz.prog 53 #[.pointer (some ⟨L.a,0,none⟩), .int .i64 l, .int .i64 r] w fun e w'=>e= .returned (.bool false)∧w=w':=by
 have HB:=ae hb
 have HH:=ae h
 clear hb h
 go_enter Tryz.func53,Tryz.ntmps53
 go_wp2_with fail
 refine (dw _ L T HH.o _ false HB.o).mono ?_
 rintro e w1 ⟨rfl,rfl⟩
 go_wp2
 go_ret
 exact ⟨rfl,rfl⟩
theorem qI (w:World) (L:ew) (T:Tr) (h:TrAt w L T) (l r:Int) (hl:0≤l) (V2:l≤9223372036854775807) (hb:T.iV (l)=true) (hf:¬((T.kq (l)).v=0∧(T.kq (l)).l= -1∧(T.kq (l)).r=0)):
  Calls Tryz.prog 53 #[.pointer (some ⟨L.a,0,none⟩), .int .i64 l, .int .i64 r] w fun e w'=>e= .returned (.bool false)∧w=w':=by
 have o0:=h.obj.cell 0
 simp at o0
 obtain ⟨h0,h1⟩:=Tr.dj hb
 obtain ⟨g,hg,c0,c1,c2,tX⟩:=h.hJ (v:=l) (by omega) h1
 rw [hg] at o0
 obtain ⟨x,hx⟩:∃x,(T.kq (l)).v=x:=⟨_,rfl⟩
 obtain ⟨y,hy⟩:∃y,(T.kq (l)).l=y:=⟨_,rfl⟩
 obtain ⟨z,hz⟩:∃z,(T.kq (l)).r=z:=⟨_,rfl⟩
 rw [hx] at c0 hf
 rw [hy] at c1 hf
 rw [hz] at c2 hf
 have HB:=ae hb
 have HH:=ae h
 clear hb h hg tX hx hy hz
 by_cases e0:x=0
 ·subst e0
  by_cases e1:y= -1
  ·subst e1
   have e2:z≠0:=fun e=>hf ⟨rfl,rfl,e⟩
   clear hf
   go_enter Tryz.func53,Tryz.ntmps53
   go_wp2_with fail
   refine (dw _ L T HH.o _ true HB.o).mono ?_
   rintro e w1 ⟨rfl,rfl⟩
   go_wp2
   go_ret
   exact ⟨rfl,rfl⟩
  ·clear hf
   go_enter Tryz.func53,Tryz.ntmps53
   go_wp2_with fail
   refine (dw _ L T HH.o _ true HB.o).mono ?_
   rintro e w1 ⟨rfl,rfl⟩
   go_wp2
   go_ret
   exact ⟨rfl,rfl⟩
 ·clear hf
  go_enter Tryz.func53,Tryz.ntmps53
  go_wp2_with fail
  refine (dw _ L T HH.o _ true HB.o).mono ?_
  rintro e w1 ⟨rfl,rfl⟩
  go_wp2
  go_ret
  exact ⟨rfl,rfl⟩
theorem qJ (w:World) (L:ew) (T:Tr) (h:TrAt w L T) (l r:Int) (hl:l<0) (Rx: -9223372036854775807≤l) (hb:T.iV (-l)=true) (hf:¬((T.kq (-l)).v=0∧(T.kq (-l)).l= -1∧(T.kq (-l)).r=0)):
  Calls Tryz.prog 53 #[.pointer (some ⟨L.a,0,none⟩), .int .i64 l, .int .i64 r] w fun e w'=>e= .returned (.bool false)∧w=w':=by
 have o0:=h.obj.cell 0
 simp at o0
 obtain ⟨h0,h1⟩:=Tr.dj hb
 obtain ⟨g,hg,c0,c1,c2,tX⟩:=h.hJ (v:= -l) (by omega) h1
 rw [hg] at o0
 obtain ⟨x,hx⟩:∃x,(T.kq (-l)).v=x:=⟨_,rfl⟩
 obtain ⟨y,hy⟩:∃y,(T.kq (-l)).l=y:=⟨_,rfl⟩
 obtain ⟨z,hz⟩:∃z,(T.kq (-l)).r=z:=⟨_,rfl⟩
 rw [hx] at c0 hf
 rw [hy] at c1 hf
 rw [hz] at c2 hf
 have HB:=ae hb
 have HH:=ae h
 clear hb h hg tX hx hy hz
 by_cases e0:x=0
 ·subst e0
  by_cases e1:y= -1
  ·subst e1
   have e2:z≠0:=fun e=>hf ⟨rfl,rfl,e⟩
   clear hf
   go_enter Tryz.func53,Tryz.ntmps53
   go_wp2_with fail
   refine (dw _ L T HH.o _ true HB.o).mono ?_
   rintro e w1 ⟨rfl,rfl⟩
   go_wp2
   go_ret
   exact ⟨rfl,rfl⟩
  ·clear hf
   go_enter Tryz.func53,Tryz.ntmps53
   go_wp2_with fail
   refine (dw _ L T HH.o _ true HB.o).mono ?_
   rintro e w1 ⟨rfl,rfl⟩
   go_wp2
   go_ret
   exact ⟨rfl,rfl⟩
 ·clear hf
  go_enter Tryz.func53,Tryz.ntmps53
  go_wp2_with fail
  refine (dw _ L T HH.o _ true HB.o).mono ?_
  rintro e w1 ⟨rfl,rfl⟩
  go_wp2
  go_ret
  exact ⟨rfl,rfl⟩
theorem Tr.Ic {T:Tr} {v:Int} (h:(T.kq v).v=0∧(T.kq v).l= -1∧(T.kq v).r=0):T.kq v=jE.free:=by
 obtain ⟨a,b,c⟩:=h
 cases hc:T.kq v with
 |mk x y z=>rw [hc] at a b c;simp only at a b c;subst a;subst b;subst c;rfl
theorem rY (w:World) (L:ew) (T:Tr) (h:TrAt w L T) (l r:Int) (Rx: -9223372036854775808≤l) (V2:l≤9223372036854775807) (hlen:T.lits.length<17592186044416):
  Calls Tryz.prog 53 #[.pointer (some ⟨L.a,0,none⟩), .int .i64 l, .int .i64 r] w fun e w'=>e= .returned (.bool (T.iI l))∧∃L',TrAt w' L' (if T.iI l=true then T.n8 l r else T)∧L.ext L' w∧Fr L.fp w w':=by
 have stay:∀e w',(e=Ending.returned (.bool false)∧w=w')→T.iI l=false→(e= .returned (.bool (T.iI l))∧∃L',TrAt w' L' (if T.iI l=true then T.n8 l r else T)∧L.ext L' w∧Fr L.fp w w'):=by
  rintro e w' ⟨rfl,rfl⟩ hp
  rw [hp]
  exact ⟨rfl,L,h,L.co w,Fr.refl _ _⟩
 have go:∀e w',(e=Ending.returned (.bool true)∧∃L',TrAt w' L' (T.n8 l r)∧L.ext L' w∧Fr L.fp w w')→T.iI l=true→(e= .returned (.bool (T.iI l))∧∃L',TrAt w' L' (if T.iI l=true then T.n8 l r else T)∧L.ext L' w∧Fr L.fp w w'):=by
  rintro e w' ⟨rfl,h⟩ hp
  rw [hp]
  exact ⟨rfl,h⟩
 unfold Tr.iI at stay go⊢
 rcases mf l Rx with ⟨hl,hv⟩ |⟨hl,jM,hv⟩ |⟨hl,hv,hw⟩
 ·rw [hv] at stay go⊢
  cases hb:T.iV l with
  |false=>exact (tH w L T h l r hl V2 hb).mono fun e w' he=>by rw [hb] at stay;exact stay e w' he rfl
  |true=>
   by_cases hf:(T.kq l).v=0∧(T.kq l).l= -1∧(T.kq l).r=0
   ·exact (BF w L T h l r hl V2 hb (Tr.Ic hf) hlen).mono fun e w' he=>by rw [hb] at go;exact go e w' he (by simp [hf])
   ·exact (qI w L T h l r hl V2 hb hf).mono fun e w' he=>by rw [hb] at stay;exact stay e w' he (by simp [hf])
 ·rw [hv] at stay go⊢
  cases hb:T.iV (-l) with
  |false=>exact (tI w L T h l r hl jM hb).mono fun e w' he=>by rw [hb] at stay;exact stay e w' he rfl
  |true=>
   by_cases hf:(T.kq (-l)).v=0∧(T.kq (-l)).l= -1∧(T.kq (-l)).r=0
   ·exact (BG w L T h l r hl jM hb (Tr.Ic hf) hlen).mono fun e w' he=>by rw [hb] at go;exact go e w' he (by simp [hf])
   ·exact (qJ w L T h l r hl jM hb hf).mono fun e w' he=>by rw [hb] at stay;exact stay e w' he (by simp [hf])
 ·have hb:T.iV l=false:=by
   cases hh:T.iV l with
   |false=>rfl
   |true=>have :=(Tr.dj hh).1;omega
  rw [hv,hb] at stay⊢
  exact (tJ w L T h l r hl hw hb).mono fun e w' he=>stay e w' he rfl
def Tr.wK (T:Tr):Tr:={ T with levels:=T.levels++[(T.lits.length:Int)] }
theorem zF (w:World) (L:ew) (T:Tr) (h:TrAt w L T) (hc:0<T.cells.length) (hlen:T.levels.length<17592186044416):
  Calls Tryz.prog 138 #[.pointer (some ⟨L.a,0,none⟩)] w fun e w'=>e= .returned (.int .i64 (T.levels.length+1:Nat))∧∃L',TrAt w' L' T.wK∧L.ext L' w∧Fr L.fp w w':=by
 have o0:=h.obj.cell 0
 simp at o0
 have ho:=h.obj
 have HN:al (L.a∉ap L.A3):=fun hk=>((gy h.nodup).2.2 _ hk).1 rfl
 have HH:=ae h
 have HO:=ae ho
 clear h ho
 go_enter Tryz.func138,Tryz.ntmps138
 go_wp2_with fail
 refine wp_region_noPanic ?_
 refine bp (fun w':World=>At w' L.a 113 #[.slice L.A1 T.cells.length L.c1, .slice L.A2 T.lits.length L.c2, .slice L.A3 T.levels.length L.c3]) 14 (by kernel_rfl) (HO.o.drew) (fun db=> ?_)
 refine TB 10 [(0,[]),(1,[]),(2,[]),(3,[]),(4,[4,14]),(5,[]),(6,[]),(7,[]),(8,[8,14]),(9,[])] db ?_ (hr:=by (repeat (apply Ss;rfl;rfl;(intro w cm;(try (have cm:=cm.resolve_left (List.cons_ne_nil _ _);(have s1:=cm.cell 1;have s2:=cm.cell 2;simp at s1 s2)));go_simp<;>with_reducible rfl);try simp only [Act.put,q5,q6,q7]));exact Sr);intro db
 refine R2 10 db fun K hK aH=> ?_
 go_simp
 refine hK.out _ _ (.inr ?_) (fun mn=> ?_)
 ·first |exact aH.alloc _ |exact kf.at_ aH HN.o
 clear hK K
 try simp only [Act.put,q5,q6,q7]
 refine R2 11 mn fun K hK aH=> ?_
 (refine bT rfl _ _ rfl L.A3 L.c3 T.levels _ rfl rfl ?sB _ 1 T.lits.length rfl ?qg (by omega) ?_;(case sB=>exact HH.o.levels.drew.alloc _);(case qg=>simp);intro gA cA wA JR kf JS XP)
 refine hK.out _ _ (.inr ?_) (fun jC=> ?_)
 ·first |exact aH.alloc _ |exact kf.at_ aH HN.o
 clear hK K
 try simp only [Act.put,q5,q6,q7]
 refine TB 2 [(12,[]),(13,[])] jC ?_;intro jC
 refine R2 14 jC fun K hK aH=> ?_
 (have b1:=aH.cell 2;have b3:=aH.frozen 2;simp at b1;go_simp)
 refine hK.out _ _ (.inl rfl) (fun ank=> ?_)
 clear hK K
 try simp only [Act.put,q5,q6,q7]
 refine fo ?_
 have qA:gA∈ap L.A3∨(w.drew.alloc (.cells #[.int .i64 (T.lits.length:Int)] 3)).heap.size≤gA:=JS.imp id (fun e=>by rw [e];exact au _)
 obtain ⟨r1,r2,r3⟩:=(HH.o.drew.alloc _).IX JR kf qA
 have HI:=ae r1
 have HX:=ae r2
 have HF:=ae r3
 have b1:=r1.obj.cell 2
 simp at b1
 clear r1 r2 r3
 go_wp2
 go_ret
 refine ⟨rfl,_,by simpa [Tr.wK] using HI.o,⟨HX.o.1,fun k hk=>(HX.o.2 k hk).imp id (fun h=>by simp at h;omega)⟩,?_⟩
 have :=((Fr.refl L.fp w).drew.alloc (.cells #[.int .i64 (T.lits.length:Int)] 3)).trans HF.o (fun k hk=> .inl hk)
 simpa using this
def fY (cs:List jE) (ls:List Int):List jE:=ls.foldl (fun cs l=>cs.set (tv l).toNat jE.free) cs
theorem lz (cs:List jE) (ls:List Int) (l:Int):fY cs (ls++[l])=(fY cs ls).set (tv l).toNat jE.free:=by simp [fY]
theorem dK (cs:List jE) (ls:List Int):(fY cs ls).length=cs.length:=by
 unfold fY
 induction ls generalizing cs with
 |nil=>rfl
 |cons l ls ih=>rw [List.foldl_cons,ih,aw]
theorem lU {α:Type} [Inhabited α] (l:List α) (j:Nat) (h:j<l.length):l.take (j+1)=l.take j++[l[j]!]:=by
 rw [List.take_add_one,af h,aa,af h];rfl
theorem wD {α:Type} [Inhabited α] (l:List α) (n j:Nat):(l.drop n)[j]! =l[n+j]! :=by
 simp [aa,List.getElem?_drop]
def Tr.wO (T:Tr) (m n:Nat):Tr:={ cells:=fY T.cells (T.lits.drop n),lits:=T.lits.take n,levels:=T.levels.take m }
def Tr.cV (T:Tr) (m:Nat):Tr:=if m<T.levels.length then T.wO m (T.levels[m]!).toNat else T
theorem TrAt.cut {w:World} {L:ew} {T:Tr} (h:TrAt w L T) (n m:Nat) (hn:n≤T.lits.length) (hm:m≤T.levels.length):
  TrAt ((w.setCell ⟨L.a,1,none⟩ (.slice L.A2 n L.c2)).setCell ⟨L.a,2,none⟩ (.slice L.A3 m L.c3)) L { T with lits:=T.lits.take n,levels:=T.levels.take m }:=by
 obtain ⟨h1,h2,h3⟩:=gy h.nodup
 have n1:L.a∉ap L.A1:=fun k=>(h1 _ k).1 rfl
 have n2:L.a∉ap L.A2:=fun k=>(h2 _ k).1 rfl
 have n3:L.a∉ap L.A3:=fun k=>(h3 _ k).1 rfl
 refine ⟨?_,(h.cells.gh n1 _).gh n1 _,((h.lits.py n).gh n2 _).gh n2 _,((h.levels.py m).gh n3 _).gh n3 _,h.nodup⟩
 have :=(h.obj.eo 1 (.slice L.A2 n L.c2)).eo 2 (.slice L.A3 m L.c3)
 simpa [Nat.min_eq_left hn,Nat.min_eq_left hm] using this
theorem TrAt.Se {w:World} {L:ew} {T:Tr} (h:TrAt w L T) (n m:Nat) (hn:n≤T.lits.length) (hm:m≤T.levels.length):
  TrAt ((w.setCell ⟨L.a,2,none⟩ (.slice L.A3 m L.c3)).setCell ⟨L.a,1,none⟩ (.slice L.A2 n L.c2)) L { T with lits:=T.lits.take n,levels:=T.levels.take m }:=by
 obtain ⟨h1,h2,h3⟩:=gy h.nodup
 have n1:L.a∉ap L.A1:=fun k=>(h1 _ k).1 rfl
 have n2:L.a∉ap L.A2:=fun k=>(h2 _ k).1 rfl
 have n3:L.a∉ap L.A3:=fun k=>(h3 _ k).1 rfl
 refine ⟨?_,(h.cells.gh n1 _).gh n1 _,((h.lits.py n).gh n2 _).gh n2 _,((h.levels.py m).gh n3 _).gh n3 _,h.nodup⟩
 have :=(h.obj.eo 2 (.slice L.A3 m L.c3)).eo 1 (.slice L.A2 n L.c2)
 simpa [Nat.min_eq_left hn,Nat.min_eq_left hm] using this
theorem rZ (w:World) (L:ew) (T:Tr) (h:TrAt w L T) (m:Nat) (hm:T.levels.length≤m):
  Calls Tryz.prog 115 #[.pointer (some ⟨L.a,0,none⟩), .int .i64 m] w fun e w'=>e= .returned (.tuple #[])∧w=w':=by
 have o2:=h.obj.cell 2
 simp at o2
 clear h
 go_enter Tryz.func115,Tryz.ntmps115
 go_wp2_with fail
 refine bodyPost_ret (results_none rfl _ _ _) rfl ?_
 exact ⟨rfl,rfl⟩
theorem tK (w:World) (L:ew) (T:Tr) (h:TrAt w L T) (m:Nat) (hm:m<T.levels.length) (n:Nat) (hn:T.levels[m]! =n) (qw:n≤T.lits.length) (pH:∀j:Nat,j<T.lits.length→T.iV (tv T.lits[j]!)=true):
  Calls Tryz.prog 115 #[.pointer (some ⟨L.a,0,none⟩), .int .i64 m] w fun e w'=>e= .returned (.tuple #[])∧TrAt w' L (T.wO m n)∧Fr L.fp w w':=by
 have o1:=h.obj.cell 1
 have o2:=h.obj.cell 2
 simp at o1 o2
 obtain ⟨g3,Be,_⟩:=h.levels.pos (i:=m) hm
 have c3:=h.levels
 rw [Be] at c3 o2
 have cl:=c3.cell (i:=m) hm
 rw [hn] at cl
 have hm':(m:Int)<T.levels.length:=by omega
 have Ap:decide (T.levels.length≤m)=false:=decide_eq_false (by omega)
 have qf:=h.cells.len
 unfold maxLen at qf
 have H2:=ae h.lits.form
 have HH:=ae h
 have HN:=ae hn
 have HL:=ae pH
 have qs:=ae Be
 have DL:=ae qf
 have VC:(n:Int)≤T.lits.length:=by omega
 have aa1:m≤L.c3:=by
  rcases h.levels.form with ⟨_,_,h0⟩ |⟨_,_,_,h0,_⟩
  ·rw [h0] at hm;simp at hm
  ·omega
 clear h hn pH Be c3 qf
 by_cases bM:n<T.lits.length
 ·rcases H2.o with ⟨hA,hc,he⟩ |⟨g,hA,sE,CG,DZ⟩
  ·rw [he] at bM
   exact absurd bM (aI _)
  rw [hA] at o1
  have HA:=ae hA
  unfold maxLen at DZ
  have ot:n<L.c2:=by omega
  have CF:¬L.c2=n:=by omega
  clear hA H2
  go_enter Tryz.func115,Tryz.ntmps115
  go_wp2_with fail
  clear o1 o2 cl
  try rw [Ap]
  go_loopg [34] (T.lits.length-n) (fun gk i wr=>∃j:Nat,j+gk=T.lits.length-n∧i= .int .i64 j∧TrAt wr L { T with cells:=fY T.cells ((T.lits.drop n).take j) }∧Fr L.fp w wr)
  case atStart=>exact ⟨0,by omega,rfl,by simpa [fY] using HH.o,Fr.refl _ _⟩
  case round=>
   obtain ⟨j,hj,rfl,hT,hF⟩:=hrel
   have o0:=hT.obj.cell 0
   have o1:=hT.obj.cell 1
   have o2:=hT.obj.cell 2
   have oa:=hT.obj.frozen 1
   have ob:=hT.obj.frozen 2
   simp [dK] at o0 o1 o2
   have HF:=ae hF
   have HJ:=ae hj
   clear hF hj
   by_cases DW:j<T.lits.length-n
   ·have V0:(j:Int)<(T.lits.length-n:Nat):=by omega
    have ci:=hT.lits
    rw [HA.o] at ci o1
    have c4:=ci.cell (i:=n+j) (by show n+j<T.lits.length;omega)
    have hx:=HL.o (n+j) (by omega)
    have uF:(T.lits.drop n).take (j+1)=(T.lits.drop n).take j++[T.lits[n+j]!]:=by
     rw [lU _ _ (by simp;omega),wD]
    simp only at c4
    obtain ⟨x,np⟩:∃x,T.lits[n+j]! =x:=⟨_,rfl⟩
    rw [np] at c4 hx uF
    obtain ⟨h0,h1⟩:=Tr.dj hx
    have vQ:((fY T.cells ((T.lits.drop n).take j)).length:Int)=T.cells.length:=by rw [dK]
    have qf:=DL.o
    have HS:=ae uF
    clear ci hx uF np
    by_cases uE:0≤x
    ·have ht:=mH uE
     rw [ht] at h0 h1
     obtain ⟨gc,i9,b0,b1,b2,fz⟩:=hT.hJ (v:=x) (by omega) (by simpa [dK] using h1)
     rw [i9] at o0
     have f0:=fz (x.toNat*3)
     have f1:=fz (x.toNat*3+1)
     have f2:=fz (x.toNat*3+2)
     have hM:=hT.IM i9 (i:=x.toNat) (by rw [dK];omega) jE.free
     have Oq:=TrAt.oP wr L i9 (x.toNat*3) (x.toNat*3+1) (x.toNat*3+2) (.int .i64 0) (.int .i64 (-1)) (.int .i64 0)
     have HM:=ae hM
     have xH:=ae Oq
     have HT:=ae ht
     clear hM Oq ht hT fz i9 vQ
     go_wp2
     go_roundg (gk-1)
     case measure=>have :=HJ.o;omega
     case rel=>exact ⟨j+1,by have :=HJ.o;omega,by go_num,by rw [HS.o,lz,HT.o];exact HM.o,HF.o.aj xH.o⟩
    ·have ij:x<0:=by omega
     have ix: -9223372036854775808<x:=by
      have hb:=HL.o
      by_cases e:x= -9223372036854775808
      ·rw [nQ e] at h0;omega
      ·have J6:=h1
       unfold tv at J6
       rw [if_neg e,if_pos ij] at J6
       omega
     have ht:=pV ij ix
     rw [ht] at h0 h1
     obtain ⟨gc,i9,b0,b1,b2,fz⟩:=hT.hJ (v:= -x) (by omega) (by simpa [dK] using h1)
     rw [i9] at o0
     have f0:=fz ((-x).toNat*3)
     have f1:=fz ((-x).toNat*3+1)
     have f2:=fz ((-x).toNat*3+2)
     have hM:=hT.IM i9 (i:=(-x).toNat) (by rw [dK];omega) jE.free
     have Oq:=TrAt.oP wr L i9 ((-x).toNat*3) ((-x).toNat*3+1) ((-x).toNat*3+2) (.int .i64 0) (.int .i64 (-1)) (.int .i64 0)
     have HM:=ae hM
     have xH:=ae Oq
     have HT:=ae ht
     clear hM Oq ht hT fz i9 vQ
     go_wp2
     go_roundg (gk-1)
     case measure=>have :=HJ.o;omega
     case rel=>exact ⟨j+1,by have :=HJ.o;omega,by go_num,by rw [HS.o,lz,HT.o];exact HM.o,HF.o.aj xH.o⟩
   ·have hje:j=T.lits.length-n:=by have :=HJ.o;omega
    have V0:((T.lits.length-n:Nat):Int)≤j:=by omega
    have Hj:(T.lits.drop n).take j=T.lits.drop n:=by rw [hje,dn (by simp)]
    have FL:=hT.cut n m (by omega) (by show m≤T.levels.length;omega)
    have FK:=hT.Se n m (by omega) (by show m≤T.levels.length;omega)
    rw [Hj] at FL FK
    rw [HA.o] at o1
    rw [qs.o] at o2
    rw [HA.o,qs.o] at FL FK
    have pu:=ae FL
    have oK:=ae FK
    have VP:=hT.lt L.a (by simp [ew.fp])
    clear FL FK Hj hje hT
    go_wp2
    go_region
    all_goals go_end0
    all_goals refine ⟨rfl,?_,?_⟩
    all_goals first |exact pu.o.drew |exact oK.o.drew | (refine ((HF.o.setCell (.inl ?_) _).setCell (.inl ?_) _).drew<;>simp [ew.fp])
 ·have dI:T.lits.length=n:=by omega
  have hz:T.lits.drop n=[]:=by rw [←dI];simp
  have FL:=HH.o.cut n m (by omega) (by omega)
  have FK:=HH.o.Se n m (by omega) (by omega)
  have pu:=ae FL
  have oK:=ae FK
  have HZ:al (T.wO m n={ T with lits:=T.lits.take n,levels:=T.levels.take m }):=by show _=_;unfold Tr.wO;rw [hz];rfl
  have VP:=HH.o.lt L.a (by simp [ew.fp])
  have oa:=HH.o.obj.frozen 1
  have ob:=HH.o.obj.frozen 2
  rw [dI] at o1 VC
  clear FL FK hz qw
  rw [HZ.o]
  rcases H2.o with ⟨hA,hc,he⟩ |⟨g,hA,sE,CG,DZ⟩
  ·have en:n=0:=by rw [he] at dI;simpa using dI.symm
   subst en
   rw [hA,hc] at o1
   rw [hA,hc,qs.o] at pu oK
   clear hA hc he H2 dI bM
   go_enter Tryz.func115,Tryz.ntmps115
   go_wp2_with fail
   try rw [Ap]
   go_loopg [34] 0 (fun gk i wr=>i= .int .i64 0∧w=wr)
   case atStart=>exact ⟨rfl,rfl⟩
   case round=>
    obtain ⟨rfl,rfl⟩:=hrel
    go_wp2
    go_region
    all_goals go_end0
    all_goals refine ⟨rfl,?_,?_⟩
    all_goals first |exact pu.o.drew |exact oK.o.drew | (refine (((Fr.refl L.fp w).setCell (.inl ?_) _).setCell (.inl ?_) _).drew<;>simp [ew.fp])
  ·rw [hA] at o1
   rw [hA,qs.o] at pu oK
   have ot:n≤L.c2:=by omega
   clear hA H2 dI bM CG
   by_cases hcc:L.c2=n
   ·rw [hcc] at pu oK
    go_enter Tryz.func115,Tryz.ntmps115
    go_wp2_with fail
    try rw [Ap]
    go_loopg [34] 0 (fun gk i wr=>i= .int .i64 0∧w=wr)
    case atStart=>exact ⟨rfl,rfl⟩
    case round=>
     obtain ⟨rfl,rfl⟩:=hrel
     go_wp2
     go_region
     all_goals go_end0
     all_goals refine ⟨rfl,?_,?_⟩
     all_goals first |exact pu.o.drew |exact oK.o.drew | (refine (((Fr.refl L.fp w).setCell (.inl ?_) _).setCell (.inl ?_) _).drew<;>simp [ew.fp])
   ·
    go_enter Tryz.func115,Tryz.ntmps115
    go_wp2_with fail
    try rw [Ap]
    go_loopg [34] 0 (fun gk i wr=>i= .int .i64 0∧w=wr)
    case atStart=>exact ⟨rfl,rfl⟩
    case round=>
     obtain ⟨rfl,rfl⟩:=hrel
     go_wp2
     go_region
     all_goals go_end0
     all_goals refine ⟨rfl,?_,?_⟩
     all_goals first |exact pu.o.drew |exact oK.o.drew | (refine (((Fr.refl L.fp w).setCell (.inl ?_) _).setCell (.inl ?_) _).drew<;>simp [ew.fp])
theorem sa (w:World) (L:ew) (T:Tr) (h:TrAt w L T) (level:Int) (hl:level<0) (hm:T.levels.length≤0):
  Calls Tryz.prog 115 #[.pointer (some ⟨L.a,0,none⟩), .int .i64 level] w fun e w'=>e= .returned (.tuple #[])∧w=w':=by
 have o2:=h.obj.cell 2
 simp at o2
 have pq:T.levels=[]:=by simpa using hm
 rw [pq] at o2
 clear pq hm
 clear h
 go_enter Tryz.func115,Tryz.ntmps115
 go_wp2_with fail
 refine bodyPost_ret (results_none rfl _ _ _) rfl ?_
 exact ⟨rfl,rfl⟩
theorem tM (w:World) (L:ew) (T:Tr) (h:TrAt w L T) (level:Int) (hl:level<0) (hm:0<T.levels.length) (n:Nat) (hn:T.levels[0]! =n) (qw:n≤T.lits.length) (pH:∀j:Nat,j<T.lits.length→T.iV (tv T.lits[j]!)=true):
  Calls Tryz.prog 115 #[.pointer (some ⟨L.a,0,none⟩), .int .i64 level] w fun e w'=>e= .returned (.tuple #[])∧TrAt w' L (T.wO 0 n)∧Fr L.fp w w':=by
 have o1:=h.obj.cell 1
 have o2:=h.obj.cell 2
 simp at o1 o2
 obtain ⟨g3,Be,_⟩:=h.levels.pos (i:=0) hm
 have c3:=h.levels
 rw [Be] at c3 o2
 have cl:=c3.cell (i:=0) hm
 rw [hn] at cl
 have hm':(0:Int)<T.levels.length:=by omega
 have ae4:¬T.levels=[]:=by rintro e;rw [e] at hm;simp at hm
 have Ap:decide (T.levels=[])=false:=decide_eq_false ae4
 have qf:=h.cells.len
 unfold maxLen at qf
 have H2:=ae h.lits.form
 have HH:=ae h
 have HN:=ae hn
 have HL:=ae pH
 have qs:=ae Be
 have DL:=ae qf
 have VC:(n:Int)≤T.lits.length:=by omega
 have aa1:0≤L.c3:=by
  rcases h.levels.form with ⟨_,_,h0⟩ |⟨_,_,_,h0,_⟩
  ·rw [h0] at hm;simp at hm
  ·omega
 clear h hn pH Be c3 qf
 by_cases bM:n<T.lits.length
 ·rcases H2.o with ⟨hA,hc,he⟩ |⟨g,hA,sE,CG,DZ⟩
  ·rw [he] at bM
   exact absurd bM (aI _)
  rw [hA] at o1
  have HA:=ae hA
  unfold maxLen at DZ
  have ot:n<L.c2:=by omega
  have CF:¬L.c2=n:=by omega
  clear hA H2
  go_enter Tryz.func115,Tryz.ntmps115
  go_wp2_with fail
  clear o1 o2 cl
  try rw [Ap]
  go_loopg [34] (T.lits.length-n) (fun gk i wr=>∃j:Nat,j+gk=T.lits.length-n∧i= .int .i64 j∧TrAt wr L { T with cells:=fY T.cells ((T.lits.drop n).take j) }∧Fr L.fp w wr)
  case atStart=>exact ⟨0,by omega,rfl,by simpa [fY] using HH.o,Fr.refl _ _⟩
  case round=>
   obtain ⟨j,hj,rfl,hT,hF⟩:=hrel
   have o0:=hT.obj.cell 0
   have o1:=hT.obj.cell 1
   have o2:=hT.obj.cell 2
   have oa:=hT.obj.frozen 1
   have ob:=hT.obj.frozen 2
   simp [dK] at o0 o1 o2
   have HF:=ae hF
   have HJ:=ae hj
   clear hF hj
   by_cases DW:j<T.lits.length-n
   ·have V0:(j:Int)<(T.lits.length-n:Nat):=by omega
    have ci:=hT.lits
    rw [HA.o] at ci o1
    have c4:=ci.cell (i:=n+j) (by show n+j<T.lits.length;omega)
    have hx:=HL.o (n+j) (by omega)
    have uF:(T.lits.drop n).take (j+1)=(T.lits.drop n).take j++[T.lits[n+j]!]:=by
     rw [lU _ _ (by simp;omega),wD]
    simp only at c4
    obtain ⟨x,np⟩:∃x,T.lits[n+j]! =x:=⟨_,rfl⟩
    rw [np] at c4 hx uF
    obtain ⟨h0,h1⟩:=Tr.dj hx
    have vQ:((fY T.cells ((T.lits.drop n).take j)).length:Int)=T.cells.length:=by rw [dK]
    have qf:=DL.o
    have HS:=ae uF
    clear ci hx uF np
    by_cases uE:0≤x
    ·have ht:=mH uE
     rw [ht] at h0 h1
     obtain ⟨gc,i9,b0,b1,b2,fz⟩:=hT.hJ (v:=x) (by omega) (by simpa [dK] using h1)
     rw [i9] at o0
     have f0:=fz (x.toNat*3)
     have f1:=fz (x.toNat*3+1)
     have f2:=fz (x.toNat*3+2)
     have hM:=hT.IM i9 (i:=x.toNat) (by rw [dK];omega) jE.free
     have Oq:=TrAt.oP wr L i9 (x.toNat*3) (x.toNat*3+1) (x.toNat*3+2) (.int .i64 0) (.int .i64 (-1)) (.int .i64 0)
     have HM:=ae hM
     have xH:=ae Oq
     have HT:=ae ht
     clear hM Oq ht hT fz i9 vQ
     go_wp2
     go_roundg (gk-1)
     case measure=>have :=HJ.o;omega
     case rel=>exact ⟨j+1,by have :=HJ.o;omega,by go_num,by rw [HS.o,lz,HT.o];exact HM.o,HF.o.aj xH.o⟩
    ·have ij:x<0:=by omega
     have ix: -9223372036854775808<x:=by
      have hb:=HL.o
      by_cases e:x= -9223372036854775808
      ·rw [nQ e] at h0;omega
      ·have J6:=h1
       unfold tv at J6
       rw [if_neg e,if_pos ij] at J6
       omega
     have ht:=pV ij ix
     rw [ht] at h0 h1
     obtain ⟨gc,i9,b0,b1,b2,fz⟩:=hT.hJ (v:= -x) (by omega) (by simpa [dK] using h1)
     rw [i9] at o0
     have f0:=fz ((-x).toNat*3)
     have f1:=fz ((-x).toNat*3+1)
     have f2:=fz ((-x).toNat*3+2)
     have hM:=hT.IM i9 (i:=(-x).toNat) (by rw [dK];omega) jE.free
     have Oq:=TrAt.oP wr L i9 ((-x).toNat*3) ((-x).toNat*3+1) ((-x).toNat*3+2) (.int .i64 0) (.int .i64 (-1)) (.int .i64 0)
     have HM:=ae hM
     have xH:=ae Oq
     have HT:=ae ht
     clear hM Oq ht hT fz i9 vQ
     go_wp2
     go_roundg (gk-1)
     case measure=>have :=HJ.o;omega
     case rel=>exact ⟨j+1,by have :=HJ.o;omega,by go_num,by rw [HS.o,lz,HT.o];exact HM.o,HF.o.aj xH.o⟩
   ·have hje:j=T.lits.length-n:=by have :=HJ.o;omega
    have V0:((T.lits.length-n:Nat):Int)≤j:=by omega
    have Hj:(T.lits.drop n).take j=T.lits.drop n:=by rw [hje,dn (by simp)]
    have FL:=hT.cut n 0 (by omega) (by show 0≤T.levels.length;omega)
    have FK:=hT.Se n 0 (by omega) (by show 0≤T.levels.length;omega)
    rw [Hj] at FL FK
    rw [HA.o] at o1
    rw [qs.o] at o2
    rw [HA.o,qs.o] at FL FK
    have pu:=ae FL
    have oK:=ae FK
    have VP:=hT.lt L.a (by simp [ew.fp])
    clear FL FK Hj hje hT
    go_wp2
    go_region
    all_goals go_end0
    all_goals refine ⟨rfl,?_,?_⟩
    all_goals first |exact pu.o.drew |exact oK.o.drew | (refine ((HF.o.setCell (.inl ?_) _).setCell (.inl ?_) _).drew<;>simp [ew.fp])
 ·have dI:T.lits.length=n:=by omega
  have hz:T.lits.drop n=[]:=by rw [←dI];simp
  have FL:=HH.o.cut n 0 (by omega) (by omega)
  have FK:=HH.o.Se n 0 (by omega) (by omega)
  have pu:=ae FL
  have oK:=ae FK
  have HZ:al (T.wO 0 n={ T with lits:=T.lits.take n,levels:=T.levels.take 0 }):=by show _=_;unfold Tr.wO;rw [hz];rfl
  have VP:=HH.o.lt L.a (by simp [ew.fp])
  have oa:=HH.o.obj.frozen 1
  have ob:=HH.o.obj.frozen 2
  rw [dI] at o1 VC
  clear FL FK hz qw
  rw [HZ.o]
  rcases H2.o with ⟨hA,hc,he⟩ |⟨g,hA,sE,CG,DZ⟩
  ·have en:n=0:=by rw [he] at dI;simpa using dI.symm
   subst en
   rw [hA,hc] at o1
   rw [hA,hc,qs.o] at pu oK
   clear hA hc he H2 dI bM
   go_enter Tryz.func115,Tryz.ntmps115
   go_wp2_with fail
   try rw [Ap]
   go_loopg [34] 0 (fun gk i wr=>i= .int .i64 0∧w=wr)
   case atStart=>exact ⟨rfl,rfl⟩
   case round=>
    obtain ⟨rfl,rfl⟩:=hrel
    go_wp2
    go_region
    all_goals go_end0
    all_goals refine ⟨rfl,?_,?_⟩
    all_goals first |exact pu.o.drew |exact oK.o.drew | (refine (((Fr.refl L.fp w).setCell (.inl ?_) _).setCell (.inl ?_) _).drew<;>simp [ew.fp])
  ·rw [hA] at o1
   rw [hA,qs.o] at pu oK
   have ot:n≤L.c2:=by omega
   clear hA H2 dI bM CG
   by_cases hcc:L.c2=n
   ·rw [hcc] at pu oK
    go_enter Tryz.func115,Tryz.ntmps115
    go_wp2_with fail
    try rw [Ap]
    go_loopg [34] 0 (fun gk i wr=>i= .int .i64 0∧w=wr)
    case atStart=>exact ⟨rfl,rfl⟩
    case round=>
     obtain ⟨rfl,rfl⟩:=hrel
     go_wp2
     go_region
     all_goals go_end0
     all_goals refine ⟨rfl,?_,?_⟩
     all_goals first |exact pu.o.drew |exact oK.o.drew | (refine (((Fr.refl L.fp w).setCell (.inl ?_) _).setCell (.inl ?_) _).drew<;>simp [ew.fp])
   ·
    go_enter Tryz.func115,Tryz.ntmps115
    go_wp2_with fail
    try rw [Ap]
    go_loopg [34] 0 (fun gk i wr=>i= .int .i64 0∧w=wr)
    case atStart=>exact ⟨rfl,rfl⟩
    case round=>
     obtain ⟨rfl,rfl⟩:=hrel
     go_wp2
     go_region
     all_goals go_end0
     all_goals refine ⟨rfl,?_,?_⟩
     all_goals first |exact pu.o.drew |exact oK.o.drew | (refine (((Fr.refl L.fp w).setCell (.inl ?_) _).setCell (.inl ?_) _).drew<;>simp [ew.fp])
theorem fd (w:World) (t ty e:TypeId) (z:Value) (size bytes:Nat) (ht:Tryz.prog.underlying t=some (.slice e)) (hi:(Tryz.prog.info? e).map (fun i=>(i.zero,i.size,i.bytes))=some (some z,size,bytes)) (AZ:z.cells.size=size) (nq:0<size)
  (A:Option Addr) (c n:Nat) (xs:List Value) (dA:w.ownsRow 0 e size (.slice A n c) n xs) (ad:Addr) (m c':Nat) (news:List Value) (hl:news.length=m*size)
  (mh:∀j u,news[j]? =some u→w.cell? (ad.add j)=some u) (h1:∀u∈news,u.oneCell'=true) (LV:n+m≤maxLen) (jW:(n+m)*bytes≤140737488355328):
  ∃A' cap w',(Builtin.append_ #[t,t] ty #[.slice A n c, .slice (some ad) m c']).run Tryz.prog w= .ok (.slice A' (n+m) cap) w'∧
   w'.ownsRow 0 e size (.slice A' (n+m) cap) (n+m) (xs++news)∧Fr (ap A) w w'∧(∀k,k∈ap A'→k∈ap A∨k=w.heap.size)∧w.heap.size≤w'.heap.size∧(A'=none→m=0∧A=none)∧(∀a',A'=some a'→∃g,a'=⟨g,0,none⟩):=by
 obtain ⟨i0,hi,vG,nc,A8⟩:=info_parts hi
 obtain ⟨v',w',hr,h2,h3,h4,h5⟩:=run_append_own_at (P:=Tryz.prog) w 0 t ty e i0 z size bytes ht hi vG nc A8 AZ nq (.slice A n c) n _ dA ad m c' news hl mh h1 LV jW (bH _)
 have hv:∃A' cap,v'= .slice A' (n+m) cap∧∀a',A'=some a'→∃g,a'=⟨g,0,none⟩:=by
  rcases h2.2 with ⟨h,h0⟩ |⟨g,cap,cur,hv,_⟩
  ·exact ⟨none,0,by rw [h,h0],fun _ h=>by cases h⟩
  ·exact ⟨_,cap,hv,fun a' h=>⟨g,by cases h;rfl⟩⟩
 obtain ⟨A',cap,rfl,Bi⟩:=hv
 refine ⟨A',cap,w',hr,h2,(Fr.refl _ w).grown h3 fun k hk=> .inl ((iR k).1 hk),?_,h3.size,?_,Bi⟩
 ·intro k hk
  have pI:=(iR (n:=n+m) (c:=cap) k).2 hk
  rcases h5 with h5 |h5
  ·exact .inl ((iR k).1 (h5▸pI))
  ·rw [h5] at pI
   exact .inr (Option.some.inj pI).symm
 ·intro e0
  subst e0
  rcases h2.2 with ⟨h,h0⟩ |⟨g,agn,cur,hv,_⟩
  ·rw [h] at h4
   obtain ⟨h6,h7⟩:=h4.1 rfl
   exact ⟨h7,by cases h6;rfl⟩
  ·cases hv
theorem kW (w:World) {ops:Array Oper} {rest:List Oper} {o:Oper} {a:Act} {Q:Exit→Act→World→Prop} (ou:o.guard=none) (s x:Operand) (t:TypeId)
  (ho:o.op= .call { callee:= .builtin .append,args:=#[s,x],argTypes:=#[t,t] }) (e:TypeId) (z:Value) (size bytes:Nat) (ht:Tryz.prog.underlying t=some (.slice e)) (hi:(Tryz.prog.info? e).map (fun i=>(i.zero,i.size,i.bytes))=some (some z,size,bytes)) (AZ:z.cells.size=size) (nq:0<size)
  (A:Option Addr) (c n:Nat) (hs:a.eval s= .slice A n c) (xs:List Value) (dA:w.ownsRow 0 e size (.slice A n c) n xs) (ad:Addr) (m c':Nat) (hx:a.eval x= .slice (some ad) m c') (news:List Value) (hl:news.length=m*size)
  (mh:∀j u,news[j]? =some u→w.cell? (ad.add j)=some u) (h1:∀u∈news,u.oneCell'=true) (LV:n+m≤maxLen) (jW:(n+m)*bytes≤140737488355328)
  (h:∀A' cap w',w'.ownsRow 0 e size (.slice A' (n+m) cap) (n+m) (xs++news)→Fr (ap A) w w'→(∀k,k∈ap A'→k∈ap A∨k=w.heap.size)→w.heap.size≤w'.heap.size→(A'=none→m=0∧A=none)→(∀a',A'=some a'→∃g,a'=⟨g,0,none⟩)→
   wpList Tryz.prog ops Q rest (a.put o.dst (.slice A' (n+m) cap)) w'):
  wpList Tryz.prog ops Q (o::rest) a w:=by
 refine wpList_plain ou fun K hK=> ?_
 obtain ⟨A',cap,w',hr,h2,h3,h4,h5,h6,h7⟩:=fd w t o.type e z size bytes ht hi AZ nq A c n xs dA ad m c' news hl mh h1 LV jW
 unfold Oper.wp execOp
 simp only [ho,resolve,invoke,builtin,Sem.run_bind,Sem.run_pure,Result.andThen_ok,List.map_toArray,cM,dU,hs,hx,hr]
 exact hK _ _ (h A' cap w' h2 h3 h4 h5 h6 h7)
theorem kX (w:World) {ops:Array Oper} {rest:List Oper} {o:Oper} {a:Act} {Q:Exit→Act→World→Prop} (ou:o.guard=none) (s x:Operand) (t:TypeId)
  (ho:o.op= .call { callee:= .builtin .append,args:=#[s,x],argTypes:=#[t,t] }) (e:TypeId) (z:Value) (size bytes:Nat) (ht:Tryz.prog.underlying t=some (.slice e)) (hi:(Tryz.prog.info? e).map (fun i=>(i.zero,i.size,i.bytes))=some (some z,size,bytes)) (AZ:z.cells.size=size) (nq:0<size)
  (A:Option Addr) (c n:Nat) (hs:a.eval s= .slice A n c) (xs:List Value) (dA:w.ownsRow 0 e size (.slice A n c) n xs) (ad:Addr) (c':Nat) (hx:a.eval x= .slice (some ad) 1 c') (news:List Value) (hl:news.length=size)
  (mh:∀j u,news[j]? =some u→w.cell? (ad.add j)=some u) (h1:∀u∈news,u.oneCell'=true) (LV:n+1≤maxLen) (jW:(n+1)*bytes≤140737488355328)
  (h:∀g cap w',w'.ownsRow 0 e size (.slice (some ⟨g,0,none⟩) (n+1) cap) (n+1) (xs++news)→Fr (ap A) w w'→(g∈ap A∨g=w.heap.size)→w.heap.size≤w'.heap.size→
   wpList Tryz.prog ops Q rest (a.put o.dst (.slice (some ⟨g,0,none⟩) (n+1) cap)) w'):
  wpList Tryz.prog ops Q (o::rest) a w:=by
 refine kW w ou s x t ho e z size bytes ht hi AZ nq A c n hs xs dA ad 1 c' hx news (by omega) mh h1 LV jW fun A' cap w' h2 h3 h4 h5 h6 h7=> ?_
 cases A' with
 |none=>exact absurd (h6 rfl).1 (by decide)
 |some a'=>
  obtain ⟨g,rfl⟩:=h7 a' rfl
  exact h g cap w' h2 h3 (h4 g (by simp [ap])) h5
theorem Hf:(Tryz.prog.info? 110).map (fun i=>(i.zero,i.size,i.bytes))=some (some (.agg #[.int .i64 0, .int .i64 0, .int .i64 0]),3,24):=by kernel_rfl
theorem TrAt.B6 {w w':World} {L:ew} {T:Tr} (h:TrAt w L T) {g cap:Nat} {cs:List jE} (hi:Cls w' (some ⟨g,0,none⟩) cap cs) (hf:Fr (ap L.A1) w w') (hg:g∈ap L.A1∨w.heap.size≤g):
  TrAt (w'.setCell ⟨L.a,0,none⟩ (.slice (some ⟨g,0,none⟩) cs.length cap)) { L with A1:=some ⟨g,0,none⟩,c1:=cap } { T with cells:=cs }∧
  L.ext { L with A1:=some ⟨g,0,none⟩,c1:=cap } w∧Fr L.fp w (w'.setCell ⟨L.a,0,none⟩ (.slice (some ⟨g,0,none⟩) cs.length cap)):=by
 obtain ⟨h1,h2,h3⟩:=gy h.nodup
 have nG:g≠L.a∧g∉ap L.A2∧g∉ap L.A3:=by
  rcases hg with q |q
  ·exact h1 g q
  ·refine ⟨?_,fun k=> ?_,fun k=> ?_⟩
   ·have :=h.obj.lt;omega
   ·have :=h.lits.lt _ k;omega
   ·have :=h.levels.lt _ k;omega
 have bG:ap (some ⟨g,0,none⟩)=[g]:=rfl
 refine ⟨⟨?_,?_,?_,?_,?_⟩,⟨rfl,?_⟩,?_⟩
 ·have :=(hf.at_ h.obj (fun k=>(h1 _ k).1 rfl)).eo 0 (.slice (some ⟨g,0,none⟩) cs.length cap)
  simpa using this
 ·exact hi.gh (by rw [bG];simpa using fun e=>nG.1 e.symm) _
 ·exact (h.lits.fr hf fun k hk pI=>(h2 k hk).2.1 pI).gh (fun k=>(h2 _ k).1 rfl) _
 ·exact (h.levels.fr hf fun k hk pI=>(h3 k hk).2.1 pI).gh (fun k=>(h3 _ k).1 rfl) _
 ·have hn:=h.nodup
  simp only [ew.fp,eB,ag,List.nodup_append,bG,ah,cK,not_false_eq_true,List.nodup_nil,true_and] at hn⊢
  obtain ⟨n1,n2,⟨n3,n4,n5⟩,n6⟩:=hn
  refine ⟨?_,⟨n3,n4,n5⟩,?_⟩
  ·rintro (hk |hk |hk)
   ·exact nG.1 hk.symm
   ·exact n1 (.inr (.inl hk))
   ·exact n1 (.inr (.inr hk))
  ·intro a ha b hb e
   subst ha
   subst e
   rcases hb with hb |hb
   ·exact nG.2.1 hb
   ·exact nG.2.2 hb
 ·intro k hk
  simp only [ew.fp,bG,av,ag,cK,or_false] at hk⊢
  rcases hk with hk |hk |hk |hk
  ·exact .inl (.inl hk)
  ·subst hk;exact hg.imp (fun q=> .inr (.inl q)) id
  ·exact .inl (.inr (.inr (.inl hk)))
  ·exact .inl (.inr (.inr (.inr hk)))
 ·exact (hf.mono (T:=L.fp) fun k hk=> .inl (by simp [ew.fp,hk])).setCell (.inl (by simp [ew.fp])) _
def Tr.growBy (T:Tr) (m:Nat):Tr:={ T with cells:=T.cells++List.replicate m jE.free }
def Tr.room (T:Tr) (n:Int):Nat:=(min (max n 0) (262145-T.cells.length)).toNat
def Tr.dS (T:Tr) (n:Int):Tr:=T.growBy (T.room n)
theorem Tr.iO {T:Tr} {j:Nat}:(T.growBy j).cells++[jE.free]=(T.growBy (j+1)).cells:=by simp [Tr.growBy,List.replicate_succ']
theorem uZ (w:World) (L:ew) (T:Tr) (h:TrAt w L T) (hc:0<T.cells.length) (hm:T.cells.length≤262145) (n:Int):
  Calls Tryz.prog 75 #[.pointer (some ⟨L.a,0,none⟩), .int .i64 n] w fun e w'=>e= .returned (.tuple #[])∧∃L',TrAt w' L' (T.dS n)∧L.ext L' w∧Fr L.fp w w':=by
 have o0:=h.obj.cell 0
 simp at o0
 obtain ⟨nE,hw⟩:∃nE:Nat,T.cells.length=nE+1:=⟨T.cells.length-1,by omega⟩
 have key:(n<0∧T.room n=0)∨(n=0∧T.room n=0)∨(0<n∧n≤262144-nE∧(T.room n:Int)=n)∨(262144-nE<n∧0<n∧(T.room n:Int)=262144-nE):=by
  unfold Tr.room
  rw [hw]
  omega
 unfold Tr.dS
 obtain ⟨m,Ru⟩:∃m,T.room n=m:=⟨_,rfl⟩
 rw [Ru] at key⊢
 rw [hw] at o0
 have HH:=ae h
 have HW:=ae hw
 have hm':(nE:Int)≤262144:=by omega
 have pF:(nE:Int)+m≤262144:=by omega
 have ez:((nE:Int)+1==0)=false:=beq_eq_false_iff_ne.2 (by omega)
 have HK:=ae pF
 clear h Ru hw hm hc pF
 rcases key with ⟨k1,k2⟩ |⟨k1,k2⟩ |⟨k1,k2,k3⟩ |⟨k1,k2,k3⟩
 ·subst k2
  have k5:(0:Int)≤262144-nE:=by omega
  go_enter Tryz.func75,Tryz.ntmps75
  go_wp2_with fail
  clear o0
  go_loopg [26] 0 (fun gk i wr=>∃(j:Nat) (M:ew),j+gk=0∧i= .int .i64 j∧TrAt wr M (T.growBy j)∧L.ext M w∧Fr L.fp w wr)
  case atStart=>exact ⟨0,L,by omega,rfl,by simpa [Tr.growBy] using HH.o,L.co w,Fr.refl _ _⟩
  case round=>
   obtain ⟨j,M,hj,rfl,hT,hE,hF⟩:=hrel
   have ha:M.a=L.a:=hE.1
   have lc:(T.growBy j).cells.length=nE+1+j:=by simp [Tr.growBy,HW.o]
   have o0:=hT.obj.cell 0
   rw [ha] at o0
   simp [lc] at o0
   have HA:=ae ha
   have HL:=ae lc
   have HT:=ae hT
   have HE:=ae hE
   have HF:=ae hF
   have HJ:=ae hj
   have HN:al (M.a∉ap M.A1):=fun hk=>((gy hT.nodup).1 _ hk).1 rfl
   clear ha lc hT hE hF
   have NP:(0:Int)≤j:=by skip;omega
   have e:j=0:=by skip;omega
   subst e
   clear hj
   go_wp2_with fail
   go_end0
   exact ⟨rfl,M,HT.o,HE.o,HF.o⟩
 ·subst k2
  subst k1
  have k5:(0:Int)≤262144-nE:=by omega
  go_enter Tryz.func75,Tryz.ntmps75
  go_wp2_with fail
  clear o0
  go_loopg [26] 0 (fun gk i wr=>∃(j:Nat) (M:ew),j+gk=0∧i= .int .i64 j∧TrAt wr M (T.growBy j)∧L.ext M w∧Fr L.fp w wr)
  case atStart=>exact ⟨0,L,by omega,rfl,by simpa [Tr.growBy] using HH.o,L.co w,Fr.refl _ _⟩
  case round=>
   obtain ⟨j,M,hj,rfl,hT,hE,hF⟩:=hrel
   have ha:M.a=L.a:=hE.1
   have lc:(T.growBy j).cells.length=nE+1+j:=by simp [Tr.growBy,HW.o]
   have o0:=hT.obj.cell 0
   rw [ha] at o0
   simp [lc] at o0
   have HA:=ae ha
   have HL:=ae lc
   have HT:=ae hT
   have HE:=ae hE
   have HF:=ae hF
   have HJ:=ae hj
   have HN:al (M.a∉ap M.A1):=fun hk=>((gy hT.nodup).1 _ hk).1 rfl
   clear ha lc hT hE hF
   have NP:(0:Int)≤j:=by skip;omega
   have e:j=0:=by skip;omega
   subst e
   clear hj
   go_wp2_with fail
   go_end0
   exact ⟨rfl,M,HT.o,HE.o,HF.o⟩
 ·subst k3
  have k4:((nE:Nat):Int)<262144:=by omega
  have k5:0<m:=by omega
  go_enter Tryz.func75,Tryz.ntmps75
  go_wp2_with fail
  clear o0
  go_loopg [26] m (fun gk i wr=>∃(j:Nat) (M:ew),j+gk=m∧i= .int .i64 j∧TrAt wr M (T.growBy j)∧L.ext M w∧Fr L.fp w wr)
  case atStart=>exact ⟨0,L,by omega,rfl,by simpa [Tr.growBy] using HH.o,L.co w,Fr.refl _ _⟩
  case round=>
   obtain ⟨j,M,hj,rfl,hT,hE,hF⟩:=hrel
   have ha:M.a=L.a:=hE.1
   have lc:(T.growBy j).cells.length=nE+1+j:=by simp [Tr.growBy,HW.o]
   have o0:=hT.obj.cell 0
   rw [ha] at o0
   simp [lc] at o0
   have HA:=ae ha
   have HL:=ae lc
   have HT:=ae hT
   have HE:=ae hE
   have HF:=ae hF
   have HJ:=ae hj
   have HN:al (M.a∉ap M.A1):=fun hk=>((gy hT.nodup).1 _ hk).1 rfl
   clear ha lc hT hE hF
   by_cases hjm:j<m
   ·have NP:(j:Int)<(m:Int):=by skip;omega
    clear hj
    go_wp2_with (at_builtin;(refine kX _ rfl _ _ 111 rfl 110 (.agg #[.int .i64 0, .int .i64 0, .int .i64 0]) 3 24 Tryz.underlying111 Hf rfl (by decide) M.A1 M.c1 (nE+1+j) rfl (flat (T.growBy j).cells) ?dA ⟨wr.heap.size,0,none⟩ 1 rfl (flat [jE.free]) rfl ?mh (by simp [flat,Value.oneCell']) (by have :=HK.o;unfold maxLen;omega) (by have :=HK.o;omega) ?_;(case dA=>have :=HT.o.cells.alloc (.cells #[.int .i64 0, .int .i64 (-1), .int .i64 0] 110);unfold Cls at this;rwa [HL.o] at this);(case mh=>intro jj u hu;match jj,hu with |0,hu=>(simp [flat,jE.free] at hu;subst hu;simp [Addr.add]) |1,hu=>(simp [flat,jE.free] at hu;subst hu;simp [Addr.add]) |2,hu=>(simp [flat,jE.free] at hu;subst hu;simp [Addr.add]) | (_+3),hu=>(simp [flat] at hu));intro g2 cap w2 ns bZ eY jz;have q2:=bZ.at_ (HT.o.obj.alloc _) HN.o;rw [HA.o] at q2;have q3:=q2.cell 0;have q4:=q2.frozen 0;simp at q3;have HI:=ae ns;have cH:=ae bZ;have rV:=ae eY;clear q2 ns bZ eY jz))
    have qf:Cls w2 (some ⟨g2,0,none⟩) cap (T.growBy (j+1)).cells:=by
     have :=HI.o
     rw [←C3,Tr.iO] at this
     unfold Cls
     rwa [show (T.growBy (j+1)).cells.length=nE+1+j+1 by simp [Tr.growBy,HW.o];omega]
    obtain ⟨r1,r2,r3⟩:=(HT.o.alloc (.cells #[.int .i64 0, .int .i64 (-1), .int .i64 0] 110)).B6 qf cH.o (rV.o.imp id (fun e=>by rw [e];exact au _))
    rw [HA.o,show (T.growBy (j+1)).cells.length=nE+1+j+1 by simp [Tr.growBy,HW.o];omega] at r1 r3
    have r4:L.ext { M with A1:=some ⟨g2,0,none⟩,c1:=cap } w:=ew.aX HE.o ⟨r2.1,fun k hk=>(r2.2 k hk).imp id (fun h=>by simp at h;omega)⟩ HF.o
    have r5:=(HF.o.alloc (.cells #[.int .i64 0, .int .i64 (-1), .int .i64 0] 110)).trans r3 HE.o.2
    rw [HA.o] at r4
    have R1:=ae r1
    have R4:=ae r4
    have R5:=ae r5
    clear r1 r2 r3 r4 r5 qf
    go_roundg (gk-1)
    case measure=>have :=HJ.o;omega
    case rel=>exact ⟨j+1,_,by have :=HJ.o;omega,by have :=HK.o;go_num,R1.o,R4.o,R5.o⟩
   ·have NP:((m:Int):Int)≤j:=by skip;omega
    have e:j=m:=by skip;omega
    subst e
    clear hj
    go_wp2_with fail
    go_end0
    exact ⟨rfl,M,HT.o,HE.o,HF.o⟩
 ·have k4:al ((262144-nE:Int)=m):=k3.symm
  have k5:(0:Int)≤262144-nE:=by omega
  clear k3
  go_enter Tryz.func75,Tryz.ntmps75
  go_wp2_with fail
  clear o0
  go_loopg [26] m (fun gk i wr=>∃(j:Nat) (M:ew),j+gk=m∧i= .int .i64 j∧TrAt wr M (T.growBy j)∧L.ext M w∧Fr L.fp w wr)
  case atStart=>exact ⟨0,L,by omega,rfl,by simpa [Tr.growBy] using HH.o,L.co w,Fr.refl _ _⟩
  case round=>
   obtain ⟨j,M,hj,rfl,hT,hE,hF⟩:=hrel
   have ha:M.a=L.a:=hE.1
   have lc:(T.growBy j).cells.length=nE+1+j:=by simp [Tr.growBy,HW.o]
   have o0:=hT.obj.cell 0
   rw [ha] at o0
   simp [lc] at o0
   have HA:=ae ha
   have HL:=ae lc
   have HT:=ae hT
   have HE:=ae hE
   have HF:=ae hF
   have HJ:=ae hj
   have HN:al (M.a∉ap M.A1):=fun hk=>((gy hT.nodup).1 _ hk).1 rfl
   clear ha lc hT hE hF
   by_cases hjm:j<m
   ·have NP:(j:Int)<(262144-nE):=by have :=k4.o;omega
    clear hj
    go_wp2_with (at_builtin;(refine kX _ rfl _ _ 111 rfl 110 (.agg #[.int .i64 0, .int .i64 0, .int .i64 0]) 3 24 Tryz.underlying111 Hf rfl (by decide) M.A1 M.c1 (nE+1+j) rfl (flat (T.growBy j).cells) ?dA ⟨wr.heap.size,0,none⟩ 1 rfl (flat [jE.free]) rfl ?mh (by simp [flat,Value.oneCell']) (by have :=HK.o;unfold maxLen;omega) (by have :=HK.o;omega) ?_;(case dA=>have :=HT.o.cells.alloc (.cells #[.int .i64 0, .int .i64 (-1), .int .i64 0] 110);unfold Cls at this;rwa [HL.o] at this);(case mh=>intro jj u hu;match jj,hu with |0,hu=>(simp [flat,jE.free] at hu;subst hu;simp [Addr.add]) |1,hu=>(simp [flat,jE.free] at hu;subst hu;simp [Addr.add]) |2,hu=>(simp [flat,jE.free] at hu;subst hu;simp [Addr.add]) | (_+3),hu=>(simp [flat] at hu));intro g2 cap w2 ns bZ eY jz;have q2:=bZ.at_ (HT.o.obj.alloc _) HN.o;rw [HA.o] at q2;have q3:=q2.cell 0;have q4:=q2.frozen 0;simp at q3;have HI:=ae ns;have cH:=ae bZ;have rV:=ae eY;clear q2 ns bZ eY jz))
    have qf:Cls w2 (some ⟨g2,0,none⟩) cap (T.growBy (j+1)).cells:=by
     have :=HI.o
     rw [←C3,Tr.iO] at this
     unfold Cls
     rwa [show (T.growBy (j+1)).cells.length=nE+1+j+1 by simp [Tr.growBy,HW.o];omega]
    obtain ⟨r1,r2,r3⟩:=(HT.o.alloc (.cells #[.int .i64 0, .int .i64 (-1), .int .i64 0] 110)).B6 qf cH.o (rV.o.imp id (fun e=>by rw [e];exact au _))
    rw [HA.o,show (T.growBy (j+1)).cells.length=nE+1+j+1 by simp [Tr.growBy,HW.o];omega] at r1 r3
    have r4:L.ext { M with A1:=some ⟨g2,0,none⟩,c1:=cap } w:=ew.aX HE.o ⟨r2.1,fun k hk=>(r2.2 k hk).imp id (fun h=>by simp at h;omega)⟩ HF.o
    have r5:=(HF.o.alloc (.cells #[.int .i64 0, .int .i64 (-1), .int .i64 0] 110)).trans r3 HE.o.2
    rw [HA.o] at r4
    have R1:=ae r1
    have R4:=ae r4
    have R5:=ae r5
    clear r1 r2 r3 r4 r5 qf
    go_roundg (gk-1)
    case measure=>have :=HJ.o;omega
    case rel=>exact ⟨j+1,_,by have :=HJ.o;omega,by have :=HK.o;go_num,R1.o,R4.o,R5.o⟩
   ·have NP:((262144-nE):Int)≤j:=by have :=k4.o;omega
    have e:j=m:=by have :=k4.o;omega
    subst e
    clear hj
    go_wp2_with fail
    go_end0
    exact ⟨rfl,M,HT.o,HE.o,HF.o⟩
theorem dJ (g o n:Nat):(Addr.mk g o none).add n=⟨g,o+n,none⟩:=by unfold Addr.add;split<;>simp_all
--New
def Tr.fresh:Tr:={ cells:=[⟨0,0,0⟩],lits:=[],levels:=[] }
theorem IR {a b:Nat} (h:a=b):Ending.returned (.pointer (some ⟨a,0,none⟩))= .returned (.pointer (some ⟨b,0,none⟩)):=by rw [h]
theorem TrAt.new (w:World):TrAt ((w.alloc (.cells #[.int .i64 0, .int .i64 0, .int .i64 0] 110)).alloc (.cells #[.slice (some ⟨w.heap.size,0,none⟩) 1 1, .slice none 0 0, .slice none 0 0] 113))
  { a:=w.heap.size+1,A1:=some ⟨w.heap.size,0,none⟩,c1:=1,A2:=none,c2:=0,A3:=none,c3:=0 } Tr.fresh:=by
 refine ⟨?_,?_,Ints.nil _,Ints.nil _,by simp [ew.fp,ap]⟩
 ·have :=At.new (w.alloc (.cells #[.int .i64 0, .int .i64 0, .int .i64 0] 110)) 113 #[.slice (some ⟨w.heap.size,0,none⟩) 1 1, .slice none 0 0, .slice none 0 0]
  rwa [show (w.alloc (.cells #[.int .i64 0, .int .i64 0, .int .i64 0] 110)).heap.size=w.heap.size+1 from by simp] at this
 ·have :Cls (w.alloc (.cells #[.int .i64 0, .int .i64 0, .int .i64 0] 110)) (some ⟨w.heap.size,0,none⟩) 1 Tr.fresh.cells:=World.ownsRow_lit w #[.int .i64 0, .int .i64 0, .int .i64 0] 1 (bH _) (by simp [maxLen]) (by simp)
  exact this.alloc _
theorem IH (w:World) (n:Int):
  Calls Tryz.prog 43 #[.int .i64 n] w fun e w'=>∃L:ew,e= .returned (.pointer (some ⟨L.a,0,none⟩))∧TrAt w' L (Tr.fresh.dS n)∧(∀k,k∈L.fp→w.heap.size≤k)∧Fr [] w w':=by
 have HN:=ae (TrAt.new w)
 go_enter Tryz.func43,Tryz.ntmps43
 go_wp2_with fail
 refine (uZ _ _ _ HN.o (by decide) (by decide) n).mono ?_
 rintro e w1 ⟨rfl,L',hL,hE,hF⟩
 have HL:=ae hL
 have HE:=ae hE
 have HF:=ae hF
 clear hL hE hF
 go_wp2
 go_ret
 have hk:∀k,k∈ew.fp { a:=w.heap.size+1,A1:=some ⟨w.heap.size,0,none⟩,c1:=1,A2:=none,c2:=0,A3:=none,c3:=0 }→w.heap.size≤k:=by
  intro k hk
  simp only [ew.fp,ap,Option.map_none,cu,Option.toList_none,fq,bU,av,cK,or_false] at hk
  omega
 refine ⟨L',IR HE.o.1.symm,HL.o,fun k h=> ?_,?_⟩
 ·rcases HE.o.2 k h with h |h
  ·exact hk k h
  ·exact aF (by simp;omega) h
 ·exact (((Fr.refl [] w).alloc _).alloc _).trans HF.o (fun k h=> .inr (hk k h))
--alJ,anY
structure Tr.Inv (T:Tr):Prop where
 levels:∀m:Nat,m<T.levels.length→∃n:Nat,T.levels[m]! =n∧n≤T.lits.length
 lits:∀j:Nat,j<T.lits.length→T.iV (tv T.lits[j]!)=true
theorem qaa (w:World) (L:ew) (T:Tr) (h:TrAt w L T) (hi:T.Inv) (level:Int):
  Calls Tryz.prog 115 #[.pointer (some ⟨L.a,0,none⟩), .int .i64 level] w fun e w'=>e= .returned (.tuple #[])∧TrAt w' L (T.cV level.toNat)∧Fr L.fp w w':=by
 by_cases hl:level<0
 ·have e0:level.toNat=0:=by omega
  rw [e0]
  by_cases hm:0<T.levels.length
  ·obtain ⟨n,hn,qw⟩:=hi.levels 0 hm
   have e1:T.cV 0=T.wO 0 n:=by unfold Tr.cV;rw [if_pos hm,hn];rfl
   rw [e1]
   exact tM w L T h level hl hm n hn qw hi.lits
  ·have e1:T.cV 0=T:=by unfold Tr.cV;rw [if_neg hm]
   rw [e1]
   exact (sa w L T h level hl (by omega)).mono fun e w' ⟨he,hw⟩=>⟨he,hw▸h,hw▸Fr.refl _ _⟩
 ·obtain ⟨m,rfl⟩:∃m:Nat,level=m:=⟨level.toNat,by omega⟩
  rw [Int.toNat_natCast]
  by_cases hm:m<T.levels.length
  ·obtain ⟨n,hn,qw⟩:=hi.levels m hm
   have e1:T.cV m=T.wO m n:=by unfold Tr.cV;rw [if_pos hm,hn];rfl
   rw [e1]
   exact tK w L T h m hm n hn qw hi.lits
  ·have e1:T.cV m=T:=by unfold Tr.cV;rw [if_neg hm]
   rw [e1]
   exact (rZ w L T h m (by omega)).mono fun e w' ⟨he,hw⟩=>⟨he,hw▸h,hw▸Fr.refl _ _⟩
end Go.Proofs.YtdgplmgfkliijaaGreat
namespace Go.Proofs.YtdgplmgfkliijaaGreat
structure St where
 x:Int
 l:Int
 r:Int
instance:Inhabited St:=⟨⟨0,0,0⟩⟩
def look (S:List St) (v:Int):Option St:=S.find? (fun e=>tv e.x==v)
def GR (e:St):jE:=⟨if e.x<0 then -1 else 1,e.l,e.r⟩
def rH:Option St→jE
 |none=>jE.free
 |some e=>GR e
theorem il {S:List St} {v:Int} {e:St} (h:look S v=some e):e∈S∧tv e.x=v:=by
 refine ⟨List.mem_of_find?_eq_some h,?_⟩
 have :=List.find?_some h
 simpa using this
theorem oX {S:List St} {v:Int} (h:look S v=none):∀e,e∈S→tv e.x≠v:=by
 intro e he
 have :=List.find?_eq_none.1 h e he
 simpa using this
theorem mO {S:List St} {v:Int} (h:∀e,e∈S→tv e.x≠v):look S v=none:=List.find?_eq_none.2 fun e he=>by simpa using h e he
theorem Cb (S:List St) (e:St) (v:Int):look (S++[e]) v=if tv e.x=v then (look S v).or (some e) else look S v:=by
 unfold look
 rw [List.find?_append]
 by_cases h:tv e.x=v
 ·simp [h]
 ·simp [h]
theorem gS {S:List St} (hn:(S.map fun e:St=>tv e.x).Nodup) {e:St} (he:e∈S):look S (tv e.x)=some e:=by
 induction S with
 |nil=>simp at he
 |cons d S ih=>
  simp only [cM,eB,az,not_exists,not_and] at hn
  unfold look
  rw [List.find?_cons]
  rcases av.1 he with rfl |he
  ·simp
  ·have :(tv d.x==tv e.x)=false:=beq_eq_false_iff_ne.2 fun h=>hn.1 e he h.symm
   rw [this]
   exact ih hn.2 he
theorem Il (cs:List jE) (i:Nat) (x:jE) (j:Nat) (hi:i<cs.length):(cs.set i x)[j]! =if j=i then x else cs[j]! :=by
 simp only [aa,List.getElem?_set]
 by_cases h:i=j
 ·subst h;simp [hi]
 ·rw [if_neg h,if_neg (fun e=>h e.symm)]
theorem FU:∀(ls:List Int) (cs:List jE) (j:Nat),(∀l,l∈ls→(tv l).toNat<cs.length)→(fY cs ls)[j]! =if j∈ls.map (fun l=>(tv l).toNat) then jE.free else cs[j]! :=by
 intro ls
 induction ls with
 |nil=>intro cs j _;simp [fY]
 |cons l ls ih=>
  intro cs j h
  have h1:(tv l).toNat<cs.length:=h l (by simp)
  have e:fY cs (l::ls)=fY (cs.set (tv l).toNat jE.free) ls:=rfl
  rw [e,ih _ j (fun l' Fm=>by rw [aw];exact h l' (by simp [Fm])),Il _ _ _ _ h1]
  by_cases h2:j∈ls.map (fun l=>(tv l).toNat)
  ·simp [h2]
  ·by_cases h3:j=(tv l).toNat
   ·simp [h3]
   ·simp [h3]
theorem j9:∀(n:Nat) (l:List Nat),l.Nodup→(∀x,x∈l→x<n)→l.length≤n:=by
 intro n
 induction n with
 |zero=>
  intro l _ h
  cases l with
  |nil=>exact au _
  |cons a l=>exact absurd (h a (by simp)) (aI _)
 |succ n ih=>
  intro l hn h
  by_cases hm:n∈l
  ·have :=ih (l.erase n) (hn.erase n) (fun x hx=>by
    obtain ⟨h1,h2⟩:=(hn.mem_erase_iff).1 hx
    have :=h x h2
    omega)
   rw [List.length_erase_of_mem hm] at this
   omega
  ·have :=ih l hn (fun x hx=>by
    have :=h x hx
    by_cases e:x=n
    ·subst e;exact absurd hx hm
    ·omega)
   omega
structure TRep (T:Tr) (vars:Nat) (S:List St) (depth:Nat):Prop where
 size:T.cells.length=vars+1
 lits:T.lits=S.map (·.x)
 dep:T.levels.length=depth
 cj:∀m:Nat,m<depth→T.levels[m]! =((S.filter (fun e:St=>decide (e.l≤(m:Int)))).length:Int)
 sorted:S.Pairwise (fun a b:St=>a.l≤b.l)
 bound:∀e,e∈S→0≤e.l∧e.l≤depth∧1≤tv e.x∧tv e.x≤vars
 nd:(S.map fun e:St=>tv e.x).Nodup
 cell:∀v:Int,1≤v→v≤vars→T.kq v=rH (look S v)
namespace TRep
variable {T:Tr} {vars:Nat} {S:List St} {depth:Nat}
theorem iV (h:TRep T vars S depth) (v:Int):T.iV v=(decide (1≤v)&&decide (v≤vars)):=by
 unfold Tr.iV
 rw [h.size]
 by_cases h1:1≤v<;>by_cases h2:v≤vars<;>simp [h1,h2]<;>omega
theorem fresh:TRep Tr.fresh 0 [] 0:=by
 refine ⟨rfl,rfl,rfl,fun m hm=>absurd hm (aI _),List.Pairwise.nil,fun e he=>by simp at he,by simp,fun v h0 h1=> ?_⟩
 have :v≤0:=by simpa using h1
 omega
theorem growBy (h:TRep T vars S depth) (k:Nat):TRep (T.growBy k) (vars+k) S depth:=by
 refine ⟨by simp [Tr.growBy,h.size];omega,h.lits,h.dep,h.cj,h.sorted,fun e he=> ?_,h.nd,fun v h0 h1=> ?_⟩
 ·obtain ⟨a,b,c,d⟩:=h.bound e he
  exact ⟨a,b,c,by omega⟩
 ·by_cases hv:v≤vars
  ·rw [←h.cell v h0 hv]
   unfold Tr.kq Tr.growBy
   simp only [aa]
   rw [cW (by rw [h.size];omega)]
  ·have hl:look S v=none:=mO fun e he=>by have :=(h.bound e he).2.2.2;omega
   rw [hl]
   unfold Tr.kq Tr.growBy
   simp only [aa]
   rw [gm (by rw [h.size];omega),List.getElem?_replicate,if_pos (by rw [h.size];omega)]
   rfl
theorem room (h:TRep T vars S depth) (k:Nat) (hk:vars+k≤262144):T.room k=k:=by
 unfold Tr.room
 rw [h.size]
 omega
theorem grow (h:TRep T vars S depth) (k:Nat) (hk:vars+k≤262144):TRep (T.dS k) (vars+k) S depth:=by
 unfold Tr.dS
 rw [h.room k hk]
 exact h.growBy k
theorem iI (h:TRep T vars S depth) (l:Int):T.iI l=(decide (1≤tv l)&&decide (tv l≤vars)&&(look S (tv l)).isNone):=by
 unfold Tr.iI
 rw [h.iV]
 by_cases h1:1≤tv l
 ·by_cases h2:tv l≤vars
  ·rw [h.cell _ h1 h2]
   cases hl:look S (tv l) with
   |none=>simp [h1,h2,rH,jE.free]
   |some e=>
    simp only [h1,h2,rH,GR]
    by_cases h3:e.x<0<;>simp [h3]
  ·simp [h2]
 ·simp [h1]
theorem put (h:TRep T vars S depth) (l r:Int) (hb:T.iI l=true):TRep (T.n8 l r) vars (S++[⟨l,depth,r⟩]) depth:=by
 rw [h.iI] at hb
 simp only [aD,decide_eq_true_eq,Option.isNone_iff_eq_none] at hb
 obtain ⟨⟨h1,h2⟩,h3⟩:=hb
 have dI:=oX h3
 have hi:(tv l).toNat<T.cells.length:=by rw [h.size];omega
 refine ⟨by simp [Tr.n8,h.size],by simp [Tr.n8,h.lits],h.dep,fun m hm=> ?_,?_,fun e he=> ?_,?_,fun v h0 hv=> ?_⟩
 ·have :=h.cj m hm
  show T.levels[m]! =_
  rw [this,List.filter_append]
  have :¬((depth:Int)≤m):=by omega
  simp [this]
 ·rw [List.pairwise_append]
  refine ⟨h.sorted,List.pairwise_singleton _ _,fun a ha b hb=> ?_⟩
  simp only [ah] at hb
  subst hb
  exact (h.bound a ha).2.1
 ·rcases ag.1 he with he |he
  ·exact h.bound e he
  ·simp only [ah] at he
   subst he
   exact ⟨by show (0:Int)≤depth;omega,by show (depth:Int)≤depth;omega,h1,h2⟩
 ·rw [bJ,List.nodup_append]
  refine ⟨h.nd,by simp,fun a ha b hb e=> ?_⟩
  simp only [cM,dU,ah] at hb
  subst hb
  subst e
  obtain ⟨e',dZ,h4⟩:=az.1 ha
  exact dI e' dZ h4
 ·rw [Cb]
  have e1:(T.n8 l r).kq v=if v.toNat=(tv l).toNat then ⟨if l<0 then -1 else 1,T.levels.length,r⟩ else T.kq v:=Il _ _ _ _ hi
  rw [e1]
  by_cases nF:tv l=v
  ·subst nF
   rw [if_pos rfl,if_pos rfl,h3,h.dep]
   rfl
  ·rw [if_neg (by omega),if_neg nF]
   exact h.cell v h0 hv
theorem deep (h:TRep T vars S depth):TRep T.wK vars S (depth+1):=by
 refine ⟨h.size,h.lits,by simp [Tr.wK,h.dep],fun m hm=> ?_,h.sorted,fun e he=> ?_,h.nd,h.cell⟩
 ·show (T.levels++[(T.lits.length:Int)])[m]! =_
  simp only [aa]
  by_cases pF:m<depth
  ·rw [cW (by rw [h.dep];exact pF),←h.cj m pF,aa]
  ·have e:m=depth:=by omega
   subst e
   rw [gm (by rw [h.dep];exact au _),h.dep,Nat.sub_self,h.lits]
   have :S.filter (fun e:St=>decide (e.l≤(m:Int)))=S:=List.filter_eq_self.2 fun e he=>by simpa using (h.bound e he).2.1
   rw [this]
   simp
 ·obtain ⟨a,b,c,d⟩:=h.bound e he
  exact ⟨a,by omega,c,d⟩
theorem split (hs:S.Pairwise (fun a b:St=>a.l≤b.l)) (m:Int):S.filter (fun e:St=>decide (e.l≤(m:Int)))=S.take (S.filter (fun e:St=>decide (e.l≤(m:Int)))).length∧S.filter (fun e:St=> !decide (e.l≤(m:Int)))=S.drop (S.filter (fun e:St=>decide (e.l≤(m:Int)))).length:=by
 induction S with
 |nil=>simp
 |cons d S ih=>
  obtain ⟨h1,h2⟩:=List.pairwise_cons.1 hs
  by_cases hd:d.l≤m
  ·obtain ⟨i1,i2⟩:=ih h2
   simp only [hd,decide_true,List.filter_cons_of_pos,bO,List.take_succ_cons,List.drop_succ_cons,Bool.not_true,dt,not_false_eq_true,List.filter_cons_of_neg]
   exact ⟨by rw [←i1],i2⟩
  ·have e1:S.filter (fun e:St=>decide (e.l≤(m:Int)))=[]:=List.filter_eq_nil_iff.2 fun e he=>by have :=h1 e he;simp;omega
   have e2:S.filter (fun e:St=> !decide (e.l≤(m:Int)))=S:=List.filter_eq_self.2 fun e he=>by have :=h1 e he;simp;omega
   simp [hd,e1,e2]
theorem back (h:TRep T vars S depth) (m:Nat) (hm:m<depth):TRep (T.cV m) vars (S.filter (fun e:St=>decide (e.l≤(m:Int)))) m:=by
 obtain ⟨s1,s2⟩:=split h.sorted (m:Int)
 have hn:=h.cj m hm
 have y9:(T.levels[m]!).toNat=(S.filter (fun e:St=>decide (e.l≤(m:Int)))).length:=by rw [hn];rfl
 unfold Tr.cV
 rw [if_pos (by rw [h.dep];exact hm),y9]
 unfold Tr.wO
 have hd:T.lits.drop (S.filter (fun e:St=>decide (e.l≤(m:Int)))).length=(S.filter (fun e:St=> !decide (e.l≤(m:Int)))).map (·.x):=by
  rw [h.lits,←List.map_drop,←s2]
 rw [hd]
 refine ⟨by simp [dK,h.size],?_,?_,fun k hk=> ?_,h.sorted.filter _,fun e he=> ?_,?_,fun v h0 hv=> ?_⟩
 ·show T.lits.take _=_
  rw [h.lits,←List.map_take,←s1]
 ·show (T.levels.take m).length=m
  rw [aV,h.dep];omega
 ·show (T.levels.take m)[k]! =_
  have :=h.cj k (by omega)
  simp only [aa] at this⊢
  rw [List.getElem?_take,if_pos hk,this,List.filter_filter]
  congr 2
  refine List.filter_congr fun e _=> ?_
  by_cases h1:e.l≤k
  ·have :e.l≤m:=by omega
   simp [h1,this]
  ·simp [h1]
 ·obtain ⟨he,hl⟩:=cq.1 he
  obtain ⟨a,b,c,d⟩:=h.bound e he
  exact ⟨a,by simpa using hl,c,d⟩
 ·exact (List.Sublist.map _ (List.filter_sublist)).nodup h.nd
 ·show (fY T.cells _)[v.toNat]! =_
  rw [FU _ _ _ (fun l hl=>by
   obtain ⟨e,he,rfl⟩:=az.1 hl
   have :=h.bound e (cq.1 he).1
   rw [h.size];omega)]
  have hc:=h.cell v h0 hv
  cases jL:look S v with
  |none=>
   have h1:=oX jL
   have h2:look (S.filter (fun e:St=>decide (e.l≤(m:Int)))) v=none:=mO fun e he=>h1 e (cq.1 he).1
   rw [h2]
   rw [jL] at hc
   split
   ·rfl
   ·exact hc
  |some e=>
   obtain ⟨he,LT⟩:=il jL
   rw [jL] at hc
   by_cases TX:e.l≤m
   ·have ke:e∈S.filter (fun e:St=>decide (e.l≤(m:Int))):=cq.2 ⟨he,by simpa using TX⟩
    have ae8:((S.filter (fun e:St=>decide (e.l≤(m:Int)))).map fun e=>tv e.x).Nodup:=(List.Sublist.map _ (List.filter_sublist)).nodup h.nd
    have h2:=gS ae8 ke
    rw [LT] at h2
    rw [h2,if_neg,←hc]
    ·rfl
    ·intro NE
     obtain ⟨l,hl,lI⟩:=az.1 NE
     obtain ⟨e',dZ,rfl⟩:=az.1 hl
     obtain ⟨rT,jp⟩:=cq.1 dZ
     have hb:=h.bound e' rT
     have h4:tv e'.x=v:=by omega
     have h5:=gS h.nd rT
     rw [h4,jL] at h5
     obtain rfl :=Option.some.inj h5
     simp at jp
     omega
   ·have h2:look (S.filter (fun e:St=>decide (e.l≤(m:Int)))) v=none:=mO fun e' dZ h4=>by
     obtain ⟨rT,jp⟩:=cq.1 dZ
     have h5:=gS h.nd rT
     rw [h4,jL] at h5
     obtain rfl :=Option.some.inj h5
     simp at jp
     omega
    rw [h2,if_pos]
    ·rfl
    ·exact az.2 ⟨e.x,az.2 ⟨e,cq.2 ⟨he,by simp;omega⟩,rfl⟩,by rw [LT]⟩
theorem inv (h:TRep T vars S depth):T.Inv:=by
 constructor
 ·intro m hm
  refine ⟨_,h.cj m (by rw [←h.dep];exact hm),?_⟩
  rw [h.lits,aq]
  exact List.length_filter_le _ _
 ·intro j hj
  rw [h.lits] at hj⊢
  rw [aq] at hj
  have e:(S.map (·.x))[j]! =S[j].x:=by simp [hj]
  rw [e,h.iV]
  obtain ⟨_,_,a,b⟩:=h.bound S[j] (List.getElem_mem hj)
  simp [a,b]
theorem small (h:TRep T vars S depth):∀v:Int,1≤v→v<T.cells.length→ -1≤(T.kq v).v∧(T.kq v).v≤1:=by
 intro v h0 h1
 rw [h.size] at h1
 rw [h.cell v h0 (by omega)]
 cases look S v with
 |none=>simp [rH,jE.free]
 |some e=>
  simp only [rH,GR]
  by_cases hx:e.x<0<;>simp [hx]
theorem kQ (h:TRep T vars S depth) (l:Int):T.kQ l=match look S (tv l) with |none=>0 |some e=>if e.x=l then 1 else -1:=by
 unfold Tr.kQ
 rw [h.iV]
 cases hl:look S (tv l) with
 |none=>
  by_cases hb:1≤tv l∧tv l≤vars
  ·rw [if_pos (by simp [hb]),h.cell _ hb.1 hb.2,hl]
   simp [rH,jE.free]
  ·rw [if_neg (by simpa using hb)]
 |some e=>
  obtain ⟨he,LT⟩:=il hl
  obtain ⟨_,_,a,b⟩:=h.bound e he
  rw [LT] at a b
  rw [if_pos (by simp [a,b]),h.cell _ a b,hl]
  simp only [rH,GR]
  have hx:tv e.x=tv l:=LT
  have ND:e.x≠ -9223372036854775808:=fun e0=>by rw [nQ e0] at hx;omega
  have aae:l≠ -9223372036854775808:=fun e0=>by rw [nQ e0] at a;omega
  unfold tv at hx
  rw [if_neg ND,if_neg aae] at hx
  by_cases h1:e.x<0<;>by_cases h2:l<0<;>simp only [h1,h2,if_true,if_false] at hx⊢
  ·rw [if_pos (by omega)];omega
  ·rw [if_neg (by omega)]
  ·rw [if_neg (by omega)]
  ·rw [if_pos (by omega)]
theorem da (h:TRep T vars S depth) (v:Int):T.da v=match look S v with |none=> -1 |some e=>e.l:=by
 unfold Tr.da
 rw [h.iV]
 cases hl:look S v with
 |none=>
  by_cases hb:1≤v∧v≤vars
  ·rw [if_pos (by simp [hb]),h.cell _ hb.1 hb.2,hl]
   simp [rH,jE.free]
  ·rw [if_neg (by simpa using hb)]
 |some e=>
  obtain ⟨he,LT⟩:=il hl
  obtain ⟨_,_,a,b⟩:=h.bound e he
  rw [LT] at a b
  rw [if_pos (by simp [a,b]),h.cell _ a b,hl]
  rfl
theorem fe (h:TRep T vars S depth) (v:Int):T.fe v=match look S v with |none=>0 |some e=>e.r:=by
 unfold Tr.fe
 rw [h.iV]
 cases hl:look S v with
 |none=>
  by_cases hb:1≤v∧v≤vars
  ·rw [if_pos (by simp [hb]),h.cell _ hb.1 hb.2,hl]
   simp [rH,jE.free]
  ·rw [if_neg (by simpa using hb)]
 |some e=>
  obtain ⟨he,LT⟩:=il hl
  obtain ⟨_,_,a,b⟩:=h.bound e he
  rw [LT] at a b
  rw [if_pos (by simp [a,b]),h.cell _ a b,hl]
  rfl
theorem fQ (h:TRep T vars S depth):S.length≤vars:=by
 have Cr:∀x,x∈S.map (fun e=>(tv e.x).toNat-1)→x∈List.range vars:=by
  intro x hx
  obtain ⟨e,he,rfl⟩:=az.1 hx
  obtain ⟨_,_,a,b⟩:=h.bound e he
  rw [df];omega
 have tU:(S.map (fun e=>(tv e.x).toNat-1)).Nodup:=by
  have h1:=h.nd
  rw [List.nodup_iff_pairwise_ne,List.pairwise_map] at h1⊢
  refine List.Pairwise.imp_of_mem (fun {a b} ha hb hab=> ?_) h1
  obtain ⟨_,_,a1,_⟩:=h.bound a ha
  obtain ⟨_,_,b1,_⟩:=h.bound b hb
  omega
 have :=j9 vars _ tU (fun x hx=>df.1 (Cr x hx))
 simpa using this
end TRep
end Go.Proofs.YtdgplmgfkliijaaGreat
namespace Go.Proofs.YtdgplmgfkliijaaGreat
open Go.RowKit
def Rd (w:World) (A:Option Addr) (xs:List Int):Prop:=0<xs.length→∃b o,A=some ⟨b,o,none⟩∧∀j:Nat,j<xs.length→w.cell? ⟨b,o+j,none⟩=some (.int .i64 xs[j]!)
theorem Ints.rd {w:World} {A:Option Addr} {c:Nat} {xs:List Int} (h:Ints w A c xs):Rd w A xs:=by
 intro h0
 obtain ⟨g,hg,_⟩:=h.pos (i:=0) h0
 subst hg
 exact ⟨g,0,rfl,fun j hj=>by rw [cS];exact h.cell hj⟩
structure Ext (w:World) where
 v:World
 fr:Fr [] w v
instance (w:World):Nonempty (Ext w):=⟨⟨w,Fr.refl [] w⟩⟩
instance (w:World):Inhabited (Ext w):=⟨⟨w,Fr.refl [] w⟩⟩
theorem bE {w:World} {p:Addr} {v:Value} (h:w.cell? p=some v):p.block<w.heap.size:=by
 rcases bK p.block w.heap.size with hl |hl
 ·exact hl
 ·unfold World.cell? at h
  rw [Array.getElem?_eq_none hl] at h
  cases h
theorem Fr.cell {w w':World} (h:Fr [] w w') {p:Addr} (hp:p.block<w.heap.size):w'.cell? p=w.cell? p:=World.cell?_of_block (h.block p.block hp (by simp))
theorem Fr.aT {w w':World} {p:Addr} {v:Value} (h:Fr [] w w') (hc:w.cell? p=some v):w'.cell? p=some v:=by rw [h.cell (bE hc)];exact hc
theorem Ext.cell {w:World} {p:Addr} {v:Value} (hc:w.cell? p=some v) (u:Ext w):u.v.cell? p=some v:=u.fr.aT hc
theorem At.keep {w w':World} {g:Nat} {t:TypeId} {cs:Array Value} (h:At w g t cs) (hf:Fr [] w w'):At w' g t cs:=hf.at_ h (by simp)
theorem Rd.keep {w w':World} {A:Option Addr} {xs:List Int} (h:Rd w A xs) (hf:Fr [] w w'):Rd w' A xs:=by
 intro h0
 obtain ⟨b,o,hA,hx⟩:=h h0
 exact ⟨b,o,hA,fun j hj=>hf.aT (hx j hj)⟩
theorem ax {P:Program} {id:Nat} {Q:Exit→Act→World→Prop} {a:Act} {w:World} {l:List Oper} (h:wpQuiet P l.toArray (fun w'=>∃u:Ext w,w'=u.v) (fun a'=>∀w',(∃u:Ext w,w'=u.v)→Q .normal a' w') l a) (hm:P.follows .mixedOrders=true:=by kernel_rfl) (hB:Region.lexB .any l.toArray=true:=by kernel_rfl):(Code.region id l.toArray true).wp P Q a w:=
 wp_region_quiet (C:=fun w'=>∃u:Ext w,w'=u.v) hm hB ⟨⟨_,(Fr.refl [] w).drew⟩,rfl⟩ (by simpa using h)
theorem gO {P:Program} {ops:Array Oper} {w:World} {Q:Act→World→Prop} {a:Act} (h:∀w',al (Fr [] w w')→Q a w'):wpQuiet P ops (fun w'=>∃u:Ext w,w'=u.v) (fun a'=>∀w',(∃u:Ext w,w'=u.v)→Q a' w') [] a:=
 wpQuiet_nil (fun w' ⟨u,hu⟩=>h w' (hu▸u.fr))
theorem anI {w:World} {p0 p1 p2 p3 p4 p5 p6 p7:Addr} {v0 v1 v2 v3 v4 v5 v6 v7:Value} (c0:w.cell? p0=some v0) (c1:w.cell? p1=some v1) (c2:w.cell? p2=some v2) (c3:w.cell? p3=some v3) (c4:w.cell? p4=some v4) (c5:w.cell? p5=some v5) (c6:w.cell? p6=some v6) (c7:w.cell? p7=some v7):(∀u:Ext w,u.v.cell? p0=some v0)∧(∀u:Ext w,u.v.cell? p1=some v1)∧(∀u:Ext w,u.v.cell? p2=some v2)∧(∀u:Ext w,u.v.cell? p3=some v3)∧(∀u:Ext w,u.v.cell? p4=some v4)∧(∀u:Ext w,u.v.cell? p5=some v5)∧(∀u:Ext w,u.v.cell? p6=some v6)∧(∀u:Ext w,u.v.cell? p7=some v7):=⟨Ext.cell c0,Ext.cell c1,Ext.cell c2,Ext.cell c3,Ext.cell c4,Ext.cell c5,Ext.cell c6,Ext.cell c7⟩
theorem bV {P:Program} {f:FuncId} {args:Array Value} {w:World} {u:Ext w} {v:Value}
  (h:Calls P f args u.v fun e w'=>e= .returned v∧Fr [] u.v w'):Calls P f args u.v fun e xu=>e= .returned v∧∃x:Ext w,xu=x.v:=
 h.mono fun _ w' ⟨he,hf⟩=>⟨he,⟨w',u.fr.aj hf⟩,rfl⟩
theorem bk {P:Program} {f:FuncId} {args:Array Value} {w:World} {u:Ext w} {v:Value}
  (h:Calls P f args u.v fun e w'=>e= .returned v∧u.v=w'):Calls P f args u.v fun e xu=>e= .returned v∧∃x:Ext w,xu=x.v:=
 h.mono fun _ w' ⟨he,hf⟩=>⟨he,u,hf.symm⟩
end Go.Proofs.YtdgplmgfkliijaaGreat
