/- Parts of a proof. -/
import Derived.Test.YtjmmpfjcpdepjaaGreatDoorGAA
import Derived.Deep.LoopGhost
import Derived.BigRegion
import Derived.Deep.RegionHeld3
import Derived.BigQuiet
import Derived.Deep.DeepCutAuto
import Derived.WalkLawsBesides
set_option linter.unusedVariables false
set_option linter.unusedSimpArgs false
set_option maxHeartbeats 2000000
set_option maxRecDepth 100000
namespace Go.Proofs.YtjmmpfjcpdepjaaGreatDoor
section
open Go.RowKit
structure jW where
 v:Int
 l:Int
 r:Int
instance:Inhabited jW:=⟨⟨0,0,0⟩⟩
def jW.free:jW:=⟨0,-1,0⟩
def flat:List jW->List Value
 |[]=>[]
 |c::cs=> .int .i64 c.v:: .int .i64 c.l:: .int .i64 c.r::flat cs
theorem EQ (a b:List jW):flat (a++b)=flat a++flat b:=by
 induction a with
 |nil=>rfl
 |cons c cs ih=>simp[flat,ih]
theorem Rh:∀(cs:List jW) (i:Nat),i<cs.length->(flat cs)[i*3]? =some (.int .i64 (cs[i]!).v)/\(flat cs)[i*3+1]? =some (.int .i64 (cs[i]!).l)/\(flat cs)[i*3+2]? =some (.int .i64 (cs[i]!).r):=by
 intro cs;induction cs with
 |nil=>intro i h;simp at h
 |cons c cs ih=>
  intro i h;cases i with
  |zero=>simp[flat]
  |succ i=>
   have :=ih i (by simpa using h);have e:(i+1)*3=i*3+1+1+1:=by omega
   rw[e];simpa[flat]using this
theorem Rg:∀(cs:List jW) (i:Nat) (c:jW),i<cs.length->(((flat cs).set (i*3) (.int .i64 c.v)).set (i*3+1) (.int .i64 c.l)).set (i*3+2) (.int .i64 c.r)=flat (cs.set i c):=by
 intro cs;induction cs with
 |nil=>intro i _ h;simp at h
 |cons d cs ih=>
  intro i c h;cases i with
  |zero=>simp[flat]
  |succ i=>
   have :=ih i c (by simpa using h);have e:(i+1)*3=i*3+1+1+1:=by omega
   rw[e];simp only[flat,List.set_cons_succ];rw[this]
def Cls (w:World) (A:Option Addr) (c:Nat) (cs:List jW):Prop:=w.ownsRow 0 150 3 (.slice A cs.length c) cs.length (flat cs)
namespace Cls
variable {w w':World} {A:Option Addr} {c:Nat} {cs:List jW}
theorem form (h:Cls w A c cs):(A=none/\c=0/\cs=[])\/∃g,A=some ⟨g,0,none⟩/\g<w.heap.size/\cs.length<=c/\c<=maxLen:=by
 rcases h.2 with⟨h1,h2⟩ |⟨g,cap,cur,hv,_,hg,hn,hm,_⟩
 ·simp only[Value.slice.injEq]at h1;exact .inl ⟨h1.1,h1.2.2,aP h2⟩
 ·simp only[Value.slice.injEq,true_and]at hv;obtain⟨rfl,rfl⟩:=hv;exact .inr ⟨g,rfl,At.lt (t:=150) hg,hn,hm⟩
theorem pos {i:Nat} (h:Cls w A c cs) (hi:i<cs.length):∃g,A=some ⟨g,0,none⟩/\g<w.heap.size:=by
 rcases h.form with⟨_,_,rfl⟩ |⟨g,h1,h2,_⟩
 ·simp at hi
 ·exact⟨g,h1,h2⟩
theorem cell {g:Nat} (h:Cls w (some ⟨g,0,none⟩) c cs) {i:Nat} (hi:i<cs.length):
  w.cell? ⟨g,i*3,none⟩=some (.int .i64 (cs[i]!).v)/\w.cell? ⟨g,i*3+1,none⟩=some (.int .i64 (cs[i]!).l)/\w.cell? ⟨g,i*3+2,none⟩=some (.int .i64 (cs[i]!).r):=by
 obtain⟨h1,h2,h3⟩:=Rh cs i hi;refine⟨?_,?_,?_⟩
 ·rw[World.ownsRow.cellAt h _ (by omega)];exact h1
 ·rw[World.ownsRow.cellAt h _ (by omega)];exact h2
 ·rw[World.ownsRow.cellAt h _ (by omega)];exact h3
theorem frozen {g:Nat} (h:Cls w (some ⟨g,0,none⟩) c cs) (i:Nat):w.frozen? ⟨g,i,none⟩=false:=World.ownsRow.frozenAt h i
theorem eu {g:Nat} (h:Cls w (some ⟨g,0,none⟩) c cs) {i:Nat} (hi:i<cs.length) (x:jW):
  Cls (((w.setCell ⟨g,i*3,none⟩ (.int .i64 x.v)).setCell ⟨g,i*3+1,none⟩ (.int .i64 x.l)).setCell ⟨g,i*3+2,none⟩ (.int .i64 x.r)) (some ⟨g,0,none⟩) c (cs.set i x):=by
 have h1:=(World.ownsRow.stored h (i*3) (.int .i64 x.v)).1;have h2:=(World.ownsRow.stored h1 (i*3+1) (.int .i64 x.l)).1;have h3:=(World.ownsRow.stored h2 (i*3+2) (.int .i64 x.r)).1;unfold Cls;rw[Rg cs i x hi]at h3;rw[ao];exact h3
theorem JX:∀k,(Value.slice A cs.length c).ownBlock=some k->k∈ak A:=fun k hk=>(jl k).1 hk
theorem gN (h:Cls w A c cs) {p:Addr} (hp:p.block∉ak A) (u:Value):Cls (w.setCell p u) A c cs:=
 Fr.own (S:=[p.block]) ((Fr.refl [p.block] w).setCell (.inl (by simp)) u) h (fun k hk=>by have :=JX k hk;simp only[ai];rintro rfl;exact hp this)
theorem fr {S:List Nat} (h:Cls w A c cs) (hf:Fr S w w') (hd:∀k,k∈ak A->k∉S):Cls w' A c cs:=hf.own h (fun k hk=>hd k (JX k hk))
theorem alloc (h:Cls w A c cs) (o:Obj):Cls (w.alloc o) A c cs:=World.ownsRow.alloc h o
theorem lt (h:Cls w A c cs):∀k,k∈ak A->k<w.heap.size:=by
 rcases h.form with⟨rfl,_⟩ |⟨g,rfl,h1,_⟩
 ·simp[ak]
 ·simpa[ak]using h1
theorem len (h:Cls w A c cs):cs.length<=maxLen:=by
 rcases h.form with⟨_,_,rfl⟩ |⟨g,_,_,h1,h2⟩
 ·simp[maxLen]
 ·omega
end Cls
structure Tr where
 cells:List jW
 lits:List Int
 levels:List Int
structure eM where
 a:Nat
 A1:Option Addr
 c1:Nat
 A2:Option Addr
 c2:Nat
 A3:Option Addr
 c3:Nat
def eM.fp (L:eM):List Nat:=L.a::(ak L.A1++(ak L.A2++ak L.A3))
structure TrAt (w:World) (L:eM) (T:Tr):Prop where
 obj:At w L.a 153 #[.slice L.A1 T.cells.length L.c1, .slice L.A2 T.lits.length L.c2, .slice L.A3 T.levels.length L.c3]
 cells:Cls w L.A1 L.c1 T.cells
 lits:Ints w L.A2 L.c2 T.lits
 levels:Ints w L.A3 L.c3 T.levels
 nodup:L.fp.Nodup
def Tr.jq (T:Tr) (v:Int):Bool:=decide (1<=v)&&decide (v<T.cells.length)
theorem Tr.dB {T:Tr} {v:Int} (h:T.jq v=true):1<=v/\v<T.cells.length:=by simpa[Tr.jq]using h
def Tr.kS (T:Tr) (v:Int):jW:=T.cells[v.toNat]!
theorem oX {a b:Bool} (h:a=b):Ending.returned (.bool a)= .returned (.bool b):=by rw[h]
theorem np {k:IntKind} {a b:Int} (h:a=b):Ending.returned (.int k a)= .returned (.int k b):=by rw[h]
theorem dG (w:World) (L:eM) (T:Tr) (h:TrAt w L T) (v:Int) (b:Bool) (hb:T.jq v=b):
  Calls Tryz.prog 124 #[.pointer (some ⟨L.a,0,none⟩), .int .i64 v] w fun e w'=>e= .returned (.bool b)/\w=w':=by
 subst hb;have c1:=h.obj.cell 0;simp at c1;unfold Tr.jq;by_cases h0:1<=v
 ·by_cases h1:v<T.cells.length
  ·go_enter Tryz.func124,Tryz.ntmps124;go_wp2;go_ret;exact⟨oX (by simp[h0,h1]),rfl⟩
  ·go_enter Tryz.func124,Tryz.ntmps124;go_wp2;go_ret;exact⟨oX (by simp[h1]),rfl⟩
 ·go_enter Tryz.func124,Tryz.ntmps124;go_wp2;go_ret;exact⟨oX (by simp;omega),rfl⟩
theorem TrAt.iD {w:World} {L:eM} {T:Tr} (h:TrAt w L T) {v:Int} (h0:0<=v) (h1:v<T.cells.length):
  ∃g,L.A1=some ⟨g,0,none⟩/\w.cell? ⟨g,v.toNat*3,none⟩=some (.int .i64 (T.kS v).v)/\w.cell? ⟨g,v.toNat*3+1,none⟩=some (.int .i64 (T.kS v).l)/\w.cell? ⟨g,v.toNat*3+2,none⟩=some (.int .i64 (T.kS v).r)/\∀j,w.frozen? ⟨g,j,none⟩=false:=by
 obtain⟨g,hg,_⟩:=h.cells.pos (i:=v.toNat) (by omega);refine⟨g,hg,?_⟩;have :=h.cells;rw[hg]at this;obtain⟨a,b,c⟩:=this.cell (i:=v.toNat) (by omega);exact⟨a,b,c,this.frozen⟩
def Tr.dp (T:Tr) (v:Int):Int:=if T.jq v=true then(T.kS v).l else -1
def Tr.fy (T:Tr) (v:Int):Int:=if T.jq v=true then(T.kS v).r else 0
theorem jQ (w:World) (L:eM) (T:Tr) (h:TrAt w L T) (v:Int):
  Calls Tryz.prog 144 #[.pointer (some ⟨L.a,0,none⟩), .int .i64 v] w fun e w'=>e= .returned (.int .i64 (T.dp v))/\w=w':=by
 have o1:=h.obj.cell 0;simp at o1;unfold Tr.dp;cases hb:T.jq v with
 |true=>
  obtain⟨h0,h1⟩:=Tr.dB hb;obtain⟨g,hg,c0,c1,c2,_⟩:=h.iD (v:=v) (by omega) h1;rw[hg]at o1;have HB:=aa hb;have HH:=aa h;clear hb h hg;go_enter Tryz.func144,Tryz.ntmps144;go_wp2_with fail;refine(dG _ L T HH.out v true HB.out).mono ?_;rintro e w1 ⟨rfl,rfl⟩;go_wp2_with fail;go_ret;exact⟨np (by simp),rfl⟩
 |false=>
  have HB:=aa hb;have HH:=aa h;clear hb h;go_enter Tryz.func144,Tryz.ntmps144;go_wp2_with fail;refine(dG _ L T HH.out v false HB.out).mono ?_;rintro e w1 ⟨rfl,rfl⟩;go_wp2_with fail;go_ret;exact⟨np (by simp),rfl⟩
theorem kw (w:World) (L:eM) (T:Tr) (h:TrAt w L T) (v:Int):
  Calls Tryz.prog 200 #[.pointer (some ⟨L.a,0,none⟩), .int .i64 v] w fun e w'=>e= .returned (.int .i64 (T.fy v))/\w=w':=by
 have o1:=h.obj.cell 0;simp at o1;unfold Tr.fy;cases hb:T.jq v with
 |true=>
  obtain⟨h0,h1⟩:=Tr.dB hb;obtain⟨g,hg,c0,c1,c2,_⟩:=h.iD (v:=v) (by omega) h1;rw[hg]at o1;have HB:=aa hb;have HH:=aa h;clear hb h hg;go_enter Tryz.func200,Tryz.ntmps200;go_wp2_with fail;refine(dG _ L T HH.out v true HB.out).mono ?_;rintro e w1 ⟨rfl,rfl⟩;go_wp2_with fail;go_ret;exact⟨np (by simp),rfl⟩
 |false=>
  have HB:=aa hb;have HH:=aa h;clear hb h;go_enter Tryz.func200,Tryz.ntmps200;go_wp2_with fail;refine(dG _ L T HH.out v false HB.out).mono ?_;rintro e w1 ⟨rfl,rfl⟩;go_wp2_with fail;go_ret;exact⟨np (by simp),rfl⟩
theorem lO (w:World) (L:eM) (T:Tr) (h:TrAt w L T):
  Calls Tryz.prog 141 #[.pointer (some ⟨L.a,0,none⟩)] w fun e w'=>e= .returned (.int .i64 T.levels.length)/\w=w':=by
 have o1:=h.obj.cell 2;simp at o1;clear h;go_enter Tryz.func141,Tryz.ntmps141;go_wp2;go_ret;exact⟨rfl,rfl⟩
theorem kQ (w:World) (L:eM) (T:Tr) (h:TrAt w L T):
  Calls Tryz.prog 142 #[.pointer (some ⟨L.a,0,none⟩)] w fun e w'=>e= .returned (.int .i64 T.lits.length)/\w=w':=by
 have o1:=h.obj.cell 1;simp at o1;clear h;go_enter Tryz.func142,Tryz.ntmps142;go_wp2;go_ret;exact⟨rfl,rfl⟩
def Tr.atB (T:Tr) (i:Int):Int:=if 0<=i/\i<T.lits.length then T.lits[i.toNat]! else 0
theorem kU (w:World) (L:eM) (T:Tr) (h:TrAt w L T) (i:Int):
  Calls Tryz.prog 143 #[.pointer (some ⟨L.a,0,none⟩), .int .i64 i] w fun e w'=>e= .returned (.int .i64 (T.atB i))/\w=w':=by
 have o1:=h.obj.cell 1;simp at o1;unfold Tr.atB;by_cases h0:0<=i
 ·by_cases h1:i<T.lits.length
  ·obtain⟨g,hg,_⟩:=h.lits.pos (i:=i.toNat) (by omega);have hc:=h.lits;rw[hg]at hc o1;have c1:=hc.cell (i:=i.toNat) (by omega);rw[aae ⟨h0,h1⟩];obtain⟨y,hy⟩:∃y,T.lits[i.toNat]! =y:=⟨_,rfl⟩
   rw[hy]at c1⊢;clear h hg hc hy;go_enter Tryz.func143,Tryz.ntmps143;go_wp2;go_ret;exact⟨rfl,rfl⟩
  ·rw[aac (by omega)];clear h;go_enter Tryz.func143,Tryz.ntmps143;go_wp2;go_ret;exact⟨rfl,rfl⟩
 ·rw[aac (by omega)];clear h;go_enter Tryz.func143,Tryz.ntmps143;go_wp2;go_ret;exact⟨rfl,rfl⟩
def tv (l:Int):Int:=if l= -9223372036854775808 then l else if l<0 then -l else l
theorem ni {l:Int} (h:0<=l):tv l=l:=by unfold tv;rw[aac (by omega),aac (by omega)]
theorem qV {l:Int} (h:l<0) (h2: -9223372036854775808<l):tv l= -l:=by unfold tv;rw[aac (by omega),aae h]
theorem oV {l:Int} (h:l= -9223372036854775808):tv l=l:=by unfold tv;rw[aae h]
theorem LT {l:Int} (h:l= -9223372036854775808):wrap64 (-l)=l:=by subst h;unfold wrap64;omega
theorem mN (l:Int) (h: -9223372036854775808<=l):(0<=l/\tv l=l)\/(l<0/\ -9223372036854775807<=l/\tv l= -l)\/(l<0/\tv l=l/\wrap64 (-l)=l):=by
 by_cases h0:0<=l
 ·exact .inl ⟨h0,ni h0⟩
 ·by_cases h1:l= -9223372036854775808
  ·exact .inr (.inr ⟨by omega,oV h1,LT h1⟩)
  ·exact .inr (.inl ⟨by omega,by omega,qV (by omega) (by omega)⟩)
def Tr.lB (T:Tr) (l:Int):Int:=if T.jq (tv l)=true then(if l<0 then -(T.kS (tv l)).v else(T.kS (tv l)).v)else 0
theorem ee (w:World) (L:eM) (T:Tr) (h:TrAt w L T) (l:Int) (Vm: -9223372036854775808<=l) (Z4:l<=9223372036854775807) (xj:∀v:Int,1<=v->v<T.cells.length-> -1<=(T.kS v).v/\(T.kS v).v<=1):
  Calls Tryz.prog 84 #[.pointer (some ⟨L.a,0,none⟩), .int .i64 l] w fun e w'=>e= .returned (.int .i64 (T.lB l))/\w=w':=by
 have o1:=h.obj.cell 0;simp at o1;unfold Tr.lB;rcases mN l Vm with⟨hl,hv⟩ |⟨hl,m6,hv⟩ |⟨hl,hv,hw⟩
 ·rw[hv];clear hv Vm;cases hb:T.jq l with
  |true=>
   obtain⟨h0,h1⟩:=Tr.dB hb;obtain⟨g,hg,c0,c1,c2,_⟩:=h.iD (v:=l) (by omega) h1;rw[hg]at o1;obtain⟨y,hy⟩:∃y,(T.kS (l)).v=y:=⟨_,rfl⟩
   have lE:=xj _ (by omega) h1;rw[hy]at c0 lE⊢;rw[aae rfl,aac (by omega)];have HB:=aa hb;have HH:=aa h;clear hb h hg hy c1 c2 xj;go_enter Tryz.func84,Tryz.ntmps84;go_wp2_with fail;refine(dG _ L T HH.out _ true HB.out).mono ?_;rintro e w1 ⟨rfl,rfl⟩;go_wp2_with fail;go_ret;exact⟨rfl,rfl⟩
  |false=>
   have HB:=aa hb;have HH:=aa h;clear hb h;go_enter Tryz.func84,Tryz.ntmps84;go_wp2_with fail;refine(dG _ L T HH.out _ false HB.out).mono ?_;rintro e w1 ⟨rfl,rfl⟩;go_wp2_with fail;go_ret;exact⟨by simp,rfl⟩
 ·rw[hv];clear hv Vm;cases hb:T.jq (-l)with
  |true=>
   obtain⟨h0,h1⟩:=Tr.dB hb;obtain⟨g,hg,c0,c1,c2,_⟩:=h.iD (v:= -l) (by omega) h1;rw[hg]at o1;obtain⟨y,hy⟩:∃y,(T.kS (-l)).v=y:=⟨_,rfl⟩
   have lE:=xj _ (by omega) h1;rw[hy]at c0 lE⊢;rw[aae rfl,aae hl];have HB:=aa hb;have HH:=aa h;clear hb h hg hy c1 c2 xj;go_enter Tryz.func84,Tryz.ntmps84;go_wp2_with fail;refine(dG _ L T HH.out _ true HB.out).mono ?_;rintro e w1 ⟨rfl,rfl⟩;go_wp2_with fail;go_ret;exact⟨rfl,rfl⟩
  |false=>
   have HB:=aa hb;have HH:=aa h;clear hb h;go_enter Tryz.func84,Tryz.ntmps84;go_wp2_with fail;refine(dG _ L T HH.out _ false HB.out).mono ?_;rintro e w1 ⟨rfl,rfl⟩;go_wp2_with fail;go_ret;exact⟨by simp,rfl⟩
 ·have hb:T.jq l=false:=by
   cases hh:T.jq l with
   |false=>rfl
   |true=>have :=(Tr.dB hh).1;omega
  rw[hv,hb];have HB:=aa hb;have HH:=aa h;clear hb h hv Vm;go_enter Tryz.func84,Tryz.ntmps84;go_wp2_with fail;refine(dG _ L T HH.out _ false HB.out).mono ?_;rintro e w1 ⟨rfl,rfl⟩;go_wp2_with fail;go_ret;exact⟨by simp,rfl⟩
theorem gQ {a:Nat} {x y z:List Nat} (h:(a::(x++(y++z))).Nodup):
  (∀k,k∈x->k≠a/\k∉y/\k∉z)/\(∀k,k∈y->k≠a/\k∉x/\k∉z)/\(∀k,k∈z->k≠a/\k∉x/\k∉y):=by
 simp only[fG,ah,List.nodup_append]at h;obtain⟨h1,h2,⟨h3,h4,h5⟩,h6⟩:=h;refine⟨fun k hk=>⟨?_,?_,?_⟩,fun k hk=>⟨?_,?_,?_⟩,fun k hk=>⟨?_,?_,?_⟩⟩
 ·rintro rfl;exact h1 (.inl hk)
 ·exact fun hy=>h6 k hk k (.inl hy) rfl
 ·exact fun hz=>h6 k hk k (.inr hz) rfl
 ·rintro rfl;exact h1 (.inr (.inl hk))
 ·exact fun hx=>h6 k hx k (.inl hk) rfl
 ·exact fun hz=>h5 k hk k hz rfl
 ·rintro rfl;exact h1 (.inr (.inr hk))
 ·exact fun hx=>h6 k hx k (.inr hk) rfl
 ·exact fun hy=>h5 k hy k hk rfl
def eM.ext (L L':eM) (w:World):Prop:=L'.a=L.a/\∀k,k∈L'.fp->k∈L.fp\/w.heap.size<=k
theorem eM.cv (L:eM) (w:World):L.ext L w:=⟨rfl,fun _ h=> .inl h⟩
theorem eM.aV {L M N:eM} {w w':World} {S:List Nat} (h:L.ext M w) (k:M.ext N w') (hf:Fr S w w'):L.ext N w:=
 ⟨k.1.trans h.1,fun x hx=>(k.2 x hx).elim (fun hm=>h.2 x hm) (fun hm=> .inr (aE hf.size hm))⟩
namespace TrAt
variable {w w':World} {L:eM} {T:Tr}
theorem drew (h:TrAt w L T):TrAt w.drew L T:=⟨h.obj,h.cells,h.lits,h.levels,h.nodup⟩
theorem alloc (h:TrAt w L T) (o:Obj):TrAt (w.alloc o) L T:=⟨h.obj.alloc o,h.cells.alloc o,h.lits.alloc o,h.levels.alloc o,h.nodup⟩
theorem fr {S:List Nat} (h:TrAt w L T) (hf:Fr S w w') (hd:∀k,k∈L.fp->k∉S):TrAt w' L T:=
 ⟨hf.at_ h.obj (hd _ (by simp[eM.fp])),h.cells.fr hf fun k hk=>hd k (by simp[eM.fp,hk]),h.lits.fr hf fun k hk=>hd k (by simp[eM.fp,hk]),h.levels.fr hf fun k hk=>hd k (by simp[eM.fp,hk]),h.nodup⟩
theorem lt (h:TrAt w L T):∀k,k∈L.fp->k<w.heap.size:=by
 intro k hk;simp only[eM.fp,av,ah]at hk;rcases hk with rfl |hk |hk |hk
 ·exact h.obj.lt
 ·exact h.cells.lt k hk
 ·exact h.lits.lt k hk
 ·exact h.levels.lt k hk
theorem LD (h:TrAt w L T) {g:Nat} (hg:L.A1=some ⟨g,0,none⟩) {i:Nat} (hi:i<T.cells.length) (x:jW):
  TrAt (((w.setCell ⟨g,i*3,none⟩ (.int .i64 x.v)).setCell ⟨g,i*3+1,none⟩ (.int .i64 x.l)).setCell ⟨g,i*3+2,none⟩ (.int .i64 x.r)) L { T with cells:=T.cells.set i x }:=by
 obtain⟨h1,h2,h3⟩:=gQ h.nodup;have hm:g∈ak L.A1:=by simp[hg,ak]
 have hf:Fr [g] w (((w.setCell ⟨g,i*3,none⟩ (.int .i64 x.v)).setCell ⟨g,i*3+1,none⟩ (.int .i64 x.l)).setCell ⟨g,i*3+2,none⟩ (.int .i64 x.r)):=
  (((Fr.refl [g] w).setCell (.inl (by simp)) _).setCell (.inl (by simp)) _).setCell (.inl (by simp)) _
 have ne:∀k,k≠g->k∉[g]:=fun k e=>by simpa using e
 refine⟨?_,?_,h.lits.fr hf fun k hk=>ne k (fun e=>(h2 k hk).2.1 (e▸hm)),h.levels.fr hf fun k hk=>ne k (fun e=>(h3 k hk).2.1 (e▸hm)),h.nodup⟩
 ·have :=hf.at_ h.obj (ne _ (fun e=>(h1 g hm).1 e.symm));simpa using this
 ·have :=h.cells;rw[hg]at this⊢;exact this.eu hi x
theorem pL (w:World) (L:eM) {g:Nat} (hg:L.A1=some ⟨g,0,none⟩) (i j k:Nat) (x y z:Value):Fr L.fp w (((w.setCell ⟨g,i,none⟩ x).setCell ⟨g,j,none⟩ y).setCell ⟨g,k,none⟩ z):=
 (((Fr.refl L.fp w).setCell (.inl (by simp[eM.fp,hg,ak])) _).setCell (.inl (by simp[eM.fp,hg,ak])) _).setCell (.inl (by simp[eM.fp,hg,ak])) _
theorem J0 (h:TrAt w L T) {g cap:Nat} {lits:List Int} (hi:Ints w' (some ⟨g,0,none⟩) cap lits) (hf:Fr (ak L.A2) w w') (hg:g∈ak L.A2\/w.heap.size<=g):
  TrAt (w'.setCell ⟨L.a,1,none⟩ (.slice (some ⟨g,0,none⟩) lits.length cap)) { L with A2:=some ⟨g,0,none⟩,c2:=cap } { T with lits:=lits }/\
  L.ext { L with A2:=some ⟨g,0,none⟩,c2:=cap } w/\Fr L.fp w (w'.setCell ⟨L.a,1,none⟩ (.slice (some ⟨g,0,none⟩) lits.length cap)):=by
 obtain⟨h1,h2,h3⟩:=gQ h.nodup;have bw:=h.lt;have nG:g≠L.a/\g∉ak L.A1/\g∉ak L.A3:=by
  rcases hg with q |q
  ·exact h2 g q
  ·refine⟨?_,fun k=> ?_,fun k=> ?_⟩
   ·have :=h.obj.lt;omega
   ·have :=h.cells.lt _ k;omega
   ·have :=h.levels.lt _ k;omega
 have bG:ak (some ⟨g,0,none⟩)=[g]:=rfl;refine⟨⟨?_,?_,?_,?_,?_⟩,⟨rfl,?_⟩,?_⟩
 ·have :=(hf.at_ h.obj (fun k=>(h2 _ k).1 rfl)).eu 1 (.slice (some ⟨g,0,none⟩) lits.length cap);simpa using this
 ·exact(h.cells.fr hf fun k hk qG=>(h1 k hk).2.1 qG).gN (fun k=>(h1 _ k).1 rfl) _
 ·exact hi.gN (by rw[bG];simpa using fun e=>nG.1 e.symm) _
 ·exact(h.levels.fr hf fun k hk qG=>(h3 k hk).2.2 qG).gN (fun k=>(h3 _ k).1 rfl) _
 ·have hn:=h.nodup;simp only[eM.fp,fG,ah,List.nodup_append,bG,ai,cd,not_false_eq_true,List.nodup_nil,true_and]at hn⊢;obtain⟨n1,n2,⟨n3,n4,n5⟩,n6⟩:=hn;refine⟨?_,n2,⟨n4,?_⟩,?_⟩
  ·rintro(hk |hk |hk)
   ·exact n1 (.inl hk)
   ·exact nG.1 hk.symm
   ·exact n1 (.inr (.inr hk))
  ·intro a ha b hb e;subst ha;subst e;exact nG.2.2 hb
  ·intro k hk b hb e;subst e;rcases hb with hb |hb
   ·subst hb;exact nG.2.1 hk
   ·exact n6 k hk k (.inr hb) rfl
 ·intro k hk;simp only[eM.fp,bG,av,ah,cd,or_false]at hk⊢;rcases hk with hk |hk |hk |hk
  ·exact .inl (.inl hk)
  ·exact .inl (.inr (.inl hk))
  ·subst hk;exact hg.imp (fun q=> .inr (.inr (.inl q))) id
  ·exact .inl (.inr (.inr (.inr hk)))
 ·exact(hf.mono (T:=L.fp) fun k hk=> .inl (by simp[eM.fp,hk])).setCell (.inl (by simp[eM.fp])) _
end TrAt
def Tr.pb (T:Tr) (l r:Int):Tr:={ cells:=T.cells.set (tv l).toNat ⟨if l<0 then -1 else 1,T.levels.length,r⟩,lits:=T.lits++[l],levels:=T.levels }
theorem Dd (w:World) (L:eM) (T:Tr) (h:TrAt w L T) (l r:Int) (hl:0<=l) (Z4:l<=9223372036854775807) (hb:T.jq (l)=true) (hf:T.kS (l)=jW.free) (hlen:T.lits.length<17592186044416):
  Calls Tryz.prog 87 #[.pointer (some ⟨L.a,0,none⟩), .int .i64 l, .int .i64 r] w fun e w'=>e= .returned (.bool true)/\∃L',TrAt w' L' (T.pb l r)/\L.ext L' w/\Fr L.fp w w':=by
 have o0:=h.obj.cell 0;have o1:=h.obj.cell 1;have o2:=h.obj.cell 2;simp at o0 o1 o2;obtain⟨h0,h1⟩:=Tr.dB hb;obtain⟨g,hg,c0,c1,c2,tN⟩:=h.iD (v:=l) (by omega) h1;rw[hf]at c0 c1 c2;simp only[jW.free]at c0 c1 c2;rw[hg]at o0;have f0:=tN (l.toNat*3);have f1:=tN (l.toNat*3+1);have f2:=tN (l.toNat*3+2);have bw:=h.lt L.a (by simp[eM.fp]);have ZQ:=h.lt g (by simp[eM.fp,hg,ak]);have HB:=aa hb;have HH:=aa h;have HG:=aa hg;clear hb h hf hg tN;have HV:Hid (tv l=l):=ni hl;go_enter Tryz.func87,Tryz.ntmps87;go_wp2_with fail;refine(dG _ L T HH.out _ true HB.out).mono ?_;rintro e w1 ⟨rfl,rfl⟩;go_wp2_with fail;go_region;obtain⟨V,hV⟩:∃V,V=((((w.setCell ⟨g,l.toNat*3,none⟩ (.int .i64 1)).setCell ⟨g,l.toNat*3+1,none⟩ (.int .i64 T.levels.length)).setCell ⟨g,l.toNat*3+2,none⟩ (.int .i64 r)).alloc (.cells #[.int .i64 1, .int .i64 T.levels.length, .int .i64 r] 150)).drew:=⟨_,rfl⟩
 rw[<-hV];have hA:TrAt V L { T with cells:=T.cells.set l.toNat ⟨1,T.levels.length,r⟩}:=by rw[hV];exact((HH.out.LD HG.out (i:=l.toNat) (by omega) ⟨1,T.levels.length,r⟩).alloc _).drew
 have hF:Fr L.fp w V:=by rw[hV];exact((TrAt.pL w L HG.out _ _ _ _ _ _).alloc _).drew
 clear hV o0 o1 o2 c0 c1 c2 f0 f1 f2 ZQ bw;have o1:=hA.obj.cell 1;have q1:=hA.obj.frozen 1;simp at o1;have bw:=hA.lt L.a (by simp[eM.fp]);have HA:=aa hA;have HF:=aa hF;have HN:Hid (L.a∉ak L.A2):=fun hk=>((gQ hA.nodup).2.1 _ hk).1 rfl;clear hA hF;go_wp2_with (at_builtin;refine dd _ rfl _ _ rfl L.A2 L.c2 T.lits _ rfl rfl (HA.out.lits.alloc _) ⟨V.heap.size,0,none⟩ 1 l rfl (by simp) (by omega) ?_;intro g2 cap w2 pt bW fE lX;have q2:=bW.at_ (HA.out.obj.alloc _) HN.out;have q3:=q2.cell 1;have q4:=q2.frozen 1;simp at q3;have HI:=aa pt;have cw:=aa bW;have n8:=aa fE;clear q2 pt bW fE lX)
 go_ret;refine⟨rfl,?_⟩;have fE:g2∈ak L.A2\/(V.alloc (.cells #[.int .i64 l] 3)).heap.size<=g2:=n8.out.imp id (fun e=>by rw[e];exact ap _);obtain⟨hN,hX,hF3⟩:=(HA.out.alloc _).J0 HI.out cw.out fE;refine⟨_,?_,eM.aV (eM.cv L w) ⟨hX.1,fun k hk=>(hX.2 k hk).imp id (fun h=> ?_)⟩ HF.out,?_⟩
 ·have :=hN;unfold Tr.pb;rw[HV.out,aac (by omega)];simpa using this
 ·have :V.heap.size<=(V.alloc (.cells #[.int .i64 l] 3)).heap.size:=by simp
  exact aE this h
 ·have :=(HF.out.alloc (.cells #[.int .i64 l] 3)).trans hF3 (fun k hk=> .inl hk);simpa using this
theorem De (w:World) (L:eM) (T:Tr) (h:TrAt w L T) (l r:Int) (hl:l<0) (Vm: -9223372036854775807<=l) (hb:T.jq (-l)=true) (hf:T.kS (-l)=jW.free) (hlen:T.lits.length<17592186044416):
  Calls Tryz.prog 87 #[.pointer (some ⟨L.a,0,none⟩), .int .i64 l, .int .i64 r] w fun e w'=>e= .returned (.bool true)/\∃L',TrAt w' L' (T.pb l r)/\L.ext L' w/\Fr L.fp w w':=by
 have o0:=h.obj.cell 0;have o1:=h.obj.cell 1;have o2:=h.obj.cell 2;simp at o0 o1 o2;obtain⟨h0,h1⟩:=Tr.dB hb;obtain⟨g,hg,c0,c1,c2,tN⟩:=h.iD (v:= -l) (by omega) h1;rw[hf]at c0 c1 c2;simp only[jW.free]at c0 c1 c2;rw[hg]at o0;have f0:=tN ((-l).toNat*3);have f1:=tN ((-l).toNat*3+1);have f2:=tN ((-l).toNat*3+2);have bw:=h.lt L.a (by simp[eM.fp]);have ZQ:=h.lt g (by simp[eM.fp,hg,ak]);have HB:=aa hb;have HH:=aa h;have HG:=aa hg;clear hb h hf hg tN;have HV:Hid (tv l= -l):=qV hl (by omega);go_enter Tryz.func87,Tryz.ntmps87;go_wp2_with fail;refine(dG _ L T HH.out _ true HB.out).mono ?_;rintro e w1 ⟨rfl,rfl⟩;go_wp2_with fail;go_region;obtain⟨V,hV⟩:∃V,V=((((w.setCell ⟨g,(-l).toNat*3,none⟩ (.int .i64 (-1))).setCell ⟨g,(-l).toNat*3+1,none⟩ (.int .i64 T.levels.length)).setCell ⟨g,(-l).toNat*3+2,none⟩ (.int .i64 r)).alloc (.cells #[.int .i64 (-1), .int .i64 T.levels.length, .int .i64 r] 150)).drew:=⟨_,rfl⟩
 rw[<-hV];have hA:TrAt V L { T with cells:=T.cells.set (-l).toNat ⟨(-1),T.levels.length,r⟩}:=by rw[hV];exact((HH.out.LD HG.out (i:=(-l).toNat) (by omega) ⟨(-1),T.levels.length,r⟩).alloc _).drew
 have hF:Fr L.fp w V:=by rw[hV];exact((TrAt.pL w L HG.out _ _ _ _ _ _).alloc _).drew
 clear hV o0 o1 o2 c0 c1 c2 f0 f1 f2 ZQ bw;have o1:=hA.obj.cell 1;have q1:=hA.obj.frozen 1;simp at o1;have bw:=hA.lt L.a (by simp[eM.fp]);have HA:=aa hA;have HF:=aa hF;have HN:Hid (L.a∉ak L.A2):=fun hk=>((gQ hA.nodup).2.1 _ hk).1 rfl;clear hA hF;go_wp2_with (at_builtin;refine dd _ rfl _ _ rfl L.A2 L.c2 T.lits _ rfl rfl (HA.out.lits.alloc _) ⟨V.heap.size,0,none⟩ 1 l rfl (by simp) (by omega) ?_;intro g2 cap w2 pt bW fE lX;have q2:=bW.at_ (HA.out.obj.alloc _) HN.out;have q3:=q2.cell 1;have q4:=q2.frozen 1;simp at q3;have HI:=aa pt;have cw:=aa bW;have n8:=aa fE;clear q2 pt bW fE lX)
 go_ret;refine⟨rfl,?_⟩;have fE:g2∈ak L.A2\/(V.alloc (.cells #[.int .i64 l] 3)).heap.size<=g2:=n8.out.imp id (fun e=>by rw[e];exact ap _);obtain⟨hN,hX,hF3⟩:=(HA.out.alloc _).J0 HI.out cw.out fE;refine⟨_,?_,eM.aV (eM.cv L w) ⟨hX.1,fun k hk=>(hX.2 k hk).imp id (fun h=> ?_)⟩ HF.out,?_⟩
 ·have :=hN;unfold Tr.pb;rw[HV.out,aae hl];simpa using this
 ·have :V.heap.size<=(V.alloc (.cells #[.int .i64 l] 3)).heap.size:=by simp
  exact aE this h
 ·have :=(HF.out.alloc (.cells #[.int .i64 l] 3)).trans hF3 (fun k hk=> .inl hk);simpa using this
theorem TrAt.LR {w w':World} {L:eM} {T:Tr} (h:TrAt w L T) {g cap:Nat} {lv:List Int} (hi:Ints w' (some ⟨g,0,none⟩) cap lv) (hf:Fr (ak L.A3) w w') (hg:g∈ak L.A3\/w.heap.size<=g):
  TrAt (w'.setCell ⟨L.a,2,none⟩ (.slice (some ⟨g,0,none⟩) lv.length cap)) { L with A3:=some ⟨g,0,none⟩,c3:=cap } { T with levels:=lv }/\
  L.ext { L with A3:=some ⟨g,0,none⟩,c3:=cap } w/\Fr L.fp w (w'.setCell ⟨L.a,2,none⟩ (.slice (some ⟨g,0,none⟩) lv.length cap)):=by
 obtain⟨h1,h2,h3⟩:=gQ h.nodup;have nG:g≠L.a/\g∉ak L.A1/\g∉ak L.A2:=by
  rcases hg with q |q
  ·exact h3 g q
  ·refine⟨?_,fun k=> ?_,fun k=> ?_⟩
   ·have :=h.obj.lt;omega
   ·have :=h.cells.lt _ k;omega
   ·have :=h.lits.lt _ k;omega
 have bG:ak (some ⟨g,0,none⟩)=[g]:=rfl;refine⟨⟨?_,?_,?_,?_,?_⟩,⟨rfl,?_⟩,?_⟩
 ·have :=(hf.at_ h.obj (fun k=>(h3 _ k).1 rfl)).eu 2 (.slice (some ⟨g,0,none⟩) lv.length cap);simpa using this
 ·exact(h.cells.fr hf fun k hk qG=>(h1 k hk).2.2 qG).gN (fun k=>(h1 _ k).1 rfl) _
 ·exact(h.lits.fr hf fun k hk qG=>(h2 k hk).2.2 qG).gN (fun k=>(h2 _ k).1 rfl) _
 ·exact hi.gN (by rw[bG];simpa using fun e=>nG.1 e.symm) _
 ·have hn:=h.nodup;simp only[eM.fp,fG,ah,List.nodup_append,bG,ai,cd,not_false_eq_true,List.nodup_nil,true_and]at hn⊢;obtain⟨n1,n2,⟨n3,n4,n5⟩,n6⟩:=hn;refine⟨?_,n2,⟨n3,?_⟩,?_⟩
  ·rintro(hk |hk |hk)
   ·exact n1 (.inl hk)
   ·exact n1 (.inr (.inl hk))
   ·exact nG.1 hk.symm
  ·intro a ha b hb e;subst hb;subst e;exact nG.2.2 ha
  ·intro k hk b hb e;subst e;rcases hb with hb |hb
   ·exact n6 k hk k (.inl hb) rfl
   ·subst hb;exact nG.2.1 hk
 ·intro k hk;simp only[eM.fp,bG,av,ah,cd,or_false]at hk⊢;rcases hk with hk |hk |hk |hk
  ·exact .inl (.inl hk)
  ·exact .inl (.inr (.inl hk))
  ·exact .inl (.inr (.inr (.inl hk)))
  ·subst hk;exact hg.imp (fun q=> .inr (.inr (.inr q))) id
 ·exact(hf.mono (T:=L.fp) fun k hk=> .inl (by simp[eM.fp,hk])).setCell (.inl (by simp[eM.fp])) _
def Tr.ij (T:Tr) (l:Int):Bool:=T.jq (tv l)&&decide ((T.kS (tv l)).v=0/\(T.kS (tv l)).l= -1/\(T.kS (tv l)).r=0)
theorem uJ (w:World) (L:eM) (T:Tr) (h:TrAt w L T) (l r:Int) (hl:0<=l) (Z4:l<=9223372036854775807) (hb:T.jq (l)=false):
  Calls Tryz.prog 87 #[.pointer (some ⟨L.a,0,none⟩), .int .i64 l, .int .i64 r] w fun e w'=>e= .returned (.bool false)/\w=w':=by
 have HB:=aa hb;have HH:=aa h;clear hb h;go_enter Tryz.func87,Tryz.ntmps87;go_wp2_with fail;refine(dG _ L T HH.out _ false HB.out).mono ?_;rintro e w1 ⟨rfl,rfl⟩;go_wp2_with fail;go_ret;exact⟨rfl,rfl⟩
theorem uK (w:World) (L:eM) (T:Tr) (h:TrAt w L T) (l r:Int) (hl:l<0) (Vm: -9223372036854775807<=l) (hb:T.jq (-l)=false):
  Calls Tryz.prog 87 #[.pointer (some ⟨L.a,0,none⟩), .int .i64 l, .int .i64 r] w fun e w'=>e= .returned (.bool false)/\w=w':=by
 have HB:=aa hb;have HH:=aa h;clear hb h;go_enter Tryz.func87,Tryz.ntmps87;go_wp2_with fail;refine(dG _ L T HH.out _ false HB.out).mono ?_;rintro e w1 ⟨rfl,rfl⟩;go_wp2_with fail;go_ret;exact⟨rfl,rfl⟩
theorem uL (w:World) (L:eM) (T:Tr) (h:TrAt w L T) (l r:Int) (hl:l<0) (hw:wrap64 (-l)=l) (hb:T.jq (l)=false):
  Calls Tryz.prog 87 #[.pointer (some ⟨L.a,0,none⟩), .int .i64 l, .int .i64 r] w fun e w'=>e= .returned (.bool false)/\w=w':=by
 have HB:=aa hb;have HH:=aa h;clear hb h;go_enter Tryz.func87,Tryz.ntmps87;go_wp2_with fail;refine(dG _ L T HH.out _ false HB.out).mono ?_;rintro e w1 ⟨rfl,rfl⟩;go_wp2_with fail;go_ret;exact⟨rfl,rfl⟩
theorem rP (w:World) (L:eM) (T:Tr) (h:TrAt w L T) (l r:Int) (hl:0<=l) (Z4:l<=9223372036854775807) (hb:T.jq (l)=true) (hf:¬((T.kS (l)).v=0/\(T.kS (l)).l= -1/\(T.kS (l)).r=0)):
  Calls Tryz.prog 87 #[.pointer (some ⟨L.a,0,none⟩), .int .i64 l, .int .i64 r] w fun e w'=>e= .returned (.bool false)/\w=w':=by
 have o0:=h.obj.cell 0;simp at o0;obtain⟨h0,h1⟩:=Tr.dB hb;obtain⟨g,hg,c0,c1,c2,tN⟩:=h.iD (v:=l) (by omega) h1;rw[hg]at o0;obtain⟨x,hx⟩:∃x,(T.kS (l)).v=x:=⟨_,rfl⟩
 obtain⟨y,hy⟩:∃y,(T.kS (l)).l=y:=⟨_,rfl⟩
 obtain⟨z,hz⟩:∃z,(T.kS (l)).r=z:=⟨_,rfl⟩
 rw[hx]at c0 hf;rw[hy]at c1 hf;rw[hz]at c2 hf;have HB:=aa hb;have HH:=aa h;clear hb h hg tN hx hy hz;by_cases e0:x=0
 ·subst e0;by_cases e1:y= -1
  ·subst e1;have e2:z≠0:=fun e=>hf ⟨rfl,rfl,e⟩;clear hf;go_enter Tryz.func87,Tryz.ntmps87;go_wp2_with fail;refine(dG _ L T HH.out _ true HB.out).mono ?_;rintro e w1 ⟨rfl,rfl⟩;go_wp2_with fail;go_ret;exact⟨rfl,rfl⟩
  ·clear hf;go_enter Tryz.func87,Tryz.ntmps87;go_wp2_with fail;refine(dG _ L T HH.out _ true HB.out).mono ?_;rintro e w1 ⟨rfl,rfl⟩;go_wp2_with fail;go_ret;exact⟨rfl,rfl⟩
 ·clear hf;go_enter Tryz.func87,Tryz.ntmps87;go_wp2_with fail;refine(dG _ L T HH.out _ true HB.out).mono ?_;rintro e w1 ⟨rfl,rfl⟩;go_wp2_with fail;go_ret;exact⟨rfl,rfl⟩
theorem rQ (w:World) (L:eM) (T:Tr) (h:TrAt w L T) (l r:Int) (hl:l<0) (Vm: -9223372036854775807<=l) (hb:T.jq (-l)=true) (hf:¬((T.kS (-l)).v=0/\(T.kS (-l)).l= -1/\(T.kS (-l)).r=0)):
  Calls Tryz.prog 87 #[.pointer (some ⟨L.a,0,none⟩), .int .i64 l, .int .i64 r] w fun e w'=>e= .returned (.bool false)/\w=w':=by
 have o0:=h.obj.cell 0;simp at o0;obtain⟨h0,h1⟩:=Tr.dB hb;obtain⟨g,hg,c0,c1,c2,tN⟩:=h.iD (v:= -l) (by omega) h1;rw[hg]at o0;obtain⟨x,hx⟩:∃x,(T.kS (-l)).v=x:=⟨_,rfl⟩
 obtain⟨y,hy⟩:∃y,(T.kS (-l)).l=y:=⟨_,rfl⟩
 obtain⟨z,hz⟩:∃z,(T.kS (-l)).r=z:=⟨_,rfl⟩
 rw[hx]at c0 hf;rw[hy]at c1 hf;rw[hz]at c2 hf;have HB:=aa hb;have HH:=aa h;clear hb h hg tN hx hy hz;by_cases e0:x=0
 ·subst e0;by_cases e1:y= -1
  ·subst e1;have e2:z≠0:=fun e=>hf ⟨rfl,rfl,e⟩;clear hf;go_enter Tryz.func87,Tryz.ntmps87;go_wp2_with fail;refine(dG _ L T HH.out _ true HB.out).mono ?_;rintro e w1 ⟨rfl,rfl⟩;go_wp2_with fail;go_ret;exact⟨rfl,rfl⟩
  ·clear hf;go_enter Tryz.func87,Tryz.ntmps87;go_wp2_with fail;refine(dG _ L T HH.out _ true HB.out).mono ?_;rintro e w1 ⟨rfl,rfl⟩;go_wp2_with fail;go_ret;exact⟨rfl,rfl⟩
 ·clear hf;go_enter Tryz.func87,Tryz.ntmps87;go_wp2_with fail;refine(dG _ L T HH.out _ true HB.out).mono ?_;rintro e w1 ⟨rfl,rfl⟩;go_wp2_with fail;go_ret;exact⟨rfl,rfl⟩
theorem Tr.Ks {T:Tr} {v:Int} (h:(T.kS v).v=0/\(T.kS v).l= -1/\(T.kS v).r=0):T.kS v=jW.free:=by
 obtain⟨a,b,c⟩:=h;cases hc:T.kS v with
 |mk x y z=>rw[hc]at a b c;simp only at a b c;subst a;subst b;subst c;rfl
theorem tm (w:World) (L:eM) (T:Tr) (h:TrAt w L T) (l r:Int) (Vm: -9223372036854775808<=l) (Z4:l<=9223372036854775807) (hlen:T.lits.length<17592186044416):
  Calls Tryz.prog 87 #[.pointer (some ⟨L.a,0,none⟩), .int .i64 l, .int .i64 r] w fun e w'=>e= .returned (.bool (T.ij l))/\∃L',TrAt w' L' (if T.ij l=true then T.pb l r else T)/\L.ext L' w/\Fr L.fp w w':=by
 have stay:∀e w',(e=Ending.returned (.bool false)/\w=w')->T.ij l=false->(e= .returned (.bool (T.ij l))/\∃L',TrAt w' L' (if T.ij l=true then T.pb l r else T)/\L.ext L' w/\Fr L.fp w w'):=by rintro e w' ⟨rfl,rfl⟩ hp;rw[hp];exact⟨rfl,L,h,L.cv w,Fr.refl _ _⟩
 have go:∀e w',(e=Ending.returned (.bool true)/\∃L',TrAt w' L' (T.pb l r)/\L.ext L' w/\Fr L.fp w w')->T.ij l=true->(e= .returned (.bool (T.ij l))/\∃L',TrAt w' L' (if T.ij l=true then T.pb l r else T)/\L.ext L' w/\Fr L.fp w w'):=by rintro e w' ⟨rfl,h⟩ hp;rw[hp];exact⟨rfl,h⟩
 unfold Tr.ij at stay go⊢;rcases mN l Vm with⟨hl,hv⟩ |⟨hl,m6,hv⟩ |⟨hl,hv,hw⟩
 ·rw[hv]at stay go⊢;cases hb:T.jq l with
  |false=>exact(uJ w L T h l r hl Z4 hb).mono fun e w' he=>by rw[hb]at stay;exact stay e w' he rfl
  |true=>
   by_cases hf:(T.kS l).v=0/\(T.kS l).l= -1/\(T.kS l).r=0
   ·exact(Dd w L T h l r hl Z4 hb (Tr.Ks hf) hlen).mono fun e w' he=>by rw[hb]at go;exact go e w' he (by simp[hf])
   ·exact(rP w L T h l r hl Z4 hb hf).mono fun e w' he=>by rw[hb]at stay;exact stay e w' he (by simp[hf])
 ·rw[hv]at stay go⊢;cases hb:T.jq (-l)with
  |false=>exact(uK w L T h l r hl m6 hb).mono fun e w' he=>by rw[hb]at stay;exact stay e w' he rfl
  |true=>
   by_cases hf:(T.kS (-l)).v=0/\(T.kS (-l)).l= -1/\(T.kS (-l)).r=0
   ·exact(De w L T h l r hl m6 hb (Tr.Ks hf) hlen).mono fun e w' he=>by rw[hb]at go;exact go e w' he (by simp[hf])
   ·exact(rQ w L T h l r hl m6 hb hf).mono fun e w' he=>by rw[hb]at stay;exact stay e w' he (by simp[hf])
 ·have hb:T.jq l=false:=by
   cases hh:T.jq l with
   |false=>rfl
   |true=>have :=(Tr.dB hh).1;omega
  rw[hv,hb]at stay⊢;exact(uL w L T h l r hl hw hb).mono fun e w' he=>stay e w' he rfl
def Tr.xP (T:Tr):Tr:={ T with levels:=T.levels++[(T.lits.length:Int)] }
theorem A8 (w:World) (L:eM) (T:Tr) (h:TrAt w L T) (hc:0<T.cells.length) (hlen:T.levels.length<17592186044416):
  Calls Tryz.prog 173 #[.pointer (some ⟨L.a,0,none⟩)] w fun e w'=>e= .returned (.int .i64 (T.levels.length+1:Nat))/\∃L',TrAt w' L' T.xP/\L.ext L' w/\Fr L.fp w w':=by
 have o0:=h.obj.cell 0;simp at o0;have ho:=h.obj;have HN:Hid (L.a∉ak L.A3):=fun hk=>((gQ h.nodup).2.2 _ hk).1 rfl;have HH:=aa h;have HO:=aa ho;clear h ho;go_enter Tryz.func173,Tryz.ntmps173;go_wp2_with fail;refine aam ?_;refine bi (fun w':World=>At w' L.a 153 #[.slice L.A1 T.cells.length L.c1, .slice L.A2 T.lits.length L.c2, .slice L.A3 T.levels.length L.c3]) 14 (by kernel_rfl) (HO.out.drew) (fun cZ=> ?_);apply TB 10 [(0,[]),(1,[]),(2,[]),(3,[]),(4,[4,14]),(5,[]),(6,[]),(7,[]),(8,[8,14]),(9,[])];kernel_rfl;rfl;· (repeat (apply eH;rfl;rfl;(· intro w bl;(try(have bl:=bl.resolve_left (aF _ _);(have s1:=bl.cell 1;have s2:=bl.cell 2;simp at s1 s2)));go_simp<;>with_reducible rfl);try simp only[Act.put,q5,q6,q7]));exact eG
 exact cZ;intro cZ;refine R2 10 (by kernel_rfl) (by rfl) cZ fun K hK aw=> ?_;go_simp;refine hK.out _ _ (.inr ?_) (fun fo=> ?_)
 ·first |exact aw.alloc _ |exact kG.at_ aw HN.out
 clear hK K;try simp only[Act.put,q5,q6,q7]
 refine R2 11 (by kernel_rfl) (by rfl) fo fun K hK aw=> ?_
 (refine bV rfl _ _ rfl L.A3 L.c3 T.levels _ rfl rfl ?tJ _ 1 T.lits.length rfl ?rq (by omega) ?_;(case tJ=>exact HH.out.levels.drew.alloc _);(case rq=>simp);intro gA cA wA M3 kG M4 hsA)
 refine hK.out _ _ (.inr ?_) (fun jh=> ?_)
 ·first |exact aw.alloc _ |exact kG.at_ aw HN.out
 clear hK K;try simp only[Act.put,q5,q6,q7]
 apply TB 2 [(12,[]),(13,[])];kernel_rfl;rfl;· (repeat (apply eH;rfl;rfl;(· intro w bl;go_simp<;>with_reducible rfl);try simp only[Act.put,q5,q6,q7]));exact eG
 exact jh;intro jh;refine R2 14 (by kernel_rfl) (by rfl) jh fun K hK aw=> ?_
 (have b1:=aw.cell 2;have b3:=aw.frozen 2;simp at b1;go_simp)
 refine hK.out _ _ (.inl rfl) (fun as3=> ?_);clear hK K;try simp only[Act.put,q5,q6,q7]
 refine aD (by kernel_rfl) ?_ _;refine NoPanic.normal ?_;have qA:gA∈ak L.A3\/(w.drew.alloc (.cells #[.int .i64 (T.lits.length:Int)] 3)).heap.size<=gA:=M4.imp id (fun e=>by rw[e];exact ap _);obtain⟨r1,r2,r3⟩:=(HH.out.drew.alloc _).LR M3 kG qA;have HI:=aa r1;have HX:=aa r2;have HF:=aa r3;have b1:=r1.obj.cell 2;simp at b1;clear r1 r2 r3;go_wp2_with fail;go_ret;refine⟨rfl,_,by simpa[Tr.xP]using HI.out,⟨HX.out.1,fun k hk=>(HX.out.2 k hk).imp id (fun h=>by simp at h;omega)⟩,?_⟩;have :=((Fr.refl L.fp w).drew.alloc (.cells #[.int .i64 (T.lits.length:Int)] 3)).trans HF.out (fun k hk=> .inl hk);simpa using this
def gH (cs:List jW) (ls:List Int):List jW:=ls.foldl (fun cs l=>cs.set (tv l).toNat jW.free) cs
theorem lZ (cs:List jW) (ls:List Int) (l:Int):gH cs (ls++[l])=(gH cs ls).set (tv l).toNat jW.free:=by simp[gH]
theorem dW (cs:List jW) (ls:List Int):(gH cs ls).length=cs.length:=by
 unfold gH;induction ls generalizing cs with
 |nil=>rfl
 |cons l ls ih=>rw[List.foldl_cons,ih,ao]
theorem mF {α:Type} [Inhabited α] (l:List α) (j:Nat) (h:j<l.length):l.take (j+1)=l.take j++[l[j]!]:=by rw[List.take_add_one,af h,ae,af h];rfl
theorem xK {α:Type} [Inhabited α] (l:List α) (n j:Nat):(l.drop n)[j]! =l[n+j]! :=by simp[ae,List.getElem?_drop]
def Tr.xS (T:Tr) (m n:Nat):Tr:={ cells:=gH T.cells (T.lits.drop n),lits:=T.lits.take n,levels:=T.levels.take m }
def Tr.df (T:Tr) (m:Nat):Tr:=if m<T.levels.length then T.xS m (T.levels[m]!).toNat else T
theorem TrAt.cut {w:World} {L:eM} {T:Tr} (h:TrAt w L T) (n m:Nat) (hn:n<=T.lits.length) (hm:m<=T.levels.length):
  TrAt ((w.setCell ⟨L.a,1,none⟩ (.slice L.A2 n L.c2)).setCell ⟨L.a,2,none⟩ (.slice L.A3 m L.c3)) L { T with lits:=T.lits.take n,levels:=T.levels.take m }:=by
 obtain⟨h1,h2,h3⟩:=gQ h.nodup;have n1:L.a∉ak L.A1:=fun k=>(h1 _ k).1 rfl;have n2:L.a∉ak L.A2:=fun k=>(h2 _ k).1 rfl;have n3:L.a∉ak L.A3:=fun k=>(h3 _ k).1 rfl;refine⟨?_,(h.cells.gN n1 _).gN n1 _,((h.lits.qw n).gN n2 _).gN n2 _,((h.levels.qw m).gN n3 _).gN n3 _,h.nodup⟩;have :=(h.obj.eu 1 (.slice L.A2 n L.c2)).eu 2 (.slice L.A3 m L.c3);simpa[j4 hn,j4 hm]using this
theorem TrAt.V2 {w:World} {L:eM} {T:Tr} (h:TrAt w L T) (n m:Nat) (hn:n<=T.lits.length) (hm:m<=T.levels.length):
  TrAt ((w.setCell ⟨L.a,2,none⟩ (.slice L.A3 m L.c3)).setCell ⟨L.a,1,none⟩ (.slice L.A2 n L.c2)) L { T with lits:=T.lits.take n,levels:=T.levels.take m }:=by
 obtain⟨h1,h2,h3⟩:=gQ h.nodup;have n1:L.a∉ak L.A1:=fun k=>(h1 _ k).1 rfl;have n2:L.a∉ak L.A2:=fun k=>(h2 _ k).1 rfl;have n3:L.a∉ak L.A3:=fun k=>(h3 _ k).1 rfl;refine⟨?_,(h.cells.gN n1 _).gN n1 _,((h.lits.qw n).gN n2 _).gN n2 _,((h.levels.qw m).gN n3 _).gN n3 _,h.nodup⟩;have :=(h.obj.eu 2 (.slice L.A3 m L.c3)).eu 1 (.slice L.A2 n L.c2);simpa[j4 hn,j4 hm]using this
theorem tn (w:World) (L:eM) (T:Tr) (h:TrAt w L T) (m:Nat) (hm:T.levels.length<=m):
  Calls Tryz.prog 145 #[.pointer (some ⟨L.a,0,none⟩), .int .i64 m] w fun e w'=>e= .returned (.tuple #[])/\w=w':=by
 have o2:=h.obj.cell 2;simp at o2;clear h;go_enter Tryz.func145,Tryz.ntmps145;go_wp2_with fail;refine bodyPost_ret (results_none rfl _ _ _) rfl ?_;exact⟨rfl,rfl⟩
theorem uM (w:World) (L:eM) (T:Tr) (h:TrAt w L T) (m:Nat) (hm:m<T.levels.length) (n:Nat) (hn:T.levels[m]! =n) (ov:n<=T.lits.length) (qF:∀j:Nat,j<T.lits.length->T.jq (tv T.lits[j]!)=true):
  Calls Tryz.prog 145 #[.pointer (some ⟨L.a,0,none⟩), .int .i64 m] w fun e w'=>e= .returned (.tuple #[])/\TrAt w' L (T.xS m n)/\Fr L.fp w w':=by
 have o1:=h.obj.cell 1;have o2:=h.obj.cell 2;simp at o1 o2;obtain⟨g3,xp,_⟩:=h.levels.pos (i:=m) hm;have c3:=h.levels;rw[xp]at c3 o2;have cl:=c3.cell (i:=m) hm;rw[hn]at cl;have hm':(m:Int)<T.levels.length:=by omega
 have B0:decide (T.levels.length<=m)=false:=aah (by omega);have od:=h.cells.len;unfold maxLen at od;have H2:=aa h.lits.form;have HH:=aa h;have HN:=aa hn;have HL:=aa qF;have oP:=aa xp;have AJ:=aa od;have ZA:(n:Int)<=T.lits.length:=by omega
 have aeR:m<=L.c3:=by
  rcases h.levels.form with⟨_,_,h0⟩ |⟨_,_,_,h0,_⟩
  ·rw[h0]at hm;simp at hm
  ·omega
 clear h hn qF xp c3 od;by_cases bw:n<T.lits.length
 ·rcases H2.out with⟨hA,hc,he⟩ |⟨g,hA,uy,Eu,EJ⟩
  ·rw[he]at bw;exact absurd bw (aI _)
  rw[hA]at o1;have HA:=aa hA;unfold maxLen at EJ;have qE:n<L.c2:=by omega
  have Oo:¬L.c2=n:=by omega
  clear hA H2;go_enter Tryz.func145,Tryz.ntmps145;go_wp2_with fail;clear o1 o2 cl;try rw[B0]
  go_loopg [34] (T.lits.length-n) (fun gk i wr=>∃j:Nat,j+gk=T.lits.length-n/\i= .int .i64 j/\TrAt wr L { T with cells:=gH T.cells ((T.lits.drop n).take j) }/\Fr L.fp w wr);case atStart=>exact⟨0,by omega,rfl,by simpa[gH]using HH.out,Fr.refl _ _⟩
  case round=>
   obtain⟨j,hj,rfl,hT,hF⟩:=hrel;have o0:=hT.obj.cell 0;have o1:=hT.obj.cell 1;have o2:=hT.obj.cell 2;have oa:=hT.obj.frozen 1;have ob:=hT.obj.frozen 2;simp[dW]at o0 o1 o2;have HF:=aa hF;have HJ:=aa hj;clear hF hj;by_cases M1:j<T.lits.length-n
   ·have ZX:(j:Int)<(T.lits.length-n:Nat):=by omega
    have ci:=hT.lits;rw[HA.out]at ci o1;have c4:=ci.cell (i:=n+j) (by show n+j<T.lits.length;omega);have hx:=HL.out (n+j) (by omega);have vB:(T.lits.drop n).take (j+1)=(T.lits.drop n).take j++[T.lits[n+j]!]:=by rw[mF _ _ (by simp;omega),xK]
    simp only at c4;obtain⟨x,qg⟩:∃x,T.lits[n+j]! =x:=⟨_,rfl⟩
    rw[qg]at c4 hx vB;obtain⟨h0,h1⟩:=Tr.dB hx;have zd:((gH T.cells ((T.lits.drop n).take j)).length:Int)=T.cells.length:=(by rw[dW])
    have od:=AJ.out;have HS:=aa vB;clear ci hx vB qg;by_cases D8:0<=x
    ·have ht:=ni D8;rw[ht]at h0 h1;obtain⟨gc,jv,b0,b1,b2,fz⟩:=hT.iD (v:=x) (by omega) (by simpa[dW]using h1);rw[jv]at o0;have f0:=fz (x.toNat*3);have f1:=fz (x.toNat*3+1);have f2:=fz (x.toNat*3+2);have hM:=hT.LD jv (i:=x.toNat) (by rw[dW];omega) jW.free;have Q4:=TrAt.pL wr L jv (x.toNat*3) (x.toNat*3+1) (x.toNat*3+2) (.int .i64 0) (.int .i64 (-1)) (.int .i64 0);have HM:=aa hM;have yN:=aa Q4;have HT:=aa ht;clear hM Q4 ht hT fz jv zd;go_wp2_with fail;go_roundg (gk-1);case measure=>have :=HJ.out;omega
     case rel=>exact⟨j+1,by have :=HJ.out;omega,by go_num,by rw[HS.out,lZ,HT.out];exact HM.out,HF.out.ag yN.out⟩
    ·have fN:x<0:=(by omega)
     have gd: -9223372036854775808<x:=by
      have hb:=HL.out;by_cases e:x= -9223372036854775808
      ·rw[oV e]at h0;omega
      ·have yK:=h1;unfold tv at yK;rw[aac e,aae fN]at yK;omega
     have ht:=qV fN gd;rw[ht]at h0 h1;obtain⟨gc,jv,b0,b1,b2,fz⟩:=hT.iD (v:= -x) (by omega) (by simpa[dW]using h1);rw[jv]at o0;have f0:=fz ((-x).toNat*3);have f1:=fz ((-x).toNat*3+1);have f2:=fz ((-x).toNat*3+2);have hM:=hT.LD jv (i:=(-x).toNat) (by rw[dW];omega) jW.free;have Q4:=TrAt.pL wr L jv ((-x).toNat*3) ((-x).toNat*3+1) ((-x).toNat*3+2) (.int .i64 0) (.int .i64 (-1)) (.int .i64 0);have HM:=aa hM;have yN:=aa Q4;have HT:=aa ht;clear hM Q4 ht hT fz jv zd;go_wp2_with fail;go_roundg (gk-1);case measure=>have :=HJ.out;omega
     case rel=>exact⟨j+1,by have :=HJ.out;omega,by go_num,by rw[HS.out,lZ,HT.out];exact HM.out,HF.out.ag yN.out⟩
   ·have hje:j=T.lits.length-n:=by have :=HJ.out;omega
    have ZX:((T.lits.length-n:Nat):Int)<=j:=(by omega)
    have An:(T.lits.drop n).take j=T.lits.drop n:=(by rw[hje,dC (by simp)])
    have Iz:=hT.cut n m (by omega) (by show m<=T.levels.length;omega);have Iy:=hT.V2 n m (by omega) (by show m<=T.levels.length;omega);rw[An]at Iz Iy;rw[HA.out]at o1;rw[oP.out]at o2;rw[HA.out,oP.out]at Iz Iy;have qr:=aa Iz;have pE:=aa Iy;have ZJ:=hT.lt L.a (by simp[eM.fp]);clear Iz Iy An hje hT;go_wp2_with fail;go_region;all_goals go_end0
    all_goals refine⟨rfl,?_,?_⟩
    all_goals first |exact qr.out.drew |exact pE.out.drew | (refine((HF.out.setCell (.inl ?_) _).setCell (.inl ?_) _).drew<;>simp[eM.fp])
 ·have dS:T.lits.length=n:=by omega
  have hz:T.lits.drop n=[]:=by rw[<-dS];simp
  have Iz:=HH.out.cut n m (by omega) (by omega);have Iy:=HH.out.V2 n m (by omega) (by omega);have qr:=aa Iz;have pE:=aa Iy;have HZ:Hid (T.xS m n={ T with lits:=T.lits.take n,levels:=T.levels.take m }):=by show _=_;unfold Tr.xS;rw[hz];rfl
  have ZJ:=HH.out.lt L.a (by simp[eM.fp]);have oa:=HH.out.obj.frozen 1;have ob:=HH.out.obj.frozen 2;rw[dS]at o1 ZA;clear Iz Iy hz ov;rw[HZ.out];rcases H2.out with⟨hA,hc,he⟩ |⟨g,hA,uy,Eu,EJ⟩
  ·have en:n=0:=by rw[he]at dS;simpa using dS.symm
   subst en;rw[hA,hc]at o1;rw[hA,hc,oP.out]at qr pE;clear hA hc he H2 dS bw;go_enter Tryz.func145,Tryz.ntmps145;go_wp2_with fail;try rw[B0]
   go_loopg [34] 0 (fun gk i wr=>i= .int .i64 0/\w=wr);case atStart=>exact⟨rfl,rfl⟩
   case round=>
    obtain⟨rfl,rfl⟩:=hrel;go_wp2_with fail;go_region;all_goals go_end0
    all_goals refine⟨rfl,?_,?_⟩
    all_goals first |exact qr.out.drew |exact pE.out.drew | (refine(((Fr.refl L.fp w).setCell (.inl ?_) _).setCell (.inl ?_) _).drew<;>simp[eM.fp])
  ·rw[hA]at o1;rw[hA,oP.out]at qr pE;have qE:n<=L.c2:=by omega
   clear hA H2 dS bw Eu;by_cases hcc:L.c2=n
   ·rw[hcc]at qr pE;go_enter Tryz.func145,Tryz.ntmps145;go_wp2_with fail;try rw[B0]
    go_loopg [34] 0 (fun gk i wr=>i= .int .i64 0/\w=wr);case atStart=>exact⟨rfl,rfl⟩
    case round=>
     obtain⟨rfl,rfl⟩:=hrel;go_wp2_with fail;go_region;all_goals go_end0
     all_goals refine⟨rfl,?_,?_⟩
     all_goals first |exact qr.out.drew |exact pE.out.drew | (refine(((Fr.refl L.fp w).setCell (.inl ?_) _).setCell (.inl ?_) _).drew<;>simp[eM.fp])
   ·
    go_enter Tryz.func145,Tryz.ntmps145;go_wp2_with fail;try rw[B0]
    go_loopg [34] 0 (fun gk i wr=>i= .int .i64 0/\w=wr);case atStart=>exact⟨rfl,rfl⟩
    case round=>
     obtain⟨rfl,rfl⟩:=hrel;go_wp2_with fail;go_region;all_goals go_end0
     all_goals refine⟨rfl,?_,?_⟩
     all_goals first |exact qr.out.drew |exact pE.out.drew | (refine(((Fr.refl L.fp w).setCell (.inl ?_) _).setCell (.inl ?_) _).drew<;>simp[eM.fp])
theorem tp (w:World) (L:eM) (T:Tr) (h:TrAt w L T) (level:Int) (hl:level<0) (hm:T.levels.length<=0):
  Calls Tryz.prog 145 #[.pointer (some ⟨L.a,0,none⟩), .int .i64 level] w fun e w'=>e= .returned (.tuple #[])/\w=w':=by
 have o2:=h.obj.cell 2;simp at o2;have qI:T.levels=[]:=by simpa using hm
 rw[qI]at o2;clear qI hm;clear h;go_enter Tryz.func145,Tryz.ntmps145;go_wp2_with fail;refine bodyPost_ret (results_none rfl _ _ _) rfl ?_;exact⟨rfl,rfl⟩
theorem uN (w:World) (L:eM) (T:Tr) (h:TrAt w L T) (level:Int) (hl:level<0) (hm:0<T.levels.length) (n:Nat) (hn:T.levels[0]! =n) (ov:n<=T.lits.length) (qF:∀j:Nat,j<T.lits.length->T.jq (tv T.lits[j]!)=true):
  Calls Tryz.prog 145 #[.pointer (some ⟨L.a,0,none⟩), .int .i64 level] w fun e w'=>e= .returned (.tuple #[])/\TrAt w' L (T.xS 0 n)/\Fr L.fp w w':=by
 have o1:=h.obj.cell 1;have o2:=h.obj.cell 2;simp at o1 o2;obtain⟨g3,xp,_⟩:=h.levels.pos (i:=0) hm;have c3:=h.levels;rw[xp]at c3 o2;have cl:=c3.cell (i:=0) hm;rw[hn]at cl;have hm':(0:Int)<T.levels.length:=by omega
 have aku:¬T.levels=[]:=by rintro e;rw[e]at hm;simp at hm
 have B0:decide (T.levels=[])=false:=aah aku;have od:=h.cells.len;unfold maxLen at od;have H2:=aa h.lits.form;have HH:=aa h;have HN:=aa hn;have HL:=aa qF;have oP:=aa xp;have AJ:=aa od;have ZA:(n:Int)<=T.lits.length:=by omega
 have aeR:0<=L.c3:=by
  rcases h.levels.form with⟨_,_,h0⟩ |⟨_,_,_,h0,_⟩
  ·rw[h0]at hm;simp at hm
  ·omega
 clear h hn qF xp c3 od;by_cases bw:n<T.lits.length
 ·rcases H2.out with⟨hA,hc,he⟩ |⟨g,hA,uy,Eu,EJ⟩
  ·rw[he]at bw;exact absurd bw (aI _)
  rw[hA]at o1;have HA:=aa hA;unfold maxLen at EJ;have qE:n<L.c2:=by omega
  have Oo:¬L.c2=n:=by omega
  clear hA H2;go_enter Tryz.func145,Tryz.ntmps145;go_wp2_with fail;clear o1 o2 cl;try rw[B0]
  go_loopg [34] (T.lits.length-n) (fun gk i wr=>∃j:Nat,j+gk=T.lits.length-n/\i= .int .i64 j/\TrAt wr L { T with cells:=gH T.cells ((T.lits.drop n).take j) }/\Fr L.fp w wr);case atStart=>exact⟨0,by omega,rfl,by simpa[gH]using HH.out,Fr.refl _ _⟩
  case round=>
   obtain⟨j,hj,rfl,hT,hF⟩:=hrel;have o0:=hT.obj.cell 0;have o1:=hT.obj.cell 1;have o2:=hT.obj.cell 2;have oa:=hT.obj.frozen 1;have ob:=hT.obj.frozen 2;simp[dW]at o0 o1 o2;have HF:=aa hF;have HJ:=aa hj;clear hF hj;by_cases M1:j<T.lits.length-n
   ·have ZX:(j:Int)<(T.lits.length-n:Nat):=by omega
    have ci:=hT.lits;rw[HA.out]at ci o1;have c4:=ci.cell (i:=n+j) (by show n+j<T.lits.length;omega);have hx:=HL.out (n+j) (by omega);have vB:(T.lits.drop n).take (j+1)=(T.lits.drop n).take j++[T.lits[n+j]!]:=by rw[mF _ _ (by simp;omega),xK]
    simp only at c4;obtain⟨x,qg⟩:∃x,T.lits[n+j]! =x:=⟨_,rfl⟩
    rw[qg]at c4 hx vB;obtain⟨h0,h1⟩:=Tr.dB hx;have zd:((gH T.cells ((T.lits.drop n).take j)).length:Int)=T.cells.length:=(by rw[dW])
    have od:=AJ.out;have HS:=aa vB;clear ci hx vB qg;by_cases D8:0<=x
    ·have ht:=ni D8;rw[ht]at h0 h1;obtain⟨gc,jv,b0,b1,b2,fz⟩:=hT.iD (v:=x) (by omega) (by simpa[dW]using h1);rw[jv]at o0;have f0:=fz (x.toNat*3);have f1:=fz (x.toNat*3+1);have f2:=fz (x.toNat*3+2);have hM:=hT.LD jv (i:=x.toNat) (by rw[dW];omega) jW.free;have Q4:=TrAt.pL wr L jv (x.toNat*3) (x.toNat*3+1) (x.toNat*3+2) (.int .i64 0) (.int .i64 (-1)) (.int .i64 0);have HM:=aa hM;have yN:=aa Q4;have HT:=aa ht;clear hM Q4 ht hT fz jv zd;go_wp2_with fail;go_roundg (gk-1);case measure=>have :=HJ.out;omega
     case rel=>exact⟨j+1,by have :=HJ.out;omega,by go_num,by rw[HS.out,lZ,HT.out];exact HM.out,HF.out.ag yN.out⟩
    ·have fN:x<0:=(by omega)
     have gd: -9223372036854775808<x:=by
      have hb:=HL.out;by_cases e:x= -9223372036854775808
      ·rw[oV e]at h0;omega
      ·have yK:=h1;unfold tv at yK;rw[aac e,aae fN]at yK;omega
     have ht:=qV fN gd;rw[ht]at h0 h1;obtain⟨gc,jv,b0,b1,b2,fz⟩:=hT.iD (v:= -x) (by omega) (by simpa[dW]using h1);rw[jv]at o0;have f0:=fz ((-x).toNat*3);have f1:=fz ((-x).toNat*3+1);have f2:=fz ((-x).toNat*3+2);have hM:=hT.LD jv (i:=(-x).toNat) (by rw[dW];omega) jW.free;have Q4:=TrAt.pL wr L jv ((-x).toNat*3) ((-x).toNat*3+1) ((-x).toNat*3+2) (.int .i64 0) (.int .i64 (-1)) (.int .i64 0);have HM:=aa hM;have yN:=aa Q4;have HT:=aa ht;clear hM Q4 ht hT fz jv zd;go_wp2_with fail;go_roundg (gk-1);case measure=>have :=HJ.out;omega
     case rel=>exact⟨j+1,by have :=HJ.out;omega,by go_num,by rw[HS.out,lZ,HT.out];exact HM.out,HF.out.ag yN.out⟩
   ·have hje:j=T.lits.length-n:=by have :=HJ.out;omega
    have ZX:((T.lits.length-n:Nat):Int)<=j:=(by omega)
    have An:(T.lits.drop n).take j=T.lits.drop n:=(by rw[hje,dC (by simp)])
    have Iz:=hT.cut n 0 (by omega) (by show 0<=T.levels.length;omega);have Iy:=hT.V2 n 0 (by omega) (by show 0<=T.levels.length;omega);rw[An]at Iz Iy;rw[HA.out]at o1;rw[oP.out]at o2;rw[HA.out,oP.out]at Iz Iy;have qr:=aa Iz;have pE:=aa Iy;have ZJ:=hT.lt L.a (by simp[eM.fp]);clear Iz Iy An hje hT;go_wp2_with fail;go_region;all_goals go_end0
    all_goals refine⟨rfl,?_,?_⟩
    all_goals first |exact qr.out.drew |exact pE.out.drew | (refine((HF.out.setCell (.inl ?_) _).setCell (.inl ?_) _).drew<;>simp[eM.fp])
 ·have dS:T.lits.length=n:=by omega
  have hz:T.lits.drop n=[]:=by rw[<-dS];simp
  have Iz:=HH.out.cut n 0 (by omega) (by omega);have Iy:=HH.out.V2 n 0 (by omega) (by omega);have qr:=aa Iz;have pE:=aa Iy;have HZ:Hid (T.xS 0 n={ T with lits:=T.lits.take n,levels:=T.levels.take 0 }):=by show _=_;unfold Tr.xS;rw[hz];rfl
  have ZJ:=HH.out.lt L.a (by simp[eM.fp]);have oa:=HH.out.obj.frozen 1;have ob:=HH.out.obj.frozen 2;rw[dS]at o1 ZA;clear Iz Iy hz ov;rw[HZ.out];rcases H2.out with⟨hA,hc,he⟩ |⟨g,hA,uy,Eu,EJ⟩
  ·have en:n=0:=by rw[he]at dS;simpa using dS.symm
   subst en;rw[hA,hc]at o1;rw[hA,hc,oP.out]at qr pE;clear hA hc he H2 dS bw;go_enter Tryz.func145,Tryz.ntmps145;go_wp2_with fail;try rw[B0]
   go_loopg [34] 0 (fun gk i wr=>i= .int .i64 0/\w=wr);case atStart=>exact⟨rfl,rfl⟩
   case round=>
    obtain⟨rfl,rfl⟩:=hrel;go_wp2_with fail;go_region;all_goals go_end0
    all_goals refine⟨rfl,?_,?_⟩
    all_goals first |exact qr.out.drew |exact pE.out.drew | (refine(((Fr.refl L.fp w).setCell (.inl ?_) _).setCell (.inl ?_) _).drew<;>simp[eM.fp])
  ·rw[hA]at o1;rw[hA,oP.out]at qr pE;have qE:n<=L.c2:=by omega
   clear hA H2 dS bw Eu;by_cases hcc:L.c2=n
   ·rw[hcc]at qr pE;go_enter Tryz.func145,Tryz.ntmps145;go_wp2_with fail;try rw[B0]
    go_loopg [34] 0 (fun gk i wr=>i= .int .i64 0/\w=wr);case atStart=>exact⟨rfl,rfl⟩
    case round=>
     obtain⟨rfl,rfl⟩:=hrel;go_wp2_with fail;go_region;all_goals go_end0
     all_goals refine⟨rfl,?_,?_⟩
     all_goals first |exact qr.out.drew |exact pE.out.drew | (refine(((Fr.refl L.fp w).setCell (.inl ?_) _).setCell (.inl ?_) _).drew<;>simp[eM.fp])
   ·
    go_enter Tryz.func145,Tryz.ntmps145;go_wp2_with fail;try rw[B0]
    go_loopg [34] 0 (fun gk i wr=>i= .int .i64 0/\w=wr);case atStart=>exact⟨rfl,rfl⟩
    case round=>
     obtain⟨rfl,rfl⟩:=hrel;go_wp2_with fail;go_region;all_goals go_end0
     all_goals refine⟨rfl,?_,?_⟩
     all_goals first |exact qr.out.drew |exact pE.out.drew | (refine(((Fr.refl L.fp w).setCell (.inl ?_) _).setCell (.inl ?_) _).drew<;>simp[eM.fp])
theorem eN (w:World) (t ty e:TypeId) (z:Value) (size bytes:Nat) (ht:Tryz.prog.underlying t=some (.slice e)) (hi:(Tryz.prog.info? e).map (fun i=>(i.zero,i.size,i.bytes))=some (some z,size,bytes)) (y9:z.cells.size=size) (ou:0<size)
  (A:Option Addr) (c n:Nat) (xs:List Value) (dw:w.ownsRow 0 e size (.slice A n c) n xs) (ad:Addr) (m c':Nat) (news:List Value) (hl:news.length=m*size)
  (mO:∀j u,news[j]? =some u->w.cell? (ad.add j)=some u) (h1:∀u∈news,u.oneCell'=true) (OB:n+m<=maxLen) (kg:(n+m)*bytes<=140737488355328):
  ∃A' cap w',(Builtin.append_ #[t,t] ty #[.slice A n c, .slice (some ad) m c']).run Tryz.prog w= .ok (.slice A' (n+m) cap) w'/\
   w'.ownsRow 0 e size (.slice A' (n+m) cap) (n+m) (xs++news)/\Fr (ak A) w w'/\(∀k,k∈ak A'->k∈ak A\/k=w.heap.size)/\w.heap.size<=w'.heap.size/\(A'=none->m=0/\A=none)/\(∀a',A'=some a'->∃g,a'=⟨g,0,none⟩):=by
 obtain⟨i0,hi,vy,nN,za⟩:=info_parts hi;obtain⟨v',w',hr,h2,h3,h4,h5⟩:=run_append_own_at (P:=Tryz.prog) w 0 t ty e i0 z size bytes ht hi vy nN za y9 ou (.slice A n c) n _ dw ad m c' news hl mO h1 OB kg (bR _);have hv:∃A' cap,v'= .slice A' (n+m) cap/\∀a',A'=some a'->∃g,a'=⟨g,0,none⟩:=by
  rcases h2.2 with⟨h,h0⟩ |⟨g,cap,cur,hv,_⟩
  ·exact⟨none,0,by rw[h,h0],fun _ h=>by cases h⟩
  ·exact⟨_,cap,hv,fun a' h=>⟨g,by cases h;rfl⟩⟩
 obtain⟨A',cap,rfl,CT⟩:=hv;refine⟨A',cap,w',hr,h2,(Fr.refl _ w).grown h3 fun k hk=> .inl ((jl k).1 hk),?_,h3.size,?_,CT⟩
 ·intro k hk;have qG:=(jl (n:=n+m) (c:=cap) k).2 hk;rcases h5 with h5 |h5
  ·exact .inl ((jl k).1 (h5▸qG))
  ·rw[h5]at qG;exact .inr (Option.some.inj qG).symm
 ·intro e0;subst e0;rcases h2.2 with⟨h,h0⟩ |⟨g,alT,cur,hv,_⟩
  ·rw[h]at h4;obtain⟨h6,h7⟩:=h4.1 rfl;exact⟨h7,by cases h6;rfl⟩
  ·cases hv
theorem lI (w:World) {ops:Array Oper} {rest:List Oper} {o:Oper} {a:Act} {Q:Exit->Act->World->Prop} (ow:o.guard=none) (s x:Operand) (t:TypeId)
  (ho:o.op= .call { callee:= .builtin .append,args:=#[s,x],argTypes:=#[t,t] }) (e:TypeId) (z:Value) (size bytes:Nat) (ht:Tryz.prog.underlying t=some (.slice e)) (hi:(Tryz.prog.info? e).map (fun i=>(i.zero,i.size,i.bytes))=some (some z,size,bytes)) (y9:z.cells.size=size) (ou:0<size)
  (A:Option Addr) (c n:Nat) (hs:a.eval s= .slice A n c) (xs:List Value) (dw:w.ownsRow 0 e size (.slice A n c) n xs) (ad:Addr) (m c':Nat) (hx:a.eval x= .slice (some ad) m c') (news:List Value) (hl:news.length=m*size)
  (mO:∀j u,news[j]? =some u->w.cell? (ad.add j)=some u) (h1:∀u∈news,u.oneCell'=true) (OB:n+m<=maxLen) (kg:(n+m)*bytes<=140737488355328)
  (h:∀A' cap w',w'.ownsRow 0 e size (.slice A' (n+m) cap) (n+m) (xs++news)->Fr (ak A) w w'->(∀k,k∈ak A'->k∈ak A\/k=w.heap.size)->w.heap.size<=w'.heap.size->(A'=none->m=0/\A=none)->(∀a',A'=some a'->∃g,a'=⟨g,0,none⟩)->
   wpList Tryz.prog ops Q rest (a.put o.dst (.slice A' (n+m) cap)) w'):
  wpList Tryz.prog ops Q (o::rest) a w:=by
 refine wpList_plain ow fun K hK=> ?_;obtain⟨A',cap,w',hr,h2,h3,h4,h5,h6,h7⟩:=eN w t o.type e z size bytes ht hi y9 ou A c n xs dw ad m c' news hl mO h1 OB kg;unfold Oper.wp execOp;simp only[ho,resolve,invoke,builtin,Sem.run_bind,Sem.run_pure,Result.andThen_ok,List.map_toArray,cj,dv,hs,hx,hr];exact hK _ _ (h A' cap w' h2 h3 h4 h5 h6 h7)
theorem lJ (w:World) {ops:Array Oper} {rest:List Oper} {o:Oper} {a:Act} {Q:Exit->Act->World->Prop} (ow:o.guard=none) (s x:Operand) (t:TypeId)
  (ho:o.op= .call { callee:= .builtin .append,args:=#[s,x],argTypes:=#[t,t] }) (e:TypeId) (z:Value) (size bytes:Nat) (ht:Tryz.prog.underlying t=some (.slice e)) (hi:(Tryz.prog.info? e).map (fun i=>(i.zero,i.size,i.bytes))=some (some z,size,bytes)) (y9:z.cells.size=size) (ou:0<size)
  (A:Option Addr) (c n:Nat) (hs:a.eval s= .slice A n c) (xs:List Value) (dw:w.ownsRow 0 e size (.slice A n c) n xs) (ad:Addr) (c':Nat) (hx:a.eval x= .slice (some ad) 1 c') (news:List Value) (hl:news.length=size)
  (mO:∀j u,news[j]? =some u->w.cell? (ad.add j)=some u) (h1:∀u∈news,u.oneCell'=true) (OB:n+1<=maxLen) (kg:(n+1)*bytes<=140737488355328)
  (h:∀g cap w',w'.ownsRow 0 e size (.slice (some ⟨g,0,none⟩) (n+1) cap) (n+1) (xs++news)->Fr (ak A) w w'->(g∈ak A\/g=w.heap.size)->w.heap.size<=w'.heap.size->
   wpList Tryz.prog ops Q rest (a.put o.dst (.slice (some ⟨g,0,none⟩) (n+1) cap)) w'):
  wpList Tryz.prog ops Q (o::rest) a w:=by
 refine lI w ow s x t ho e z size bytes ht hi y9 ou A c n hs xs dw ad 1 c' hx news (by omega) mO h1 OB kg fun A' cap w' h2 h3 h4 h5 h6 h7=> ?_;cases A' with
 |none=>exact absurd (h6 rfl).1 (by decide)
 |some a'=>
  obtain⟨g,rfl⟩:=h7 a' rfl;exact h g cap w' h2 h3 (h4 g (by simp[ak])) h5
theorem J4:(Tryz.prog.info? 150).map (fun i=>(i.zero,i.size,i.bytes))=some (some (.agg #[.int .i64 0, .int .i64 0, .int .i64 0]),3,24):=by kernel_rfl
theorem TrAt.DM {w w':World} {L:eM} {T:Tr} (h:TrAt w L T) {g cap:Nat} {cs:List jW} (hi:Cls w' (some ⟨g,0,none⟩) cap cs) (hf:Fr (ak L.A1) w w') (hg:g∈ak L.A1\/w.heap.size<=g):
  TrAt (w'.setCell ⟨L.a,0,none⟩ (.slice (some ⟨g,0,none⟩) cs.length cap)) { L with A1:=some ⟨g,0,none⟩,c1:=cap } { T with cells:=cs }/\
  L.ext { L with A1:=some ⟨g,0,none⟩,c1:=cap } w/\Fr L.fp w (w'.setCell ⟨L.a,0,none⟩ (.slice (some ⟨g,0,none⟩) cs.length cap)):=by
 obtain⟨h1,h2,h3⟩:=gQ h.nodup;have nG:g≠L.a/\g∉ak L.A2/\g∉ak L.A3:=by
  rcases hg with q |q
  ·exact h1 g q
  ·refine⟨?_,fun k=> ?_,fun k=> ?_⟩
   ·have :=h.obj.lt;omega
   ·have :=h.lits.lt _ k;omega
   ·have :=h.levels.lt _ k;omega
 have bG:ak (some ⟨g,0,none⟩)=[g]:=rfl;refine⟨⟨?_,?_,?_,?_,?_⟩,⟨rfl,?_⟩,?_⟩
 ·have :=(hf.at_ h.obj (fun k=>(h1 _ k).1 rfl)).eu 0 (.slice (some ⟨g,0,none⟩) cs.length cap);simpa using this
 ·exact hi.gN (by rw[bG];simpa using fun e=>nG.1 e.symm) _
 ·exact(h.lits.fr hf fun k hk qG=>(h2 k hk).2.1 qG).gN (fun k=>(h2 _ k).1 rfl) _
 ·exact(h.levels.fr hf fun k hk qG=>(h3 k hk).2.1 qG).gN (fun k=>(h3 _ k).1 rfl) _
 ·have hn:=h.nodup;simp only[eM.fp,fG,ah,List.nodup_append,bG,ai,cd,not_false_eq_true,List.nodup_nil,true_and]at hn⊢;obtain⟨n1,n2,⟨n3,n4,n5⟩,n6⟩:=hn;refine⟨?_,⟨n3,n4,n5⟩,?_⟩
  ·rintro(hk |hk |hk)
   ·exact nG.1 hk.symm
   ·exact n1 (.inr (.inl hk))
   ·exact n1 (.inr (.inr hk))
  ·intro a ha b hb e;subst ha;subst e;rcases hb with hb |hb
   ·exact nG.2.1 hb
   ·exact nG.2.2 hb
 ·intro k hk;simp only[eM.fp,bG,av,ah,cd,or_false]at hk⊢;rcases hk with hk |hk |hk |hk
  ·exact .inl (.inl hk)
  ·subst hk;exact hg.imp (fun q=> .inr (.inl q)) id
  ·exact .inl (.inr (.inr (.inl hk)))
  ·exact .inl (.inr (.inr (.inr hk)))
 ·exact(hf.mono (T:=L.fp) fun k hk=> .inl (by simp[eM.fp,hk])).setCell (.inl (by simp[eM.fp])) _
def Tr.growBy (T:Tr) (m:Nat):Tr:={ T with cells:=T.cells++List.replicate m jW.free }
def Tr.room (T:Tr) (n:Int):Nat:=(min (max n 0) (262145-T.cells.length)).toNat
def Tr.ew (T:Tr) (n:Int):Tr:=T.growBy (T.room n)
theorem Tr.ji {T:Tr} {j:Nat}:(T.growBy j).cells++[jW.free]=(T.growBy (j+1)).cells:=by simp[Tr.growBy,List.replicate_succ']
theorem vX (w:World) (L:eM) (T:Tr) (h:TrAt w L T) (hc:0<T.cells.length) (hm:T.cells.length<=262145) (n:Int):
  Calls Tryz.prog 117 #[.pointer (some ⟨L.a,0,none⟩), .int .i64 n] w fun e w'=>e= .returned (.tuple #[])/\∃L',TrAt w' L' (T.ew n)/\L.ext L' w/\Fr L.fp w w':=by
 have o0:=h.obj.cell 0;simp at o0;obtain⟨oE,hw⟩:∃oE:Nat,T.cells.length=oE+1:=⟨T.cells.length-1,by omega⟩
 have key:(n<0/\T.room n=0)\/(n=0/\T.room n=0)\/(0<n/\n<=262144-oE/\(T.room n:Int)=n)\/(262144-oE<n/\0<n/\(T.room n:Int)=262144-oE):=by unfold Tr.room;rw[hw];omega
 unfold Tr.ew;obtain⟨m,Vj⟩:∃m,T.room n=m:=⟨_,rfl⟩
 rw[Vj]at key⊢;rw[hw]at o0;have HH:=aa h;have HW:=aa hw;have hm':(oE:Int)<=262144:=by omega
 have sm:(oE:Int)+m<=262144:=by omega
 have ez:((oE:Int)+1==0)=false:=aar.2 (by omega);have HK:=aa sm;clear h Vj hw hm hc sm;rcases key with⟨k1,k2⟩ |⟨k1,k2⟩ |⟨k1,k2,k3⟩ |⟨k1,k2,k3⟩
 ·subst k2;have k5:(0:Int)<=262144-oE:=by omega
  go_enter Tryz.func117,Tryz.ntmps117;go_wp2_with fail;clear o0;go_loopg [26] 0 (fun gk i wr=>∃(j:Nat) (M:eM),j+gk=0/\i= .int .i64 j/\TrAt wr M (T.growBy j)/\L.ext M w/\Fr L.fp w wr);case atStart=>exact⟨0,L,by omega,rfl,by simpa[Tr.growBy]using HH.out,L.cv w,Fr.refl _ _⟩
  case round=>
   obtain⟨j,M,hj,rfl,hT,hE,hF⟩:=hrel;have ha:M.a=L.a:=hE.1;have lc:(T.growBy j).cells.length=oE+1+j:=by simp[Tr.growBy,HW.out]
   have o0:=hT.obj.cell 0;rw[ha]at o0;simp[lc]at o0;have HA:=aa ha;have HL:=aa lc;have HT:=aa hT;have HE:=aa hE;have HF:=aa hF;have HJ:=aa hj;have HN:Hid (M.a∉ak M.A1):=fun hk=>((gQ hT.nodup).1 _ hk).1 rfl;clear ha lc hT hE hF;have QH:(0:Int)<=j:=by skip;omega
   have e:j=0:=by skip;omega
   subst e;clear hj;go_wp2_with fail;go_end0;exact⟨rfl,M,HT.out,HE.out,HF.out⟩
 ·subst k2;subst k1;have k5:(0:Int)<=262144-oE:=by omega
  go_enter Tryz.func117,Tryz.ntmps117;go_wp2_with fail;clear o0;go_loopg [26] 0 (fun gk i wr=>∃(j:Nat) (M:eM),j+gk=0/\i= .int .i64 j/\TrAt wr M (T.growBy j)/\L.ext M w/\Fr L.fp w wr);case atStart=>exact⟨0,L,by omega,rfl,by simpa[Tr.growBy]using HH.out,L.cv w,Fr.refl _ _⟩
  case round=>
   obtain⟨j,M,hj,rfl,hT,hE,hF⟩:=hrel;have ha:M.a=L.a:=hE.1;have lc:(T.growBy j).cells.length=oE+1+j:=by simp[Tr.growBy,HW.out]
   have o0:=hT.obj.cell 0;rw[ha]at o0;simp[lc]at o0;have HA:=aa ha;have HL:=aa lc;have HT:=aa hT;have HE:=aa hE;have HF:=aa hF;have HJ:=aa hj;have HN:Hid (M.a∉ak M.A1):=fun hk=>((gQ hT.nodup).1 _ hk).1 rfl;clear ha lc hT hE hF;have QH:(0:Int)<=j:=by skip;omega
   have e:j=0:=by skip;omega
   subst e;clear hj;go_wp2_with fail;go_end0;exact⟨rfl,M,HT.out,HE.out,HF.out⟩
 ·subst k3;have k4:((oE:Nat):Int)<262144:=by omega
  have k5:0<m:=by omega
  go_enter Tryz.func117,Tryz.ntmps117;go_wp2_with fail;clear o0;go_loopg [26] m (fun gk i wr=>∃(j:Nat) (M:eM),j+gk=m/\i= .int .i64 j/\TrAt wr M (T.growBy j)/\L.ext M w/\Fr L.fp w wr);case atStart=>exact⟨0,L,by omega,rfl,by simpa[Tr.growBy]using HH.out,L.cv w,Fr.refl _ _⟩
  case round=>
   obtain⟨j,M,hj,rfl,hT,hE,hF⟩:=hrel;have ha:M.a=L.a:=hE.1;have lc:(T.growBy j).cells.length=oE+1+j:=by simp[Tr.growBy,HW.out]
   have o0:=hT.obj.cell 0;rw[ha]at o0;simp[lc]at o0;have HA:=aa ha;have HL:=aa lc;have HT:=aa hT;have HE:=aa hE;have HF:=aa hF;have HJ:=aa hj;have HN:Hid (M.a∉ak M.A1):=fun hk=>((gQ hT.nodup).1 _ hk).1 rfl;clear ha lc hT hE hF;by_cases hjm:j<m
   ·have QH:(j:Int)<(m:Int):=by skip;omega
    clear hj;go_wp2_with (at_builtin;(refine lJ _ rfl _ _ 151 rfl 150 (.agg #[.int .i64 0, .int .i64 0, .int .i64 0]) 3 24 Tryz.underlying151 J4 rfl (by decide) M.A1 M.c1 (oE+1+j) rfl (flat (T.growBy j).cells) ?dw ⟨wr.heap.size,0,none⟩ 1 rfl (flat [jW.free]) rfl ?mO (by simp[flat,Value.oneCell']) (by have :=HK.out;unfold maxLen;omega) (by have :=HK.out;omega) ?_;(case dw=>have :=HT.out.cells.alloc (.cells #[.int .i64 0, .int .i64 (-1), .int .i64 0] 150);unfold Cls at this;rwa[HL.out]at this);(case mO=>intro jj u hu;match jj,hu with |0,hu=>(simp[flat,jW.free]at hu;subst hu;simp[Addr.add]) |1,hu=>(simp[flat,jW.free]at hu;subst hu;simp[Addr.add]) |2,hu=>(simp[flat,jW.free]at hu;subst hu;simp[Addr.add]) | (_+3),hu=>(simp[flat]at hu));intro g2 cap w2 pt bW fE lX;have q2:=bW.at_ (HT.out.obj.alloc _) HN.out;rw[HA.out]at q2;have q3:=q2.cell 0;have q4:=q2.frozen 0;simp at q3;have HI:=aa pt;have cw:=aa bW;have n8:=aa fE;clear q2 pt bW fE lX))
    have od:Cls w2 (some ⟨g2,0,none⟩) cap (T.growBy (j+1)).cells:=by have :=HI.out;rw[<-EQ,Tr.ji]at this;unfold Cls;rwa[show(T.growBy (j+1)).cells.length=oE+1+j+1 by simp[Tr.growBy,HW.out];omega]
    obtain⟨r1,r2,r3⟩:=(HT.out.alloc (.cells #[.int .i64 0, .int .i64 (-1), .int .i64 0] 150)).DM od cw.out (n8.out.imp id (fun e=>by rw[e];exact ap _));rw[HA.out,show(T.growBy (j+1)).cells.length=oE+1+j+1 by simp[Tr.growBy,HW.out];omega]at r1 r3;have r4:L.ext { M with A1:=some ⟨g2,0,none⟩,c1:=cap } w:=eM.aV HE.out ⟨r2.1,fun k hk=>(r2.2 k hk).imp id (fun h=>by simp at h;omega)⟩ HF.out;have r5:=(HF.out.alloc (.cells #[.int .i64 0, .int .i64 (-1), .int .i64 0] 150)).trans r3 HE.out.2;rw[HA.out]at r4;have R1:=aa r1;have R4:=aa r4;have R5:=aa r5;clear r1 r2 r3 r4 r5 od;go_roundg (gk-1);case measure=>have :=HJ.out;omega
    case rel=>exact⟨j+1,_,by have :=HJ.out;omega,by have :=HK.out;go_num,R1.out,R4.out,R5.out⟩
   ·have QH:((m:Int):Int)<=j:=by skip;omega
    have e:j=m:=by skip;omega
    subst e;clear hj;go_wp2_with fail;go_end0;exact⟨rfl,M,HT.out,HE.out,HF.out⟩
 ·have k4:Hid ((262144-oE:Int)=m):=k3.symm;have k5:(0:Int)<=262144-oE:=by omega
  clear k3;go_enter Tryz.func117,Tryz.ntmps117;go_wp2_with fail;clear o0;go_loopg [26] m (fun gk i wr=>∃(j:Nat) (M:eM),j+gk=m/\i= .int .i64 j/\TrAt wr M (T.growBy j)/\L.ext M w/\Fr L.fp w wr);case atStart=>exact⟨0,L,by omega,rfl,by simpa[Tr.growBy]using HH.out,L.cv w,Fr.refl _ _⟩
  case round=>
   obtain⟨j,M,hj,rfl,hT,hE,hF⟩:=hrel;have ha:M.a=L.a:=hE.1;have lc:(T.growBy j).cells.length=oE+1+j:=by simp[Tr.growBy,HW.out]
   have o0:=hT.obj.cell 0;rw[ha]at o0;simp[lc]at o0;have HA:=aa ha;have HL:=aa lc;have HT:=aa hT;have HE:=aa hE;have HF:=aa hF;have HJ:=aa hj;have HN:Hid (M.a∉ak M.A1):=fun hk=>((gQ hT.nodup).1 _ hk).1 rfl;clear ha lc hT hE hF;by_cases hjm:j<m
   ·have QH:(j:Int)<(262144-oE):=by have :=k4.out;omega
    clear hj;go_wp2_with (at_builtin;(refine lJ _ rfl _ _ 151 rfl 150 (.agg #[.int .i64 0, .int .i64 0, .int .i64 0]) 3 24 Tryz.underlying151 J4 rfl (by decide) M.A1 M.c1 (oE+1+j) rfl (flat (T.growBy j).cells) ?dw ⟨wr.heap.size,0,none⟩ 1 rfl (flat [jW.free]) rfl ?mO (by simp[flat,Value.oneCell']) (by have :=HK.out;unfold maxLen;omega) (by have :=HK.out;omega) ?_;(case dw=>have :=HT.out.cells.alloc (.cells #[.int .i64 0, .int .i64 (-1), .int .i64 0] 150);unfold Cls at this;rwa[HL.out]at this);(case mO=>intro jj u hu;match jj,hu with |0,hu=>(simp[flat,jW.free]at hu;subst hu;simp[Addr.add]) |1,hu=>(simp[flat,jW.free]at hu;subst hu;simp[Addr.add]) |2,hu=>(simp[flat,jW.free]at hu;subst hu;simp[Addr.add]) | (_+3),hu=>(simp[flat]at hu));intro g2 cap w2 pt bW fE lX;have q2:=bW.at_ (HT.out.obj.alloc _) HN.out;rw[HA.out]at q2;have q3:=q2.cell 0;have q4:=q2.frozen 0;simp at q3;have HI:=aa pt;have cw:=aa bW;have n8:=aa fE;clear q2 pt bW fE lX))
    have od:Cls w2 (some ⟨g2,0,none⟩) cap (T.growBy (j+1)).cells:=by have :=HI.out;rw[<-EQ,Tr.ji]at this;unfold Cls;rwa[show(T.growBy (j+1)).cells.length=oE+1+j+1 by simp[Tr.growBy,HW.out];omega]
    obtain⟨r1,r2,r3⟩:=(HT.out.alloc (.cells #[.int .i64 0, .int .i64 (-1), .int .i64 0] 150)).DM od cw.out (n8.out.imp id (fun e=>by rw[e];exact ap _));rw[HA.out,show(T.growBy (j+1)).cells.length=oE+1+j+1 by simp[Tr.growBy,HW.out];omega]at r1 r3;have r4:L.ext { M with A1:=some ⟨g2,0,none⟩,c1:=cap } w:=eM.aV HE.out ⟨r2.1,fun k hk=>(r2.2 k hk).imp id (fun h=>by simp at h;omega)⟩ HF.out;have r5:=(HF.out.alloc (.cells #[.int .i64 0, .int .i64 (-1), .int .i64 0] 150)).trans r3 HE.out.2;rw[HA.out]at r4;have R1:=aa r1;have R4:=aa r4;have R5:=aa r5;clear r1 r2 r3 r4 r5 od;go_roundg (gk-1);case measure=>have :=HJ.out;omega
    case rel=>exact⟨j+1,_,by have :=HJ.out;omega,by have :=HK.out;go_num,R1.out,R4.out,R5.out⟩
   ·have QH:((262144-oE):Int)<=j:=by have :=k4.out;omega
    have e:j=m:=by have :=k4.out;omega
    subst e;clear hj;go_wp2_with fail;go_end0;exact⟨rfl,M,HT.out,HE.out,HF.out⟩
theorem dH (g o n:Nat):(Addr.mk g o none).add n=⟨g,o+n,none⟩:=by unfold Addr.add;split<;>simp_all
--New
def Tr.fresh:Tr:={ cells:=[⟨0,0,0⟩],lits:=[],levels:=[] }
theorem LH {a b:Nat} (h:a=b):Ending.returned (.pointer (some ⟨a,0,none⟩))= .returned (.pointer (some ⟨b,0,none⟩)):=by rw[h]
theorem TrAt.new (w:World):TrAt ((w.alloc (.cells #[.int .i64 0, .int .i64 0, .int .i64 0] 150)).alloc (.cells #[.slice (some ⟨w.heap.size,0,none⟩) 1 1, .slice none 0 0, .slice none 0 0] 153))
  { a:=w.heap.size+1,A1:=some ⟨w.heap.size,0,none⟩,c1:=1,A2:=none,c2:=0,A3:=none,c3:=0 } Tr.fresh:=by
 refine⟨?_,?_,Ints.nil _,Ints.nil _,by simp[eM.fp,ak]⟩
 ·have :=At.new (w.alloc (.cells #[.int .i64 0, .int .i64 0, .int .i64 0] 150)) 153 #[.slice (some ⟨w.heap.size,0,none⟩) 1 1, .slice none 0 0, .slice none 0 0];rwa[show(w.alloc (.cells #[.int .i64 0, .int .i64 0, .int .i64 0] 150)).heap.size=w.heap.size+1 from by simp]at this
 ·have :Cls (w.alloc (.cells #[.int .i64 0, .int .i64 0, .int .i64 0] 150)) (some ⟨w.heap.size,0,none⟩) 1 Tr.fresh.cells:=World.ownsRow_lit w #[.int .i64 0, .int .i64 0, .int .i64 0] 1 (bR _) (by simp[maxLen]) (by simp);exact this.alloc _
theorem Ly (w:World) (n:Int):
  Calls Tryz.prog 77 #[.int .i64 n] w fun e w'=>∃L:eM,e= .returned (.pointer (some ⟨L.a,0,none⟩))/\TrAt w' L (Tr.fresh.ew n)/\(∀k,k∈L.fp->w.heap.size<=k)/\Fr [] w w':=by
 have HN:=aa (TrAt.new w);go_enter Tryz.func77,Tryz.ntmps77;go_wp2_with fail;refine(vX _ _ _ HN.out (by decide) (by decide) n).mono ?_;rintro e w1 ⟨rfl,L',hL,hE,hF⟩;have HL:=aa hL;have HE:=aa hE;have HF:=aa hF;clear hL hE hF;go_wp2_with fail;go_ret;have hk:∀k,k∈eM.fp { a:=w.heap.size+1,A1:=some ⟨w.heap.size,0,none⟩,c1:=1,A2:=none,c2:=0,A3:=none,c3:=0 }->w.heap.size<=k:=by intro k hk;simp only[eM.fp,ak,Option.map_none,cD,Option.toList_none,fI,bZ,av,cd,or_false]at hk;omega
 refine⟨L',LH HE.out.1.symm,HL.out,fun k h=> ?_,?_⟩
 ·rcases HE.out.2 k h with h |h
  ·exact hk k h
  ·exact aE (by simp;omega) h
 ·exact(((Fr.refl [] w).alloc _).alloc _).trans HF.out (fun k h=> .inr (hk k h))
--arl,atH
structure Tr.Inv (T:Tr):Prop where
 levels:∀m:Nat,m<T.levels.length->∃n:Nat,T.levels[m]! =n/\n<=T.lits.length
 lits:∀j:Nat,j<T.lits.length->T.jq (tv T.lits[j]!)=true
theorem vY (w:World) (L:eM) (T:Tr) (h:TrAt w L T) (hi:T.Inv) (level:Int):
  Calls Tryz.prog 145 #[.pointer (some ⟨L.a,0,none⟩), .int .i64 level] w fun e w'=>e= .returned (.tuple #[])/\TrAt w' L (T.df level.toNat)/\Fr L.fp w w':=by
 by_cases hl:level<0
 ·have e0:level.toNat=0:=by omega
  rw[e0];by_cases hm:0<T.levels.length
  ·obtain⟨n,hn,ov⟩:=hi.levels 0 hm;have e1:T.df 0=T.xS 0 n:=by unfold Tr.df;rw[aae hm,hn];rfl
   rw[e1];exact uN w L T h level hl hm n hn ov hi.lits
  ·have e1:T.df 0=T:=by unfold Tr.df;rw[aac hm]
   rw[e1];exact(tp w L T h level hl (by omega)).mono fun e w' ⟨he,hw⟩=>⟨he,hw▸h,hw▸Fr.refl _ _⟩
 ·obtain⟨m,rfl⟩:∃m:Nat,level=m:=⟨level.toNat,by omega⟩
  rw[Int.toNat_natCast];by_cases hm:m<T.levels.length
  ·obtain⟨n,hn,ov⟩:=hi.levels m hm;have e1:T.df m=T.xS m n:=by unfold Tr.df;rw[aae hm,hn];rfl
   rw[e1];exact uM w L T h m hm n hn ov hi.lits
  ·have e1:T.df m=T:=by unfold Tr.df;rw[aac hm]
   rw[e1];exact(tn w L T h m (by omega)).mono fun e w' ⟨he,hw⟩=>⟨he,hw▸h,hw▸Fr.refl _ _⟩
end
section
structure St where
 x:Int
 l:Int
 r:Int
instance:Inhabited St:=⟨⟨0,0,0⟩⟩
def look (S:List St) (v:Int):Option St:=S.find? (fun e=>tv e.x==v)
def JK (e:St):jW:=⟨if e.x<0 then -1 else 1,e.l,e.r⟩
def sM:Option St->jW
 |none=>jW.free
 |some e=>JK e
theorem iN {S:List St} {v:Int} {e:St} (h:look S v=some e):e∈S/\tv e.x=v:=by refine⟨List.mem_of_find?_eq_some h,?_⟩;have :=List.find?_some h;simpa using this
theorem pQ {S:List St} {v:Int} (h:look S v=none):∀e,e∈S->tv e.x≠v:=by intro e he;have :=List.find?_eq_none.1 h e he;simpa using this
theorem nJ {S:List St} {v:Int} (h:∀e,e∈S->tv e.x≠v):look S v=none:=List.find?_eq_none.2 fun e he=>by simpa using h e he
theorem DP (S:List St) (e:St) (v:Int):look (S++[e]) v=if tv e.x=v then(look S v).or (some e)else look S v:=by
 unfold look;rw[List.find?_append];by_cases h:tv e.x=v
 ·simp[h]
 ·simp[h]
theorem im {S:List St} (hn:(S.map fun e:St=>tv e.x).Nodup) {e:St} (he:e∈S):look S (tv e.x)=some e:=by
 induction S with
 |nil=>simp at he
 |cons d S ih=>
  simp only[cj,fG,aG,not_exists,not_and]at hn;unfold look;rw[List.find?_cons];rcases av.1 he with rfl |he
  ·simp
  ·have :(tv d.x==tv e.x)=false:=aar.2 fun h=>hn.1 e he h.symm;rw[this];exact ih hn.2 he
theorem K6 (cs:List jW) (i:Nat) (x:jW) (j:Nat) (hi:i<cs.length):(cs.set i x)[j]! =if j=i then x else cs[j]! :=by
 simp only[ae,List.getElem?_set];by_cases h:i=j
 ·subst h;simp[hi]
 ·rw[aac h,aac (fun e=>h e.symm)]
theorem IL:∀(ls:List Int) (cs:List jW) (j:Nat),(∀l,l∈ls->(tv l).toNat<cs.length)->(gH cs ls)[j]! =if j∈ls.map (fun l=>(tv l).toNat)then jW.free else cs[j]! :=by
 intro ls;induction ls with
 |nil=>intro cs j _;simp[gH]
 |cons l ls ih=>
  intro cs j h;have h1:(tv l).toNat<cs.length:=h l (by simp);have e:gH cs (l::ls)=gH (cs.set (tv l).toNat jW.free) ls:=rfl;rw[e,ih _ j (fun l' MZ=>by rw[ao];exact h l' (by simp[MZ])),K6 _ _ _ _ h1];by_cases h2:j∈ls.map (fun l=>(tv l).toNat)
  ·simp[h2]
  ·by_cases h3:j=(tv l).toNat
   ·simp[h3]
   ·simp[h3]
theorem ja:∀(n:Nat) (l:List Nat),l.Nodup->(∀x,x∈l->x<n)->l.length<=n:=by
 intro n;induction n with
 |zero=>
  intro l _ h;cases l with
  |nil=>exact ap _
  |cons a l=>exact absurd (h a (by simp)) (aI _)
 |succ n ih=>
  intro l hn h;by_cases hm:n∈l
  ·have :=ih (l.erase n) (hn.erase n) (fun x hx=>by obtain⟨h1,h2⟩:=(hn.mem_erase_iff).1 hx;have :=h x h2;omega);rw[List.length_erase_of_mem hm]at this;omega
  ·have :=ih l hn (fun x hx=>by
    have :=h x hx;by_cases e:x=n
    ·subst e;exact absurd hx hm
    ·omega)
   omega
structure TRep (T:Tr) (vars:Nat) (S:List St) (depth:Nat):Prop where
 size:T.cells.length=vars+1
 lits:T.lits=S.map (·.x)
 dep:T.levels.length=depth
 ct:∀m:Nat,m<depth->T.levels[m]! =((S.filter (fun e:St=>decide (e.l<=(m:Int)))).length:Int)
 sorted:S.Pairwise (fun a b:St=>a.l<=b.l)
 bound:∀e,e∈S->0<=e.l/\e.l<=depth/\1<=tv e.x/\tv e.x<=vars
 nd:(S.map fun e:St=>tv e.x).Nodup
 cell:∀v:Int,1<=v->v<=vars->T.kS v=sM (look S v)
namespace TRep
variable {T:Tr} {vars:Nat} {S:List St} {depth:Nat}
theorem jq (h:TRep T vars S depth) (v:Int):T.jq v=(decide (1<=v)&&decide (v<=vars)):=by unfold Tr.jq;rw[h.size];by_cases h1:1<=v<;>by_cases h2:v<=vars<;>simp[h1,h2]<;>omega
theorem fresh:TRep Tr.fresh 0 [] 0:=by
 refine⟨rfl,rfl,rfl,fun m hm=>absurd hm (aI _),List.Pairwise.nil,fun e he=>by simp at he,by simp,fun v h0 h1=> ?_⟩;have :v<=0:=by simpa using h1
 omega
theorem growBy (h:TRep T vars S depth) (k:Nat):TRep (T.growBy k) (vars+k) S depth:=by
 refine⟨by simp[Tr.growBy,h.size];omega,h.lits,h.dep,h.ct,h.sorted,fun e he=> ?_,h.nd,fun v h0 h1=> ?_⟩
 ·obtain⟨a,b,c,d⟩:=h.bound e he;exact⟨a,b,c,by omega⟩
 ·by_cases hv:v<=vars
  ·rw[<-h.cell v h0 hv];unfold Tr.kS Tr.growBy;simp only[ae];rw[cJ (by rw[h.size];omega)]
  ·have hl:look S v=none:=nJ fun e he=>by have :=(h.bound e he).2.2.2;omega
   rw[hl];unfold Tr.kS Tr.growBy;simp only[ae];rw[eO (by rw[h.size];omega),List.getElem?_replicate,aae (by rw[h.size];omega)];rfl
theorem room (h:TRep T vars S depth) (k:Nat) (hk:vars+k<=262144):T.room k=k:=by unfold Tr.room;rw[h.size];omega
theorem grow (h:TRep T vars S depth) (k:Nat) (hk:vars+k<=262144):TRep (T.ew k) (vars+k) S depth:=by unfold Tr.ew;rw[h.room k hk];exact h.growBy k
theorem ij (h:TRep T vars S depth) (l:Int):T.ij l=(decide (1<=tv l)&&decide (tv l<=vars)&&(look S (tv l)).isNone):=by
 unfold Tr.ij;rw[h.jq];by_cases h1:1<=tv l
 ·by_cases h2:tv l<=vars
  ·rw[h.cell _ h1 h2];cases hl:look S (tv l)with
   |none=>simp[h1,h2,sM,jW.free]
   |some e=>
    simp only[h1,h2,sM,JK];by_cases h3:e.x<0<;>simp[h3]
  ·simp[h2]
 ·simp[h1]
theorem put (h:TRep T vars S depth) (l r:Int) (hb:T.ij l=true):TRep (T.pb l r) vars (S++[⟨l,depth,r⟩]) depth:=by
 rw[h.ij]at hb;simp only[ax,aal,Option.isNone_iff_eq_none]at hb;obtain⟨⟨h1,h2⟩,h3⟩:=hb;have dS:=pQ h3;have hi:(tv l).toNat<T.cells.length:=by rw[h.size];omega
 refine⟨by simp[Tr.pb,h.size],by simp[Tr.pb,h.lits],h.dep,fun m hm=> ?_,?_,fun e he=> ?_,?_,fun v h0 hv=> ?_⟩
 ·have :=h.ct m hm;show T.levels[m]! =_;rw[this,List.filter_append];have :¬((depth:Int)<=m):=by omega
  simp[this]
 ·rw[List.pairwise_append];refine⟨h.sorted,List.pairwise_singleton _ _,fun a ha b hb=> ?_⟩;simp only[ai]at hb;subst hb;exact(h.bound a ha).2.1
 ·rcases ah.1 he with he |he
  ·exact h.bound e he
  ·simp only[ai]at he;subst he;exact⟨by show(0:Int)<=depth;omega,by show(depth:Int)<=depth;omega,h1,h2⟩
 ·rw[bH,List.nodup_append];refine⟨h.nd,by simp,fun a ha b hb e=> ?_⟩;simp only[cj,dv,ai]at hb;subst hb;subst e;obtain⟨e',eK,h4⟩:=aG.1 ha;exact dS e' eK h4
 ·rw[DP];have e1:(T.pb l r).kS v=if v.toNat=(tv l).toNat then⟨if l<0 then -1 else 1,T.levels.length,r⟩else T.kS v:=K6 _ _ _ _ hi;rw[e1];by_cases lx:tv l=v
  ·subst lx;rw[aae rfl,aae rfl,h3,h.dep];rfl
  ·rw[aac (by omega),aac lx];exact h.cell v h0 hv
theorem deep (h:TRep T vars S depth):TRep T.xP vars S (depth+1):=by
 refine⟨h.size,h.lits,by simp[Tr.xP,h.dep],fun m hm=> ?_,h.sorted,fun e he=> ?_,h.nd,h.cell⟩
 ·show(T.levels++[(T.lits.length:Int)])[m]! =_;simp only[ae];by_cases sm:m<depth
  ·rw[cJ (by rw[h.dep];exact sm),<-h.ct m sm,ae]
  ·have e:m=depth:=by omega
   subst e;rw[eO (by rw[h.dep];exact ap _),h.dep,Nat.sub_self,h.lits];have :S.filter (fun e:St=>decide (e.l<=(m:Int)))=S:=List.filter_eq_self.2 fun e he=>by simpa using(h.bound e he).2.1
   rw[this];simp
 ·obtain⟨a,b,c,d⟩:=h.bound e he;exact⟨a,by omega,c,d⟩
theorem split (hs:S.Pairwise (fun a b:St=>a.l<=b.l)) (m:Int):S.filter (fun e:St=>decide (e.l<=(m:Int)))=S.take (S.filter (fun e:St=>decide (e.l<=(m:Int)))).length/\S.filter (fun e:St=> !decide (e.l<=(m:Int)))=S.drop (S.filter (fun e:St=>decide (e.l<=(m:Int)))).length:=by
 induction S with
 |nil=>simp
 |cons d S ih=>
  obtain⟨h1,h2⟩:=List.pairwise_cons.1 hs;by_cases hd:d.l<=m
  ·obtain⟨i1,i2⟩:=ih h2;simp only[hd,decide_true,List.filter_cons_of_pos,cW,List.take_succ_cons,List.drop_succ_cons,Bool.not_true,dD,not_false_eq_true,List.filter_cons_of_neg];exact⟨by rw[<-i1],i2⟩
  ·have e1:S.filter (fun e:St=>decide (e.l<=(m:Int)))=[]:=List.filter_eq_nil_iff.2 fun e he=>by have :=h1 e he;simp;omega
   have e2:S.filter (fun e:St=> !decide (e.l<=(m:Int)))=S:=List.filter_eq_self.2 fun e he=>by have :=h1 e he;simp;omega
   simp[hd,e1,e2]
theorem back (h:TRep T vars S depth) (m:Nat) (hm:m<depth):TRep (T.df m) vars (S.filter (fun e:St=>decide (e.l<=(m:Int)))) m:=by
 obtain⟨s1,s2⟩:=split h.sorted (m:Int);have hn:=h.ct m hm;have yB:(T.levels[m]!).toNat=(S.filter (fun e:St=>decide (e.l<=(m:Int)))).length:=by rw[hn];rfl
 unfold Tr.df;rw[aae (by rw[h.dep];exact hm),yB];unfold Tr.xS;have hd:T.lits.drop (S.filter (fun e:St=>decide (e.l<=(m:Int)))).length=(S.filter (fun e:St=> !decide (e.l<=(m:Int)))).map (·.x):=by rw[h.lits,<-List.map_drop,<-s2]
 rw[hd];refine⟨by simp[dW,h.size],?_,?_,fun k hk=> ?_,h.sorted.filter _,fun e he=> ?_,?_,fun v h0 hv=> ?_⟩
 ·show T.lits.take _=_;rw[h.lits,<-List.map_take,<-s1]
 ·show(T.levels.take m).length=m;rw[bp,h.dep];omega
 ·show(T.levels.take m)[k]! =_;have :=h.ct k (by omega);simp only[ae]at this⊢;rw[List.getElem?_take,aae hk,this,List.filter_filter];congr 2;refine List.filter_congr fun e _=> ?_;by_cases h1:e.l<=k
  ·have :e.l<=m:=by omega
   simp[h1,this]
  ·simp[h1]
 ·obtain⟨he,hl⟩:=dx.1 he;obtain⟨a,b,c,d⟩:=h.bound e he;exact⟨a,by simpa using hl,c,d⟩
 ·exact(List.Sublist.map _ (List.filter_sublist)).nodup h.nd
 ·show(gH T.cells _)[v.toNat]! =_;rw[IL _ _ _ (fun l hl=>by obtain⟨e,he,rfl⟩:=aG.1 hl;have :=h.bound e (dx.1 he).1;rw[h.size];omega)];have hc:=h.cell v h0 hv;cases jZ:look S v with
  |none=>
   have h1:=pQ jZ;have h2:look (S.filter (fun e:St=>decide (e.l<=(m:Int)))) v=none:=nJ fun e he=>h1 e (dx.1 he).1;rw[h2];rw[jZ]at hc;split
   ·rfl
   ·exact hc
  |some e=>
   obtain⟨he,Oy⟩:=iN jZ;rw[jZ]at hc;by_cases XF:e.l<=m
   ·have kF:e∈S.filter (fun e:St=>decide (e.l<=(m:Int))):=dx.2 ⟨he,by simpa using XF⟩;have aky:((S.filter (fun e:St=>decide (e.l<=(m:Int)))).map fun e=>tv e.x).Nodup:=(List.Sublist.map _ (List.filter_sublist)).nodup h.nd;have h2:=im aky kF;rw[Oy]at h2;rw[h2,aac,<-hc]
    ·rfl
    ·intro Qz;obtain⟨l,hl,mj⟩:=aG.1 Qz;obtain⟨e',eK,rfl⟩:=aG.1 hl;obtain⟨td,jM⟩:=dx.1 eK;have hb:=h.bound e' td;have h4:tv e'.x=v:=(by omega)
     have h5:=im h.nd td;rw[h4,jZ]at h5;obtain rfl :=Option.some.inj h5;simp at jM;omega
   ·have h2:look (S.filter (fun e:St=>decide (e.l<=(m:Int)))) v=none:=nJ fun e' eK h4=>by obtain⟨td,jM⟩:=dx.1 eK;have h5:=im h.nd td;rw[h4,jZ]at h5;obtain rfl :=Option.some.inj h5;simp at jM;omega
    rw[h2,aae]
    ·rfl
    ·exact aG.2 ⟨e.x,aG.2 ⟨e,dx.2 ⟨he,by simp;omega⟩,rfl⟩,by rw[Oy]⟩
theorem inv (h:TRep T vars S depth):T.Inv:=by
 constructor
 ·intro m hm;refine⟨_,h.ct m (by rw[<-h.dep];exact hm),?_⟩;rw[h.lits,aq];exact List.length_filter_le _ _
 ·intro j hj;rw[h.lits]at hj⊢;rw[aq]at hj;have e:(S.map (·.x))[j]! =S[j].x:=by simp[hj]
  rw[e,h.jq];obtain⟨_,_,a,b⟩:=h.bound S[j] (j5 hj);simp[a,b]
theorem small (h:TRep T vars S depth):∀v:Int,1<=v->v<T.cells.length-> -1<=(T.kS v).v/\(T.kS v).v<=1:=by
 intro v h0 h1;rw[h.size]at h1;rw[h.cell v h0 (by omega)];cases look S v with
 |none=>simp[sM,jW.free]
 |some e=>
  simp only[sM,JK];by_cases hx:e.x<0<;>simp[hx]
theorem lB (h:TRep T vars S depth) (l:Int):T.lB l=match look S (tv l)with |none=>0 |some e=>if e.x=l then 1 else -1:=by
 unfold Tr.lB;rw[h.jq];cases hl:look S (tv l)with
 |none=>
  by_cases hb:1<=tv l/\tv l<=vars
  ·rw[aae (by simp[hb]),h.cell _ hb.1 hb.2,hl];simp[sM,jW.free]
  ·rw[aac (by simpa using hb)]
 |some e=>
  obtain⟨he,Oy⟩:=iN hl;obtain⟨_,_,a,b⟩:=h.bound e he;rw[Oy]at a b;rw[aae (by simp[a,b]),h.cell _ a b,hl];simp only[sM,JK];have hx:tv e.x=tv l:=Oy;have Qy:e.x≠ -9223372036854775808:=fun e0=>by rw[oV e0]at hx;omega
  have ad5:l≠ -9223372036854775808:=fun e0=>by rw[oV e0]at a;omega
  unfold tv at hx;rw[aac Qy,aac ad5]at hx;by_cases h1:e.x<0<;>by_cases h2:l<0<;>simp only[h1,h2,if_true,if_false]at hx⊢
  ·rw[aae (by omega)];omega
  ·rw[aac (by omega)]
  ·rw[aac (by omega)]
  ·rw[aae (by omega)]
theorem dp (h:TRep T vars S depth) (v:Int):T.dp v=match look S v with |none=> -1 |some e=>e.l:=by
 unfold Tr.dp;rw[h.jq];cases hl:look S v with
 |none=>
  by_cases hb:1<=v/\v<=vars
  ·rw[aae (by simp[hb]),h.cell _ hb.1 hb.2,hl];simp[sM,jW.free]
  ·rw[aac (by simpa using hb)]
 |some e=>
  obtain⟨he,Oy⟩:=iN hl;obtain⟨_,_,a,b⟩:=h.bound e he;rw[Oy]at a b;rw[aae (by simp[a,b]),h.cell _ a b,hl];rfl
theorem fy (h:TRep T vars S depth) (v:Int):T.fy v=match look S v with |none=>0 |some e=>e.r:=by
 unfold Tr.fy;rw[h.jq];cases hl:look S v with
 |none=>
  by_cases hb:1<=v/\v<=vars
  ·rw[aae (by simp[hb]),h.cell _ hb.1 hb.2,hl];simp[sM,jW.free]
  ·rw[aac (by simpa using hb)]
 |some e=>
  obtain⟨he,Oy⟩:=iN hl;obtain⟨_,_,a,b⟩:=h.bound e he;rw[Oy]at a b;rw[aae (by simp[a,b]),h.cell _ a b,hl];rfl
theorem ic (h:TRep T vars S depth):S.length<=vars:=by
 have Y5:∀x,x∈S.map (fun e=>(tv e.x).toNat-1)->x∈List.range vars:=by intro x hx;obtain⟨e,he,rfl⟩:=aG.1 hx;obtain⟨_,_,a,b⟩:=h.bound e he;rw[cH];omega
 have yC:(S.map (fun e=>(tv e.x).toNat-1)).Nodup:=by have h1:=h.nd;rw[List.nodup_iff_pairwise_ne,List.pairwise_map]at h1⊢;refine List.Pairwise.imp_of_mem (fun{a b} ha hb hab=> ?_) h1;obtain⟨_,_,a1,_⟩:=h.bound a ha;obtain⟨_,_,b1,_⟩:=h.bound b hb;omega
 have :=ja vars _ yC (fun x hx=>cH.1 (Y5 x hx));simpa using this
end TRep
end
section
open Go.RowKit
def Rd (w:World) (A:Option Addr) (xs:List Int):Prop:=0<xs.length->∃b o,A=some ⟨b,o,none⟩/\∀j:Nat,j<xs.length->w.cell? ⟨b,o+j,none⟩=some (.int .i64 xs[j]!)
theorem Ints.rd {w:World} {A:Option Addr} {c:Nat} {xs:List Int} (h:Ints w A c xs):Rd w A xs:=by intro h0;obtain⟨g,hg,_⟩:=h.pos (i:=0) h0;subst hg;exact⟨g,0,rfl,fun j hj=>by rw[da];exact h.cell hj⟩
structure Ext (w:World) where
 v:World
 fr:Fr [] w v
instance (w:World):Nonempty (Ext w):=⟨⟨w,Fr.refl [] w⟩⟩
instance (w:World):Inhabited (Ext w):=⟨⟨w,Fr.refl [] w⟩⟩
theorem bM {w:World} {p:Addr} {v:Value} (h:w.cell? p=some v):p.block<w.heap.size:=by
 rcases bv p.block w.heap.size with hl |hl
 ·exact hl
 ·unfold World.cell? at h;rw[gf hl]at h;cases h
theorem Fr.cell {w w':World} (h:Fr [] w w') {p:Addr} (hp:p.block<w.heap.size):w'.cell? p=w.cell? p:=World.cell?_of_block (h.block p.block hp (by simp))
theorem Fr.aN {w w':World} {p:Addr} {v:Value} (h:Fr [] w w') (hc:w.cell? p=some v):w'.cell? p=some v:=by rw[h.cell (bM hc)];exact hc
theorem Ext.cell {w:World} {p:Addr} {v:Value} (hc:w.cell? p=some v) (u:Ext w):u.v.cell? p=some v:=u.fr.aN hc
theorem At.keep {w w':World} {g:Nat} {t:TypeId} {cs:Array Value} (h:At w g t cs) (hf:Fr [] w w'):At w' g t cs:=hf.at_ h (by simp)
theorem Rd.keep {w w':World} {A:Option Addr} {xs:List Int} (h:Rd w A xs) (hf:Fr [] w w'):Rd w' A xs:=by intro h0;obtain⟨b,o,hA,hx⟩:=h h0;exact⟨b,o,hA,fun j hj=>hf.aN (hx j hj)⟩
theorem au {P:Program} {id:Nat} {Q:Exit->Act->World->Prop} {a:Act} {w:World} {l:List Oper} (hm:P.follows .mixedOrders=true) (hB:Region.lexB .any l.toArray=true)
  (h:wpQuiet P l.toArray (fun w'=>∃u:Ext w,w'=u.v) (fun a'=>∀w',(∃u:Ext w,w'=u.v)->Q .normal a' w') l a):(Code.region id l.toArray true).wp P Q a w:=
 wp_region_quiet (C:=fun w'=>∃u:Ext w,w'=u.v) hm hB ⟨⟨_,(Fr.refl [] w).drew⟩,rfl⟩ (by simpa using h)
theorem bX {P:Program} {f:FuncId} {args:Array Value} {w:World} {u:Ext w} {v:Value}
  (h:Calls P f args u.v fun e w'=>e= .returned v/\Fr [] u.v w'):Calls P f args u.v fun e yx=>e= .returned v/\∃x:Ext w,yx=x.v:=
 h.mono fun _ w' ⟨he,hf⟩=>⟨he,⟨w',u.fr.ag hf⟩,rfl⟩
theorem bh {P:Program} {f:FuncId} {args:Array Value} {w:World} {u:Ext w} {v:Value}
  (h:Calls P f args u.v fun e w'=>e= .returned v/\u.v=w'):Calls P f args u.v fun e yx=>e= .returned v/\∃x:Ext w,yx=x.v:=
 h.mono fun _ w' ⟨he,hf⟩=>⟨he,u,hf.symm⟩
end
end Go.Proofs.YtjmmpfjcpdepjaaGreatDoor
