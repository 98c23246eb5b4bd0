/- Parts of a proof. -/
import Derived.Test.YtpjbaobgnhjgoaaGreatGAA
import Derived.Deep.DeepCutAuto
set_option linter.unusedVariables false
set_option linter.unusedSimpArgs false
set_option maxHeartbeats 2000000
set_option maxRecDepth 100000
namespace Go.Proofs.YtpjbaobgnhjgoaaGreat
section
open Go.RowKit
structure k9 where
 v:Int
 l:Int
 r:Int
instance:Inhabited k9:=⟨⟨0,0,0⟩⟩
def k9.free:k9:=⟨0,-1,0⟩
def flat:List k9->List Value
 |[]=>[]
 |c::cs=> .int .i64 c.v:: .int .i64 c.l:: .int .i64 c.r::flat cs
theorem Ic(a b:List k9):flat (a++b)=flat a++flat b:=by
 induction a with
 |nil=>rfl
 |cons c cs J=>simp[flat,J]
theorem TT:∀(cs:List k9)(i:Nat),i<cs.length->(flat cs)[i*3]? =some (.int .i64 (cs[i]!).v)/\(flat cs)[i*3+1]? =some (.int .i64 (cs[i]!).l)/\(flat cs)[i*3+2]? =some (.int .i64 (cs[i]!).r):=by
 intro cs;induction cs with
 |nil=>intro i h;simp at h
 |cons c cs J=>
  intro i h;cases i with
  |zero=>simp[flat]
  |succ i=>
   have :=J i (by simpa using h);have e:(i+1)*3=i*3+1+1+1:=by omega
   rw[e];simpa[flat]using this
theorem TS:∀(cs:List k9)(i:Nat)(c:k9),i<cs.length->(((flat cs).set (i*3) (.int .i64 c.v)).set (i*3+1) (.int .i64 c.l)).set (i*3+2) (.int .i64 c.r)=flat (cs.set i c):=by
 intro cs;induction cs with
 |nil=>intro i _ h;simp at h
 |cons d cs J=>
  intro i c h;cases i with
  |zero=>simp[flat]
  |succ i=>
   have :=J i c (by simpa using h);have e:(i+1)*3=i*3+1+1+1:=by omega
   rw[e];simp only[flat,List.set_cons_succ];rw[this]
def Cls(w:World)(A:Option Addr)(c:Nat)(cs:List k9):Prop:=w.ownsRow 0 154 3 (.slice A cs.length c) cs.length (flat cs)
namespace Cls
variable {w w':World} {A:Option Addr} {c:Nat} {cs:List k9}
theorem form(h:Cls w A c cs):(A=none/\c=0/\cs=[])\/∃g,A=some ⟨g,0,none⟩/\g<w.heap.size/\cs.length<=c/\c<=maxLen:=by
 rcases h.2 with⟨h1,h2⟩ |⟨g,cap,cur,J,_,hg,hn,hm,_⟩
 ·simp only[Value.slice.injEq]at h1;exact .inl ⟨h1.1,h1.2.2,aX h2⟩
 ·simp only[Value.slice.injEq,true_and]at J;obtain⟨rfl,rfl⟩:=J;exact .inr ⟨g,rfl,At.lt (t:=154) hg,hn,hm⟩
theorem pos{i:Nat}(h:Cls w A c cs)(hi:i<cs.length):∃g,A=some ⟨g,0,none⟩/\g<w.heap.size:=by
 rcases h.form with⟨_,_,rfl⟩ |⟨g,h1,J,_⟩
 ·simp at hi
 ·exact⟨g,h1,J⟩
theorem cell{g:Nat}(h:Cls w (some ⟨g,0,none⟩) c cs){i:Nat}(hi:i<cs.length):
  w.cell? ⟨g,i*3,none⟩=some (.int .i64 (cs[i]!).v)/\w.cell? ⟨g,i*3+1,none⟩=some (.int .i64 (cs[i]!).l)/\w.cell? ⟨g,i*3+2,none⟩=some (.int .i64 (cs[i]!).r):=by
 obtain⟨h1,J,h3⟩:=TT cs i hi;refine⟨?_,?_,?_⟩
 ·rw[World.ownsRow.cellAt h _ (by omega)];exact h1
 ·rw[World.ownsRow.cellAt h _ (by omega)];exact J
 ·rw[World.ownsRow.cellAt h _ (by omega)];exact h3
theorem frozen{g:Nat}(h:Cls w (some ⟨g,0,none⟩) c cs)(i:Nat):w.frozen? ⟨g,i,none⟩=false:=World.ownsRow.frozenAt h i
theorem dL{g:Nat}(h:Cls w (some ⟨g,0,none⟩) c cs){i:Nat}(hi:i<cs.length)(x:k9):
  Cls (((w.setCell ⟨g,i*3,none⟩ (.int .i64 x.v)).setCell ⟨g,i*3+1,none⟩ (.int .i64 x.l)).setCell ⟨g,i*3+2,none⟩ (.int .i64 x.r)) (some ⟨g,0,none⟩) c (cs.set i x):=by
 have h1:=(World.ownsRow.stored h (i*3) (.int .i64 x.v)).1;have h2:=(World.ownsRow.stored h1 (i*3+1) (.int .i64 x.l)).1;have J:=(World.ownsRow.stored h2 (i*3+2) (.int .i64 x.r)).1;unfold Cls;rw[TS cs i x hi]at J;rw[aw];exact J
theorem M0:∀k,(Value.slice A cs.length c).ownBlock=some k->k∈ao A:=fun k hk=>(k7 k).1 hk
theorem ie(h:Cls w A c cs){p:Addr}(hp:p.block∉ao A)(u:Value):Cls (w.setCell p u) A c cs:=
 Fr.own (S:=[p.block]) ((Fr.refl [p.block] w).setCell (.inl (by simp)) u) h (fun k hk=>by have :=M0 k hk;simp only[ag];rintro rfl;exact hp this)
theorem fr{S:List Nat}(h:Cls w A c cs)(J:Fr S w w')(hd:∀k,k∈ao A->k∉S):Cls w' A c cs:=J.own h (fun k hk=>hd k (M0 k hk))
theorem alloc(h:Cls w A c cs)(o:Obj):Cls (w.alloc o) A c cs:=World.ownsRow.alloc h o
theorem lt(h:Cls w A c cs):∀k,k∈ao A->k<w.heap.size:=by
 rcases h.form with⟨rfl,_⟩ |⟨g,rfl,h1,_⟩
 ·simp[ao]
 ·simpa[ao]using h1
theorem len(h:Cls w A c cs):cs.length<=maxLen:=by
 rcases h.form with⟨_,_,rfl⟩ |⟨g,_,_,h1,J⟩
 ·simp[maxLen]
 ·omega
end Cls
structure Tr where
 cells:List k9
 lits:List Int
 levels:List Int
structure fo where
 a:Nat
 A1:Option Addr
 c1:Nat
 A2:Option Addr
 c2:Nat
 A3:Option Addr
 c3:Nat
def fo.fp(L:fo):List Nat:=L.a::(ao L.A1++(ao L.A2++ao L.A3))
structure TrAt(w:World)(L:fo)(T:Tr):Prop where
 obj:At w L.a 157 #[.slice L.A1 T.cells.length L.c1, .slice L.A2 T.lits.length L.c2, .slice L.A3 T.levels.length L.c3]
 cells:Cls w L.A1 L.c1 T.cells
 lits:Ints w L.A2 L.c2 T.lits
 levels:Ints w L.A3 L.c3 T.levels
 nodup:L.fp.Nodup
def Tr.kb(T:Tr)(v:Int):Bool:=decide (1<=v)&&decide (v<T.cells.length)
theorem Tr.dP{T:Tr}{v:Int}(h:T.kb v=true):1<=v/\v<T.cells.length:=by simpa[Tr.kb]using h
def Tr.mf(T:Tr)(v:Int):k9:=T.cells[v.toNat]!
theorem qe{a b:Bool}(h:a=b):Ending.returned (.bool a)= .returned (.bool b):=by rw[h]
theorem oV{k:IntKind}{a b:Int}(h:a=b):Ending.returned (.int k a)= .returned (.int k b):=by rw[h]
theorem dW(w:World)(L:fo)(T:Tr)(h:TrAt w L T)(v:Int)(b:Bool)(hb:T.kb v=b):
  Calls Tryz.prog 146 #[.pointer (some ⟨L.a,0,none⟩), .int .i64 v] w fun e w'=>e= .returned (.bool b)/\w=w':=by
 subst hb;have c1:=h.obj.cell 0;simp at c1;unfold Tr.kb;by_cases J:1<=v
 ·by_cases h1:v<T.cells.length
  ·go_enter Tryz.func146,Tryz.ntmps146;go_wp2;go_ret;exact⟨qe (by simp[J,h1]),rfl⟩
  ·go_enter Tryz.func146,Tryz.ntmps146;go_wp2;go_ret;exact⟨qe (by simp[h1]),rfl⟩
 ·go_enter Tryz.func146,Tryz.ntmps146;go_wp2;go_ret;exact⟨qe (by simp;omega),rfl⟩
theorem TrAt.jo{w:World}{L:fo}{T:Tr}(h:TrAt w L T){v:Int}(h0:0<=v)(h1:v<T.cells.length):
  ∃g,L.A1=some ⟨g,0,none⟩/\w.cell? ⟨g,v.toNat*3,none⟩=some (.int .i64 (T.mf v).v)/\w.cell? ⟨g,v.toNat*3+1,none⟩=some (.int .i64 (T.mf v).l)/\w.cell? ⟨g,v.toNat*3+2,none⟩=some (.int .i64 (T.mf v).r)/\∀j,w.frozen? ⟨g,j,none⟩=false:=by
 obtain⟨g,J,_⟩:=h.cells.pos (i:=v.toNat) (by omega);refine⟨g,J,?_⟩;have :=h.cells;rw[J]at this;obtain⟨a,b,c⟩:=this.cell (i:=v.toNat) (by omega);exact⟨a,b,c,this.frozen⟩
def Tr.dF(T:Tr)(v:Int):Int:=if T.kb v=true then(T.mf v).l else -1
def Tr.fV(T:Tr)(v:Int):Int:=if T.kb v=true then(T.mf v).r else 0
theorem kV(w:World)(L:fo)(T:Tr)(h:TrAt w L T)(v:Int):
  Calls Tryz.prog 113 #[.pointer (some ⟨L.a,0,none⟩), .int .i64 v] w fun e w'=>e= .returned (.int .i64 (T.dF v))/\w=w':=by
 have o1:=h.obj.cell 0;simp at o1;unfold Tr.dF;cases J:T.kb v with
 |true=>
  obtain⟨h0,h1⟩:=Tr.dP J;obtain⟨g,hg,c0,c1,c2,_⟩:=h.jo (v:=v) (by omega) h1;rw[hg]at o1;have HB:=ae J;have HH:=ae h;clear J h hg;go_enter Tryz.func113,Tryz.ntmps113;go_wp2_with fail;refine(dW _ L T HH.o v true HB.o).mono ?_;rintro e w1 ⟨rfl,rfl⟩;go_wp2;go_ret;exact⟨oV (by simp),rfl⟩
 |false=>
  have HB:=ae J;have HH:=ae h;clear J h;go_enter Tryz.func113,Tryz.ntmps113;go_wp2_with fail;refine(dW _ L T HH.o v false HB.o).mono ?_;rintro e w1 ⟨rfl,rfl⟩;go_wp2;go_ret;exact⟨oV (by simp),rfl⟩
theorem lI(w:World)(L:fo)(T:Tr)(h:TrAt w L T)(v:Int):
  Calls Tryz.prog 162 #[.pointer (some ⟨L.a,0,none⟩), .int .i64 v] w fun e w'=>e= .returned (.int .i64 (T.fV v))/\w=w':=by
 have o1:=h.obj.cell 0;simp at o1;unfold Tr.fV;cases J:T.kb v with
 |true=>
  obtain⟨h0,h1⟩:=Tr.dP J;obtain⟨g,hg,c0,c1,c2,_⟩:=h.jo (v:=v) (by omega) h1;rw[hg]at o1;have HB:=ae J;have HH:=ae h;clear J h hg;go_enter Tryz.func162,Tryz.ntmps162;go_wp2_with fail;refine(dW _ L T HH.o v true HB.o).mono ?_;rintro e w1 ⟨rfl,rfl⟩;go_wp2;go_ret;exact⟨oV (by simp),rfl⟩
 |false=>
  have HB:=ae J;have HH:=ae h;clear J h;go_enter Tryz.func162,Tryz.ntmps162;go_wp2_with fail;refine(dW _ L T HH.o v false HB.o).mono ?_;rintro e w1 ⟨rfl,rfl⟩;go_wp2;go_ret;exact⟨oV (by simp),rfl⟩
theorem m9(w:World)(L:fo)(T:Tr)(h:TrAt w L T):
  Calls Tryz.prog 110 #[.pointer (some ⟨L.a,0,none⟩)] w fun e w'=>e= .returned (.int .i64 T.levels.length)/\w=w':=by
 have J:=h.obj.cell 2;simp at J;clear h;go_enter Tryz.func110,Tryz.ntmps110;go_wp2;go_ret;exact⟨rfl,rfl⟩
theorem mc(w:World)(L:fo)(T:Tr)(h:TrAt w L T):
  Calls Tryz.prog 111 #[.pointer (some ⟨L.a,0,none⟩)] w fun e w'=>e= .returned (.int .i64 T.lits.length)/\w=w':=by
 have J:=h.obj.cell 1;simp at J;clear h;go_enter Tryz.func111,Tryz.ntmps111;go_wp2;go_ret;exact⟨rfl,rfl⟩
def Tr.atB(T:Tr)(i:Int):Int:=if 0<=i/\i<T.lits.length then T.lits[i.toNat]! else 0
theorem ml(w:World)(L:fo)(T:Tr)(h:TrAt w L T)(i:Int):
  Calls Tryz.prog 112 #[.pointer (some ⟨L.a,0,none⟩), .int .i64 i] w fun e w'=>e= .returned (.int .i64 (T.atB i))/\w=w':=by
 have o1:=h.obj.cell 1;simp at o1;unfold Tr.atB;by_cases h0:0<=i
 ·by_cases h1:i<T.lits.length
  ·obtain⟨g,J,_⟩:=h.lits.pos (i:=i.toNat) (by omega);have hc:=h.lits;rw[J]at hc o1;have c1:=hc.cell (i:=i.toNat) (by omega);rw[qai ⟨h0,h1⟩];obtain⟨y,hy⟩:∃y,T.lits[i.toNat]! =y:=⟨_,rfl⟩
   rw[hy]at c1⊢;clear h J hc hy;go_enter Tryz.func112,Tryz.ntmps112;go_wp2;go_ret;exact⟨rfl,rfl⟩
  ·rw[qah (by omega)];clear h;go_enter Tryz.func112,Tryz.ntmps112;go_wp2;go_ret;exact⟨rfl,rfl⟩
 ·rw[qah (by omega)];clear h;go_enter Tryz.func112,Tryz.ntmps112;go_wp2;go_ret;exact⟨rfl,rfl⟩
def tv(l:Int):Int:=if l= -9223372036854775808 then l else if l<0 then -l else l
theorem oU{l:Int}(h:0<=l):tv l=l:=by unfold tv;rw[qah (by omega),qah (by omega)]
theorem sF{l:Int}(h:l<0)(J: -9223372036854775808<l):tv l= -l:=by unfold tv;rw[qah (by omega),qai h]
theorem qa{l:Int}(h:l= -9223372036854775808):tv l=l:=by unfold tv;rw[qai h]
theorem OF{l:Int}(h:l= -9223372036854775808):wrap64 (-l)=l:=by subst h;unfold wrap64;omega
theorem oq(l:Int)(h: -9223372036854775808<=l):(0<=l/\tv l=l)\/(l<0/\ -9223372036854775807<=l/\tv l= -l)\/(l<0/\tv l=l/\wrap64 (-l)=l):=by
 by_cases J:0<=l
 ·exact .inl ⟨J,oU J⟩
 ·by_cases h1:l= -9223372036854775808
  ·exact .inr (.inr ⟨by omega,qa h1,OF h1⟩)
  ·exact .inr (.inl ⟨by omega,by omega,sF (by omega) (by omega)⟩)
def Tr.mQ(T:Tr)(l:Int):Int:=if T.kb (tv l)=true then(if l<0 then -(T.mf (tv l)).v else(T.mf (tv l)).v)else 0
theorem eN(w:World)(L:fo)(T:Tr)(h:TrAt w L T)(l:Int)(Xi: -9223372036854775808<=l)(ab:l<=9223372036854775807)(zu:∀v:Int,1<=v->v<T.cells.length-> -1<=(T.mf v).v/\(T.mf v).v<=1):
  Calls Tryz.prog 126 #[.pointer (some ⟨L.a,0,none⟩), .int .i64 l] w fun e w'=>e= .returned (.int .i64 (T.mQ l))/\w=w':=by
 have o1:=h.obj.cell 0;simp at o1;unfold Tr.mQ;rcases oq l Xi with⟨hl,hv⟩ |⟨hl,pJ,hv⟩ |⟨hl,hv,hw⟩
 ·rw[hv];clear hv Xi;cases J:T.kb l with
  |true=>
   obtain⟨h0,h1⟩:=Tr.dP J;obtain⟨g,hg,c0,c1,c2,_⟩:=h.jo (v:=l) (by omega) h1;rw[hg]at o1;obtain⟨y,hy⟩:∃y,(T.mf (l)).v=y:=⟨_,rfl⟩
   have ld:=zu _ (by omega) h1;rw[hy]at c0 ld⊢;rw[qai rfl,qah (by omega)];have HB:=ae J;have HH:=ae h;clear J h hg hy c1 c2 zu;go_enter Tryz.func126,Tryz.ntmps126;go_wp2_with fail;refine(dW _ L T HH.o _ true HB.o).mono ?_;rintro e w1 ⟨rfl,rfl⟩;go_wp2;go_ret;exact⟨rfl,rfl⟩
  |false=>
   have HB:=ae J;have HH:=ae h;clear J h;go_enter Tryz.func126,Tryz.ntmps126;go_wp2_with fail;refine(dW _ L T HH.o _ false HB.o).mono ?_;rintro e w1 ⟨rfl,rfl⟩;go_wp2;go_ret;exact⟨by simp,rfl⟩
 ·rw[hv];clear hv Xi;cases J:T.kb (-l)with
  |true=>
   obtain⟨h0,h1⟩:=Tr.dP J;obtain⟨g,hg,c0,c1,c2,_⟩:=h.jo (v:= -l) (by omega) h1;rw[hg]at o1;obtain⟨y,hy⟩:∃y,(T.mf (-l)).v=y:=⟨_,rfl⟩
   have ld:=zu _ (by omega) h1;rw[hy]at c0 ld⊢;rw[qai rfl,qai hl];have HB:=ae J;have HH:=ae h;clear J h hg hy c1 c2 zu;go_enter Tryz.func126,Tryz.ntmps126;go_wp2_with fail;refine(dW _ L T HH.o _ true HB.o).mono ?_;rintro e w1 ⟨rfl,rfl⟩;go_wp2;go_ret;exact⟨rfl,rfl⟩
  |false=>
   have HB:=ae J;have HH:=ae h;clear J h;go_enter Tryz.func126,Tryz.ntmps126;go_wp2_with fail;refine(dW _ L T HH.o _ false HB.o).mono ?_;rintro e w1 ⟨rfl,rfl⟩;go_wp2;go_ret;exact⟨by simp,rfl⟩
 ·have J:T.kb l=false:=by
   cases hh:T.kb l with
   |false=>rfl
   |true=>have :=(Tr.dP hh).1;omega
  rw[hv,J];have HB:=ae J;have HH:=ae h;clear J h hv Xi;go_enter Tryz.func126,Tryz.ntmps126;go_wp2_with fail;refine(dW _ L T HH.o _ false HB.o).mono ?_;rintro e w1 ⟨rfl,rfl⟩;go_wp2;go_ret;exact⟨by simp,rfl⟩
theorem iH{a:Nat}{x y z:List Nat}(h:(a::(x++(y++z))).Nodup):
  (∀k,k∈x->k≠a/\k∉y/\k∉z)/\(∀k,k∈y->k≠a/\k∉x/\k∉z)/\(∀k,k∈z->k≠a/\k∉x/\k∉y):=by
 simp only[kg,ah,List.nodup_append]at h;obtain⟨h1,h2,⟨h3,h4,h5⟩,J⟩:=h;refine⟨fun k hk=>⟨?_,?_,?_⟩,fun k hk=>⟨?_,?_,?_⟩,fun k hk=>⟨?_,?_,?_⟩⟩
 ·rintro rfl;exact h1 (.inl hk)
 ·exact fun hy=>J k hk k (.inl hy) rfl
 ·exact fun hz=>J k hk k (.inr hz) rfl
 ·rintro rfl;exact h1 (.inr (.inl hk))
 ·exact fun hx=>J k hx k (.inl hk) rfl
 ·exact fun hz=>h5 k hk k hz rfl
 ·rintro rfl;exact h1 (.inr (.inr hk))
 ·exact fun hx=>J k hx k (.inr hk) rfl
 ·exact fun hy=>h5 k hy k hk rfl
def fo.ext(L L':fo)(w:World):Prop:=L'.a=L.a/\∀k,k∈L'.fp->k∈L.fp\/w.heap.size<=k
theorem fo.cw(L:fo)(w:World):L.ext L w:=⟨rfl,fun _ h=> .inl h⟩
theorem fo.a6{L M N:fo}{w w':World}{S:List Nat}(h:L.ext M w)(k:M.ext N w')(J:Fr S w w'):L.ext N w:=
 ⟨k.1.trans h.1,fun x hx=>(k.2 x hx).elim (fun hm=>h.2 x hm) (fun hm=> .inr (aE J.size hm))⟩
namespace TrAt
variable {w w':World} {L:fo} {T:Tr}
theorem drew(h:TrAt w L T):TrAt w.drew L T:=⟨h.obj,h.cells,h.lits,h.levels,h.nodup⟩
theorem alloc(h:TrAt w L T)(o:Obj):TrAt (w.alloc o) L T:=⟨h.obj.alloc o,h.cells.alloc o,h.lits.alloc o,h.levels.alloc o,h.nodup⟩
theorem fr{S:List Nat}(h:TrAt w L T)(J:Fr S w w')(hd:∀k,k∈L.fp->k∉S):TrAt w' L T:=
 ⟨J.at_ h.obj (hd _ (by simp[fo.fp])),h.cells.fr J fun k hk=>hd k (by simp[fo.fp,hk]),h.lits.fr J fun k hk=>hd k (by simp[fo.fp,hk]),h.levels.fr J fun k hk=>hd k (by simp[fo.fp,hk]),h.nodup⟩
theorem lt(h:TrAt w L T):∀k,k∈L.fp->k<w.heap.size:=by
 intro k hk;simp only[fo.fp,ay,ah]at hk;rcases hk with rfl |hk |hk |hk
 ·exact h.obj.lt
 ·exact h.cells.lt k hk
 ·exact h.lits.lt k hk
 ·exact h.levels.lt k hk
theorem yQ(h:TrAt w L T){g:Nat}(hg:L.A1=some ⟨g,0,none⟩){i:Nat}(hi:i<T.cells.length)(x:k9):
  TrAt (((w.setCell ⟨g,i*3,none⟩ (.int .i64 x.v)).setCell ⟨g,i*3+1,none⟩ (.int .i64 x.l)).setCell ⟨g,i*3+2,none⟩ (.int .i64 x.r)) L { T with cells:=T.cells.set i x }:=by
 obtain⟨h1,h2,h3⟩:=iH h.nodup;have hm:g∈ao L.A1:=by simp[hg,ao]
 have J:Fr [g] w (((w.setCell ⟨g,i*3,none⟩ (.int .i64 x.v)).setCell ⟨g,i*3+1,none⟩ (.int .i64 x.l)).setCell ⟨g,i*3+2,none⟩ (.int .i64 x.r)):=
  (((Fr.refl [g] w).setCell (.inl (by simp)) _).setCell (.inl (by simp)) _).setCell (.inl (by simp)) _
 have ne:∀k,k≠g->k∉[g]:=fun k e=>by simpa using e
 refine⟨?_,?_,h.lits.fr J fun k hk=>ne k (fun e=>(h2 k hk).2.1 (e▸hm)),h.levels.fr J fun k hk=>ne k (fun e=>(h3 k hk).2.1 (e▸hm)),h.nodup⟩
 ·have :=J.at_ h.obj (ne _ (fun e=>(h1 g hm).1 e.symm));simpa using this
 ·have :=h.cells;rw[hg]at this⊢;exact this.dL hi x
theorem qY(w:World)(L:fo){g:Nat}(J:L.A1=some ⟨g,0,none⟩)(i j k:Nat)(x y z:Value):Fr L.fp w (((w.setCell ⟨g,i,none⟩ x).setCell ⟨g,j,none⟩ y).setCell ⟨g,k,none⟩ z):=
 (((Fr.refl L.fp w).setCell (.inl (by simp[fo.fp,J,ao])) _).setCell (.inl (by simp[fo.fp,J,ao])) _).setCell (.inl (by simp[fo.fp,J,ao])) _
theorem M4(h:TrAt w L T){g cap:Nat}{lits:List Int}(hi:Ints w' (some ⟨g,0,none⟩) cap lits)(hf:Fr (ao L.A2) w w')(hg:g∈ao L.A2\/w.heap.size<=g):
  TrAt (w'.setCell ⟨L.a,1,none⟩ (.slice (some ⟨g,0,none⟩) lits.length cap)) { L with A2:=some ⟨g,0,none⟩,c2:=cap } { T with lits:=lits }/\
  L.ext { L with A2:=some ⟨g,0,none⟩,c2:=cap } w/\Fr L.fp w (w'.setCell ⟨L.a,1,none⟩ (.slice (some ⟨g,0,none⟩) lits.length cap)):=by
 obtain⟨h1,h2,h3⟩:=iH h.nodup;have bt:=h.lt;have nG:g≠L.a/\g∉ao L.A1/\g∉ao L.A3:=by
  rcases hg with q |q
  ·exact h2 g q
  ·refine⟨?_,fun k=> ?_,fun k=> ?_⟩
   ·have :=h.obj.lt;omega
   ·have :=h.cells.lt _ k;omega
   ·have :=h.levels.lt _ k;omega
 have bG:ao (some ⟨g,0,none⟩)=[g]:=rfl;refine⟨⟨?_,?_,?_,?_,?_⟩,⟨rfl,?_⟩,?_⟩
 ·have :=(hf.at_ h.obj (fun k=>(h2 _ k).1 rfl)).dL 1 (.slice (some ⟨g,0,none⟩) lits.length cap);simpa using this
 ·exact(h.cells.fr hf fun k hk lQ=>(h1 k hk).2.1 lQ).ie (fun k=>(h1 _ k).1 rfl) _
 ·exact hi.ie (by rw[bG];simpa using fun e=>nG.1 e.symm) _
 ·exact(h.levels.fr hf fun k hk lQ=>(h3 k hk).2.2 lQ).ie (fun k=>(h3 _ k).1 rfl) _
 ·have hn:=h.nodup;simp only[fo.fp,kg,ah,List.nodup_append,bG,ag,bi,not_false_eq_true,List.nodup_nil,true_and]at hn⊢;obtain⟨n1,n2,⟨n3,n4,n5⟩,n6⟩:=hn;refine⟨?_,n2,⟨n4,?_⟩,?_⟩
  ·rintro(hk |hk |hk)
   ·exact n1 (.inl hk)
   ·exact nG.1 hk.symm
   ·exact n1 (.inr (.inr hk))
  ·intro a ha b J e;subst ha;subst e;exact nG.2.2 J
  ·intro k hk b J e;subst e;rcases J with J |J
   ·subst J;exact nG.2.1 hk
   ·exact n6 k hk k (.inr J) rfl
 ·intro k hk;simp only[fo.fp,bG,ay,ah,bi,or_false]at hk⊢;rcases hk with hk |hk |hk |hk
  ·exact .inl (.inl hk)
  ·exact .inl (.inr (.inl hk))
  ·subst hk;exact hg.imp (fun q=> .inr (.inr (.inl q))) id
  ·exact .inl (.inr (.inr (.inr hk)))
 ·exact(hf.mono (T:=L.fp) fun k hk=> .inl (by simp[fo.fp,hk])).setCell (.inl (by simp[fo.fp])) _
end TrAt
def Tr.qt(T:Tr)(l r:Int):Tr:={ cells:=T.cells.set (tv l).toNat ⟨if l<0 then -1 else 1,T.levels.length,r⟩,lits:=T.lits++[l],levels:=T.levels }
theorem FP(w:World)(L:fo)(T:Tr)(h:TrAt w L T)(l r:Int)(hl:0<=l)(ar:l<=9223372036854775807)(hb:T.kb (l)=true)(hf:T.mf (l)=k9.free)(hlen:T.lits.length<17592186044416):
  Calls Tryz.prog 129 #[.pointer (some ⟨L.a,0,none⟩), .int .i64 l, .int .i64 r] w fun e w'=>e= .returned (.bool true)/\∃L',TrAt w' L' (T.qt l r)/\L.ext L' w/\Fr L.fp w w':=by
 have o0:=h.obj.cell 0;have o1:=h.obj.cell 1;have o2:=h.obj.cell 2;simp at o0 o1 o2;obtain⟨h0,h1⟩:=Tr.dP hb;obtain⟨g,hg,c0,c1,c2,wY⟩:=h.jo (v:=l) (by omega) h1;rw[hf]at c0 c1 c2;simp only[k9.free]at c0 c1 c2;rw[hg]at o0;have f0:=wY (l.toNat*3);have f1:=wY (l.toNat*3+1);have f2:=wY (l.toNat*3+2);have bt:=h.lt L.a (by simp[fo.fp]);have ad:=h.lt g (by simp[fo.fp,hg,ao]);have HB:=ae hb;have HH:=ae h;have HG:=ae hg;clear hb h hf hg wY;have HV:aj (tv l=l):=oU hl;go_enter Tryz.func129,Tryz.ntmps129;go_wp2_with fail;refine(dW _ L T HH.o _ true HB.o).mono ?_;rintro e w1 ⟨rfl,rfl⟩;go_wp2;go_region;obtain⟨V,hV⟩:∃V,V=((((w.setCell ⟨g,l.toNat*3,none⟩ (.int .i64 1)).setCell ⟨g,l.toNat*3+1,none⟩ (.int .i64 T.levels.length)).setCell ⟨g,l.toNat*3+2,none⟩ (.int .i64 r)).alloc (.cells #[.int .i64 1, .int .i64 T.levels.length, .int .i64 r] 154)).drew:=⟨_,rfl⟩
 rw[<-hV];have J:TrAt V L { T with cells:=T.cells.set l.toNat ⟨1,T.levels.length,r⟩}:=by rw[hV];exact((HH.o.yQ HG.o (i:=l.toNat) (by omega) ⟨1,T.levels.length,r⟩).alloc _).drew
 have hF:Fr L.fp w V:=by rw[hV];exact((TrAt.qY w L HG.o _ _ _ _ _ _).alloc _).drew
 clear hV o0 o1 o2 c0 c1 c2 f0 f1 f2 ad bt;have o1:=J.obj.cell 1;have q1:=J.obj.frozen 1;simp at o1;have bt:=J.lt L.a (by simp[fo.fp]);have HA:=ae J;have HF:=ae hF;have HN:aj (L.a∉ao L.A2):=fun hk=>((iH J.nodup).2.1 _ hk).1 rfl;clear J hF;go_wp2_with (at_builtin;refine cL _ rfl _ _ rfl L.A2 L.c2 T.lits _ rfl rfl (HA.o.lits.alloc _) ⟨V.heap.size,0,none⟩ 1 l rfl (by simp) (by omega) ?_;intro g2 cap w2 oQ cE fu jB;have q2:=cE.at_ (HA.o.obj.alloc _) HN.o;have q3:=q2.cell 1;have q4:=q2.frozen 1;simp at q3;have HI:=ae oQ;have df:=ae cE;have qT:=ae fu;clear q2 oQ cE fu jB)
 go_ret;refine⟨rfl,?_⟩;have fu:g2∈ao L.A2\/(V.alloc (.cells #[.int .i64 l] 3)).heap.size<=g2:=qT.o.imp id (fun e=>by rw[e];exact aq _);obtain⟨hN,hX,ab⟩:=(HA.o.alloc _).M4 HI.o df.o fu;refine⟨_,?_,fo.a6 (fo.cw L w) ⟨hX.1,fun k hk=>(hX.2 k hk).imp id (fun h=> ?_)⟩ HF.o,?_⟩
 ·have :=hN;unfold Tr.qt;rw[HV.o,qah (by omega)];simpa using this
 ·have :V.heap.size<=(V.alloc (.cells #[.int .i64 l] 3)).heap.size:=by simp
  exact aE this h
 ·have :=(HF.o.alloc (.cells #[.int .i64 l] 3)).trans ab (fun k hk=> .inl hk);simpa using this
theorem FQ(w:World)(L:fo)(T:Tr)(h:TrAt w L T)(l r:Int)(hl:l<0)(Xi: -9223372036854775807<=l)(hb:T.kb (-l)=true)(hf:T.mf (-l)=k9.free)(hlen:T.lits.length<17592186044416):
  Calls Tryz.prog 129 #[.pointer (some ⟨L.a,0,none⟩), .int .i64 l, .int .i64 r] w fun e w'=>e= .returned (.bool true)/\∃L',TrAt w' L' (T.qt l r)/\L.ext L' w/\Fr L.fp w w':=by
 have o0:=h.obj.cell 0;have o1:=h.obj.cell 1;have o2:=h.obj.cell 2;simp at o0 o1 o2;obtain⟨h0,h1⟩:=Tr.dP hb;obtain⟨g,hg,c0,c1,c2,wY⟩:=h.jo (v:= -l) (by omega) h1;rw[hf]at c0 c1 c2;simp only[k9.free]at c0 c1 c2;rw[hg]at o0;have f0:=wY ((-l).toNat*3);have f1:=wY ((-l).toNat*3+1);have f2:=wY ((-l).toNat*3+2);have bt:=h.lt L.a (by simp[fo.fp]);have ad:=h.lt g (by simp[fo.fp,hg,ao]);have HB:=ae hb;have HH:=ae h;have HG:=ae hg;clear hb h hf hg wY;have HV:aj (tv l= -l):=sF hl (by omega);go_enter Tryz.func129,Tryz.ntmps129;go_wp2_with fail;refine(dW _ L T HH.o _ true HB.o).mono ?_;rintro e w1 ⟨rfl,rfl⟩;go_wp2;go_region;obtain⟨V,hV⟩:∃V,V=((((w.setCell ⟨g,(-l).toNat*3,none⟩ (.int .i64 (-1))).setCell ⟨g,(-l).toNat*3+1,none⟩ (.int .i64 T.levels.length)).setCell ⟨g,(-l).toNat*3+2,none⟩ (.int .i64 r)).alloc (.cells #[.int .i64 (-1), .int .i64 T.levels.length, .int .i64 r] 154)).drew:=⟨_,rfl⟩
 rw[<-hV];have J:TrAt V L { T with cells:=T.cells.set (-l).toNat ⟨(-1),T.levels.length,r⟩}:=by rw[hV];exact((HH.o.yQ HG.o (i:=(-l).toNat) (by omega) ⟨(-1),T.levels.length,r⟩).alloc _).drew
 have hF:Fr L.fp w V:=by rw[hV];exact((TrAt.qY w L HG.o _ _ _ _ _ _).alloc _).drew
 clear hV o0 o1 o2 c0 c1 c2 f0 f1 f2 ad bt;have o1:=J.obj.cell 1;have q1:=J.obj.frozen 1;simp at o1;have bt:=J.lt L.a (by simp[fo.fp]);have HA:=ae J;have HF:=ae hF;have HN:aj (L.a∉ao L.A2):=fun hk=>((iH J.nodup).2.1 _ hk).1 rfl;clear J hF;go_wp2_with (at_builtin;refine cL _ rfl _ _ rfl L.A2 L.c2 T.lits _ rfl rfl (HA.o.lits.alloc _) ⟨V.heap.size,0,none⟩ 1 l rfl (by simp) (by omega) ?_;intro g2 cap w2 oQ cE fu jB;have q2:=cE.at_ (HA.o.obj.alloc _) HN.o;have q3:=q2.cell 1;have q4:=q2.frozen 1;simp at q3;have HI:=ae oQ;have df:=ae cE;have qT:=ae fu;clear q2 oQ cE fu jB)
 go_ret;refine⟨rfl,?_⟩;have fu:g2∈ao L.A2\/(V.alloc (.cells #[.int .i64 l] 3)).heap.size<=g2:=qT.o.imp id (fun e=>by rw[e];exact aq _);obtain⟨hN,hX,ab⟩:=(HA.o.alloc _).M4 HI.o df.o fu;refine⟨_,?_,fo.a6 (fo.cw L w) ⟨hX.1,fun k hk=>(hX.2 k hk).imp id (fun h=> ?_)⟩ HF.o,?_⟩
 ·have :=hN;unfold Tr.qt;rw[HV.o,qai hl];simpa using this
 ·have :V.heap.size<=(V.alloc (.cells #[.int .i64 l] 3)).heap.size:=by simp
  exact aE this h
 ·have :=(HF.o.alloc (.cells #[.int .i64 l] 3)).trans ab (fun k hk=> .inl hk);simpa using this
theorem TrAt.OE{w w':World}{L:fo}{T:Tr}(h:TrAt w L T){g cap:Nat}{lv:List Int}(hi:Ints w' (some ⟨g,0,none⟩) cap lv)(hf:Fr (ao L.A3) w w')(hg:g∈ao L.A3\/w.heap.size<=g):
  TrAt (w'.setCell ⟨L.a,2,none⟩ (.slice (some ⟨g,0,none⟩) lv.length cap)) { L with A3:=some ⟨g,0,none⟩,c3:=cap } { T with levels:=lv }/\
  L.ext { L with A3:=some ⟨g,0,none⟩,c3:=cap } w/\Fr L.fp w (w'.setCell ⟨L.a,2,none⟩ (.slice (some ⟨g,0,none⟩) lv.length cap)):=by
 obtain⟨h1,h2,h3⟩:=iH h.nodup;have nG:g≠L.a/\g∉ao L.A1/\g∉ao L.A2:=by
  rcases hg with q |q
  ·exact h3 g q
  ·refine⟨?_,fun k=> ?_,fun k=> ?_⟩
   ·have :=h.obj.lt;omega
   ·have :=h.cells.lt _ k;omega
   ·have :=h.lits.lt _ k;omega
 have bG:ao (some ⟨g,0,none⟩)=[g]:=rfl;refine⟨⟨?_,?_,?_,?_,?_⟩,⟨rfl,?_⟩,?_⟩
 ·have :=(hf.at_ h.obj (fun k=>(h3 _ k).1 rfl)).dL 2 (.slice (some ⟨g,0,none⟩) lv.length cap);simpa using this
 ·exact(h.cells.fr hf fun k hk lQ=>(h1 k hk).2.2 lQ).ie (fun k=>(h1 _ k).1 rfl) _
 ·exact(h.lits.fr hf fun k hk lQ=>(h2 k hk).2.2 lQ).ie (fun k=>(h2 _ k).1 rfl) _
 ·exact hi.ie (by rw[bG];simpa using fun e=>nG.1 e.symm) _
 ·have hn:=h.nodup;simp only[fo.fp,kg,ah,List.nodup_append,bG,ag,bi,not_false_eq_true,List.nodup_nil,true_and]at hn⊢;obtain⟨n1,n2,⟨n3,n4,n5⟩,n6⟩:=hn;refine⟨?_,n2,⟨n3,?_⟩,?_⟩
  ·rintro(hk |hk |hk)
   ·exact n1 (.inl hk)
   ·exact n1 (.inr (.inl hk))
   ·exact nG.1 hk.symm
  ·intro a ha b J e;subst J;subst e;exact nG.2.2 ha
  ·intro k hk b J e;subst e;rcases J with J |J
   ·exact n6 k hk k (.inl J) rfl
   ·subst J;exact nG.2.1 hk
 ·intro k hk;simp only[fo.fp,bG,ay,ah,bi,or_false]at hk⊢;rcases hk with hk |hk |hk |hk
  ·exact .inl (.inl hk)
  ·exact .inl (.inr (.inl hk))
  ·exact .inl (.inr (.inr (.inl hk)))
  ·subst hk;exact hg.imp (fun q=> .inr (.inr (.inr q))) id
 ·exact(hf.mono (T:=L.fp) fun k hk=> .inl (by simp[fo.fp,hk])).setCell (.inl (by simp[fo.fp])) _
def Tr.ke(T:Tr)(l:Int):Bool:=T.kb (tv l)&&decide ((T.mf (tv l)).v=0/\(T.mf (tv l)).l= -1/\(T.mf (tv l)).r=0)
theorem xu(w:World)(L:fo)(T:Tr)(h:TrAt w L T)(l r:Int)(hl:0<=l)(ab:l<=9223372036854775807)(J:T.kb (l)=false):
  Calls Tryz.prog 129 #[.pointer (some ⟨L.a,0,none⟩), .int .i64 l, .int .i64 r] w fun e w'=>e= .returned (.bool false)/\w=w':=by
 have HB:=ae J;have HH:=ae h;clear J h;go_enter Tryz.func129,Tryz.ntmps129;go_wp2_with fail;refine(dW _ L T HH.o _ false HB.o).mono ?_;rintro e w1 ⟨rfl,rfl⟩;go_wp2;go_ret;exact⟨rfl,rfl⟩
theorem xv(w:World)(L:fo)(T:Tr)(h:TrAt w L T)(l r:Int)(hl:l<0)(Xi: -9223372036854775807<=l)(J:T.kb (-l)=false):
  Calls Tryz.prog 129 #[.pointer (some ⟨L.a,0,none⟩), .int .i64 l, .int .i64 r] w fun e w'=>e= .returned (.bool false)/\w=w':=by
 have HB:=ae J;have HH:=ae h;clear J h;go_enter Tryz.func129,Tryz.ntmps129;go_wp2_with fail;refine(dW _ L T HH.o _ false HB.o).mono ?_;rintro e w1 ⟨rfl,rfl⟩;go_wp2;go_ret;exact⟨rfl,rfl⟩
theorem xw(w:World)(L:fo)(T:Tr)(h:TrAt w L T)(l r:Int)(hl:l<0)(hw:wrap64 (-l)=l)(J:T.kb (l)=false):
  Calls Tryz.prog 129 #[.pointer (some ⟨L.a,0,none⟩), .int .i64 l, .int .i64 r] w fun e w'=>e= .returned (.bool false)/\w=w':=by
 have HB:=ae J;have HH:=ae h;clear J h;go_enter Tryz.func129,Tryz.ntmps129;go_wp2_with fail;refine(dW _ L T HH.o _ false HB.o).mono ?_;rintro e w1 ⟨rfl,rfl⟩;go_wp2;go_ret;exact⟨rfl,rfl⟩
theorem tJ(w:World)(L:fo)(T:Tr)(h:TrAt w L T)(l r:Int)(hl:0<=l)(ab:l<=9223372036854775807)(hb:T.kb (l)=true)(J:¬((T.mf (l)).v=0/\(T.mf (l)).l= -1/\(T.mf (l)).r=0)):
  Calls Tryz.prog 129 #[.pointer (some ⟨L.a,0,none⟩), .int .i64 l, .int .i64 r] w fun e w'=>e= .returned (.bool false)/\w=w':=by
 have o0:=h.obj.cell 0;simp at o0;obtain⟨h0,h1⟩:=Tr.dP hb;obtain⟨g,hg,c0,c1,c2,wY⟩:=h.jo (v:=l) (by omega) h1;rw[hg]at o0;obtain⟨x,hx⟩:∃x,(T.mf (l)).v=x:=⟨_,rfl⟩
 obtain⟨y,hy⟩:∃y,(T.mf (l)).l=y:=⟨_,rfl⟩
 obtain⟨z,hz⟩:∃z,(T.mf (l)).r=z:=⟨_,rfl⟩
 rw[hx]at c0 J;rw[hy]at c1 J;rw[hz]at c2 J;have HB:=ae hb;have HH:=ae h;clear hb h hg wY hx hy hz;by_cases e0:x=0
 ·subst e0;by_cases e1:y= -1
  ·subst e1;have e2:z≠0:=fun e=>J ⟨rfl,rfl,e⟩;clear J;go_enter Tryz.func129,Tryz.ntmps129;go_wp2_with fail;refine(dW _ L T HH.o _ true HB.o).mono ?_;rintro e w1 ⟨rfl,rfl⟩;go_wp2;go_ret;exact⟨rfl,rfl⟩
  ·clear J;go_enter Tryz.func129,Tryz.ntmps129;go_wp2_with fail;refine(dW _ L T HH.o _ true HB.o).mono ?_;rintro e w1 ⟨rfl,rfl⟩;go_wp2;go_ret;exact⟨rfl,rfl⟩
 ·clear J;go_enter Tryz.func129,Tryz.ntmps129;go_wp2_with fail;refine(dW _ L T HH.o _ true HB.o).mono ?_;rintro e w1 ⟨rfl,rfl⟩;go_wp2;go_ret;exact⟨rfl,rfl⟩
theorem tK(w:World)(L:fo)(T:Tr)(h:TrAt w L T)(l r:Int)(hl:l<0)(Xi: -9223372036854775807<=l)(hb:T.kb (-l)=true)(J:¬((T.mf (-l)).v=0/\(T.mf (-l)).l= -1/\(T.mf (-l)).r=0)):
  Calls Tryz.prog 129 #[.pointer (some ⟨L.a,0,none⟩), .int .i64 l, .int .i64 r] w fun e w'=>e= .returned (.bool false)/\w=w':=by
 have o0:=h.obj.cell 0;simp at o0;obtain⟨h0,h1⟩:=Tr.dP hb;obtain⟨g,hg,c0,c1,c2,wY⟩:=h.jo (v:= -l) (by omega) h1;rw[hg]at o0;obtain⟨x,hx⟩:∃x,(T.mf (-l)).v=x:=⟨_,rfl⟩
 obtain⟨y,hy⟩:∃y,(T.mf (-l)).l=y:=⟨_,rfl⟩
 obtain⟨z,hz⟩:∃z,(T.mf (-l)).r=z:=⟨_,rfl⟩
 rw[hx]at c0 J;rw[hy]at c1 J;rw[hz]at c2 J;have HB:=ae hb;have HH:=ae h;clear hb h hg wY hx hy hz;by_cases e0:x=0
 ·subst e0;by_cases e1:y= -1
  ·subst e1;have e2:z≠0:=fun e=>J ⟨rfl,rfl,e⟩;clear J;go_enter Tryz.func129,Tryz.ntmps129;go_wp2_with fail;refine(dW _ L T HH.o _ true HB.o).mono ?_;rintro e w1 ⟨rfl,rfl⟩;go_wp2;go_ret;exact⟨rfl,rfl⟩
  ·clear J;go_enter Tryz.func129,Tryz.ntmps129;go_wp2_with fail;refine(dW _ L T HH.o _ true HB.o).mono ?_;rintro e w1 ⟨rfl,rfl⟩;go_wp2;go_ret;exact⟨rfl,rfl⟩
 ·clear J;go_enter Tryz.func129,Tryz.ntmps129;go_wp2_with fail;refine(dW _ L T HH.o _ true HB.o).mono ?_;rintro e w1 ⟨rfl,rfl⟩;go_wp2;go_ret;exact⟨rfl,rfl⟩
theorem Tr.ND{T:Tr}{v:Int}(h:(T.mf v).v=0/\(T.mf v).l= -1/\(T.mf v).r=0):T.mf v=k9.free:=by
 obtain⟨a,b,c⟩:=h;cases hc:T.mf v with
 |mk x y z=>rw[hc]at a b c;simp only at a b c;subst a;subst b;subst c;rfl
theorem qaf(w:World)(L:fo)(T:Tr)(h:TrAt w L T)(l r:Int)(Xi: -9223372036854775808<=l)(ab:l<=9223372036854775807)(hlen:T.lits.length<17592186044416):
  Calls Tryz.prog 129 #[.pointer (some ⟨L.a,0,none⟩), .int .i64 l, .int .i64 r] w fun e w'=>e= .returned (.bool (T.ke l))/\∃L',TrAt w' L' (if T.ke l=true then T.qt l r else T)/\L.ext L' w/\Fr L.fp w w':=by
 have stay:∀e w',(e=Ending.returned (.bool false)/\w=w')->T.ke l=false->(e= .returned (.bool (T.ke l))/\∃L',TrAt w' L' (if T.ke l=true then T.qt l r else T)/\L.ext L' w/\Fr L.fp w w'):=by rintro e w' ⟨rfl,rfl⟩ hp;rw[hp];exact⟨rfl,L,h,L.cw w,Fr.refl _ _⟩
 have go:∀e w',(e=Ending.returned (.bool true)/\∃L',TrAt w' L' (T.qt l r)/\L.ext L' w/\Fr L.fp w w')->T.ke l=true->(e= .returned (.bool (T.ke l))/\∃L',TrAt w' L' (if T.ke l=true then T.qt l r else T)/\L.ext L' w/\Fr L.fp w w'):=by rintro e w' ⟨rfl,h⟩ hp;rw[hp];exact⟨rfl,h⟩
 unfold Tr.ke at stay go⊢;rcases oq l Xi with⟨hl,hv⟩ |⟨hl,pJ,hv⟩ |⟨hl,hv,hw⟩
 ·rw[hv]at stay go⊢;cases J:T.kb l with
  |false=>exact(xu w L T h l r hl ab J).mono fun e w' he=>by rw[J]at stay;exact stay e w' he rfl
  |true=>
   by_cases hf:(T.mf l).v=0/\(T.mf l).l= -1/\(T.mf l).r=0
   ·exact(FP w L T h l r hl ab J (Tr.ND hf) hlen).mono fun e w' he=>by rw[J]at go;exact go e w' he (by simp[hf])
   ·exact(tJ w L T h l r hl ab J hf).mono fun e w' he=>by rw[J]at stay;exact stay e w' he (by simp[hf])
 ·rw[hv]at stay go⊢;cases J:T.kb (-l)with
  |false=>exact(xv w L T h l r hl pJ J).mono fun e w' he=>by rw[J]at stay;exact stay e w' he rfl
  |true=>
   by_cases hf:(T.mf (-l)).v=0/\(T.mf (-l)).l= -1/\(T.mf (-l)).r=0
   ·exact(FQ w L T h l r hl pJ J (Tr.ND hf) hlen).mono fun e w' he=>by rw[J]at go;exact go e w' he (by simp[hf])
   ·exact(tK w L T h l r hl pJ J hf).mono fun e w' he=>by rw[J]at stay;exact stay e w' he (by simp[hf])
 ·have J:T.kb l=false:=by
   cases hh:T.kb l with
   |false=>rfl
   |true=>have :=(Tr.dP hh).1;omega
  rw[hv,J]at stay⊢;exact(xw w L T h l r hl hw J).mono fun e w' he=>stay e w' he rfl
def Tr.zV(T:Tr):Tr:={ T with levels:=T.levels++[(T.lits.length:Int)] }
theorem Dq(w:World)(L:fo)(T:Tr)(h:TrAt w L T)(hc:0<T.cells.length)(hlen:T.levels.length<17592186044416):
  Calls Tryz.prog 143 #[.pointer (some ⟨L.a,0,none⟩)] w fun e w'=>e= .returned (.int .i64 (T.levels.length+1:Nat))/\∃L',TrAt w' L' T.zV/\L.ext L' w/\Fr L.fp w w':=by
 have o0:=h.obj.cell 0;simp at o0;have ho:=h.obj;have HN:aj (L.a∉ao L.A3):=fun hk=>((iH h.nodup).2.2 _ hk).1 rfl;have HH:=ae h;have HO:=ae ho;clear h ho;go_enter Tryz.func143,Tryz.ntmps143;go_wp2_with fail;refine qan ?_;refine bw (fun w':World=>At w' L.a 157 #[.slice L.A1 T.cells.length L.c1, .slice L.A2 T.lits.length L.c2, .slice L.A3 T.levels.length L.c3]) 14 (by kernel_rfl) (HO.o.drew) (fun dy=> ?_);refine TB 10 [(0,[]),(1,[]),(2,[]),(3,[]),(4,[4,14]),(5,[]),(6,[]),(7,[]),(8,[8,14]),(9,[])] dy ?_ (hr:=by(repeat (apply ZR;rfl;rfl;(intro w bT;(try(have bT:=bT.resolve_left (List.cons_ne_nil _ _);(have s1:=bT.cell 1;have s2:=bT.cell 2;simp at s1 s2)));go_simp<;>with_reducible rfl);try simp only[Act.put,q5,q6,q7]));exact ZQ);intro dy;refine R2 10 dy fun K hK J=> ?_;go_simp;refine hK.out _ _ (.inr ?_) (fun nO=> ?_)
 ·first |exact J.alloc _ |exact jM.at_ J HN.o
 clear hK K;try simp only[Act.put,q5,q6,q7]
 refine R2 11 nO fun K hK J=> ?_
 (refine co rfl _ _ rfl L.A3 L.c3 T.levels _ rfl rfl ?vG _ 1 T.lits.length rfl ?sU (by omega) ?_;(case vG=>exact HH.o.levels.drew.alloc _);(case sU=>simp);intro gA cA wA Pq jM Pr ad)
 refine hK.out _ _ (.inr ?_) (fun jO=> ?_)
 ·first |exact J.alloc _ |exact jM.at_ J HN.o
 clear hK K;try simp only[Act.put,q5,q6,q7]
 refine TB 2 [(12,[]),(13,[])] jO ?_;intro jO;refine R2 14 jO fun K hK J=> ?_
 (have b1:=J.cell 2;have b3:=J.frozen 2;simp at b1;go_simp)
 refine hK.out _ _ (.inl rfl) (fun ab=> ?_);clear hK K;try simp only[Act.put,q5,q6,q7]
 refine fO ?_;have qA:gA∈ao L.A3\/(w.drew.alloc (.cells #[.int .i64 (T.lits.length:Int)] 3)).heap.size<=gA:=Pr.imp id (fun e=>by rw[e];exact aq _);obtain⟨r1,r2,r3⟩:=(HH.o.drew.alloc _).OE Pq jM qA;have HI:=ae r1;have HX:=ae r2;have HF:=ae r3;have b1:=r1.obj.cell 2;simp at b1;clear r1 r2 r3;go_wp2;go_ret;refine⟨rfl,_,by simpa[Tr.zV]using HI.o,⟨HX.o.1,fun k hk=>(HX.o.2 k hk).imp id (fun h=>by simp at h;omega)⟩,?_⟩;have :=((Fr.refl L.fp w).drew.alloc (.cells #[.int .i64 (T.lits.length:Int)] 3)).trans HF.o (fun k hk=> .inl hk);simpa using this
def iy(cs:List k9)(ls:List Int):List k9:=ls.foldl (fun cs l=>cs.set (tv l).toNat k9.free) cs
theorem ns(cs:List k9)(ls:List Int)(l:Int):iy cs (ls++[l])=(iy cs ls).set (tv l).toNat k9.free:=by simp[iy]
theorem eG(cs:List k9)(ls:List Int):(iy cs ls).length=cs.length:=by
 unfold iy;induction ls generalizing cs with
 |nil=>rfl
 |cons l ls J=>rw[List.foldl_cons,J,aw]
theorem kt{α:Type}[Inhabited α](l:List α)(j:Nat)(h:j<l.length):l.take (j+1)=l.take j++[l[j]!]:=by rw[List.take_add_one,af h,aa,af h];rfl
theorem zR{α:Type}[Inhabited α](l:List α)(n j:Nat):(l.drop n)[j]! =l[n+j]! :=by simp[aa,List.getElem?_drop]
def Tr.zY(T:Tr)(m n:Nat):Tr:={ cells:=iy T.cells (T.lits.drop n),lits:=T.lits.take n,levels:=T.levels.take m }
def Tr.dz(T:Tr)(m:Nat):Tr:=if m<T.levels.length then T.zY m (T.levels[m]!).toNat else T
theorem TrAt.cut{w:World}{L:fo}{T:Tr}(h:TrAt w L T)(n m:Nat)(hn:n<=T.lits.length)(hm:m<=T.levels.length):
  TrAt ((w.setCell ⟨L.a,1,none⟩ (.slice L.A2 n L.c2)).setCell ⟨L.a,2,none⟩ (.slice L.A3 m L.c3)) L { T with lits:=T.lits.take n,levels:=T.levels.take m }:=by
 obtain⟨h1,h2,h3⟩:=iH h.nodup;have J:L.a∉ao L.A1:=fun k=>(h1 _ k).1 rfl;have n2:L.a∉ao L.A2:=fun k=>(h2 _ k).1 rfl;have n3:L.a∉ao L.A3:=fun k=>(h3 _ k).1 rfl;refine⟨?_,(h.cells.ie J _).ie J _,((h.lits.qg n).ie n2 _).ie n2 _,((h.levels.qg m).ie n3 _).ie n3 _,h.nodup⟩;have :=(h.obj.dL 1 (.slice L.A2 n L.c2)).dL 2 (.slice L.A3 m L.c3);simpa[li hn,li hm]using this
theorem TrAt.XS{w:World}{L:fo}{T:Tr}(h:TrAt w L T)(n m:Nat)(hn:n<=T.lits.length)(hm:m<=T.levels.length):
  TrAt ((w.setCell ⟨L.a,2,none⟩ (.slice L.A3 m L.c3)).setCell ⟨L.a,1,none⟩ (.slice L.A2 n L.c2)) L { T with lits:=T.lits.take n,levels:=T.levels.take m }:=by
 obtain⟨h1,h2,h3⟩:=iH h.nodup;have J:L.a∉ao L.A1:=fun k=>(h1 _ k).1 rfl;have n2:L.a∉ao L.A2:=fun k=>(h2 _ k).1 rfl;have n3:L.a∉ao L.A3:=fun k=>(h3 _ k).1 rfl;refine⟨?_,(h.cells.ie J _).ie J _,((h.lits.qg n).ie n2 _).ie n2 _,((h.levels.qg m).ie n3 _).ie n3 _,h.nodup⟩;have :=(h.obj.dL 2 (.slice L.A3 m L.c3)).dL 1 (.slice L.A2 n L.c2);simpa[li hn,li hm]using this
theorem qag(w:World)(L:fo)(T:Tr)(h:TrAt w L T)(m:Nat)(hm:T.levels.length<=m):
  Calls Tryz.prog 115 #[.pointer (some ⟨L.a,0,none⟩), .int .i64 m] w fun e w'=>e= .returned (.tuple #[])/\w=w':=by
 have o2:=h.obj.cell 2;simp at o2;clear h;go_enter Tryz.func115,Tryz.ntmps115;go_wp2_with fail;refine bodyPost_ret (results_none rfl _ _ _) rfl ?_;exact⟨rfl,rfl⟩
theorem xx(w:World)(L:fo)(T:Tr)(h:TrAt w L T)(m:Nat)(hm:m<T.levels.length)(n:Nat)(hn:T.levels[m]! =n)(rz:n<=T.lits.length)(so:∀j:Nat,j<T.lits.length->T.kb (tv T.lits[j]!)=true):
  Calls Tryz.prog 115 #[.pointer (some ⟨L.a,0,none⟩), .int .i64 m] w fun e w'=>e= .returned (.tuple #[])/\TrAt w' L (T.zY m n)/\Fr L.fp w w':=by
 have o1:=h.obj.cell 1;have o2:=h.obj.cell 2;simp at o1 o2;obtain⟨g3,AK,_⟩:=h.levels.pos (i:=m) hm;have c3:=h.levels;rw[AK]at c3 o2;have cl:=c3.cell (i:=m) hm;rw[hn]at cl;have aK:(m:Int)<T.levels.length:=by omega
 have EA:decide (T.levels.length<=m)=false:=qaj (by omega);have oR:=h.cells.len;unfold maxLen at oR;have H2:=ae h.lits.form;have HH:=ae h;have HN:=ae hn;have HL:=ae so;have qS:=ae AK;have I1:=ae oR;have ad:(n:Int)<=T.lits.length:=by omega
 have aB:m<=L.c3:=by
  rcases h.levels.form with⟨_,_,h0⟩ |⟨_,_,_,h0,_⟩
  ·rw[h0]at hm;simp at hm
  ·omega
 clear h hn so AK c3 oR;by_cases bt:n<T.lits.length
 ·rcases H2.o with⟨hA,hc,he⟩ |⟨g,hA,wX,AI,Ft⟩
  ·rw[he]at bt;exact absurd bt (aD _)
  rw[hA]at o1;have HA:=ae hA;unfold maxLen at Ft;have tm:n<L.c2:=by omega
  have aM:¬L.c2=n:=by omega
  clear hA H2;go_enter Tryz.func115,Tryz.ntmps115;go_wp2_with fail;clear o1 o2 cl;try rw[EA]
  go_loopg [34] (T.lits.length-n) (fun gk i wr=>∃j:Nat,j+gk=T.lits.length-n/\i= .int .i64 j/\TrAt wr L { T with cells:=iy T.cells ((T.lits.drop n).take j) }/\Fr L.fp w wr);case atStart=>exact⟨0,by omega,rfl,by simpa[iy]using HH.o,Fr.refl _ _⟩
  case round=>
   obtain⟨j,hj,rfl,J,hF⟩:=hrel;have o0:=J.obj.cell 0;have o1:=J.obj.cell 1;have o2:=J.obj.cell 2;have oa:=J.obj.frozen 1;have ob:=J.obj.frozen 2;simp[eG]at o0 o1 o2;have HF:=ae hF;have HJ:=ae hj;clear hF hj;by_cases K1:j<T.lits.length-n
   ·have ab:(j:Int)<(T.lits.length-n:Nat):=by omega
    have ci:=J.lits;rw[HA.o]at ci o1;have c4:=ci.cell (i:=n+j) (by show n+j<T.lits.length;omega);have hx:=HL.o (n+j) (by omega);have yj:(T.lits.drop n).take (j+1)=(T.lits.drop n).take j++[T.lits[n+j]!]:=by rw[kt _ _ (by simp;omega),zR]
    simp only at c4;obtain⟨x,xE⟩:∃x,T.lits[n+j]! =x:=⟨_,rfl⟩
    rw[xE]at c4 hx yj;obtain⟨h0,h1⟩:=Tr.dP hx;have zx:((iy T.cells ((T.lits.drop n).take j)).length:Int)=T.cells.length:=(by rw[eG])
    have oR:=I1.o;have HS:=ae yj;clear ci hx yj xE;by_cases GP:0<=x
    ·have ht:=oU GP;rw[ht]at h0 h1;obtain⟨gc,km,b0,b1,b2,fz⟩:=J.jo (v:=x) (by omega) (by simpa[eG]using h1);rw[km]at o0;have f0:=fz (x.toNat*3);have f1:=fz (x.toNat*3+1);have f2:=fz (x.toNat*3+2);have hM:=J.yQ km (i:=x.toNat) (by rw[eG];omega) k9.free;have TE:=TrAt.qY wr L km (x.toNat*3) (x.toNat*3+1) (x.toNat*3+2) (.int .i64 0) (.int .i64 (-1)) (.int .i64 0);have HM:=ae hM;have Jq:=ae TE;have HT:=ae ht;clear hM TE ht J fz km zx;go_wp2;go_roundg (gk-1);case measure=>have :=HJ.o;omega
     case rel=>exact⟨j+1,by have :=HJ.o;omega,by go_num,by rw[HS.o,ns,HT.o];exact HM.o,HF.o.ak Jq.o⟩
    ·have gU:x<0:=(by omega)
     have jn: -9223372036854775808<x:=by
      have hb:=HL.o;by_cases e:x= -9223372036854775808
      ·rw[qa e]at h0;omega
      ·have TI:=h1;unfold tv at TI;rw[qah e,qai gU]at TI;omega
     have ht:=sF gU jn;rw[ht]at h0 h1;obtain⟨gc,km,b0,b1,b2,fz⟩:=J.jo (v:= -x) (by omega) (by simpa[eG]using h1);rw[km]at o0;have f0:=fz ((-x).toNat*3);have f1:=fz ((-x).toNat*3+1);have f2:=fz ((-x).toNat*3+2);have hM:=J.yQ km (i:=(-x).toNat) (by rw[eG];omega) k9.free;have TE:=TrAt.qY wr L km ((-x).toNat*3) ((-x).toNat*3+1) ((-x).toNat*3+2) (.int .i64 0) (.int .i64 (-1)) (.int .i64 0);have HM:=ae hM;have Jq:=ae TE;have HT:=ae ht;clear hM TE ht J fz km zx;go_wp2;go_roundg (gk-1);case measure=>have :=HJ.o;omega
     case rel=>exact⟨j+1,by have :=HJ.o;omega,by go_num,by rw[HS.o,ns,HT.o];exact HM.o,HF.o.ak Jq.o⟩
   ·have Td:j=T.lits.length-n:=by have :=HJ.o;omega
    have ab:((T.lits.length-n:Nat):Int)<=j:=(by omega)
    have yi:(T.lits.drop n).take j=T.lits.drop n:=(by rw[Td,dv (by simp)])
    have Lq:=J.cut n m (by omega) (by show m<=T.levels.length;omega);have Lp:=J.XS n m (by omega) (by show m<=T.levels.length;omega);rw[yi]at Lq Lp;rw[HA.o]at o1;rw[qS.o]at o2;rw[HA.o,qS.o]at Lq Lp;have pX:=ae Lq;have pM:=ae Lp;have ar:=J.lt L.a (by simp[fo.fp]);clear Lq Lp yi Td J;go_wp2;go_region;all_goals go_end0
    all_goals refine⟨rfl,?_,?_⟩
    all_goals first |exact pX.o.drew |exact pM.o.drew | (refine((HF.o.setCell (.inl ?_) _).setCell (.inl ?_) _).drew<;>simp[fo.fp])
 ·have dV:T.lits.length=n:=by omega
  have hz:T.lits.drop n=[]:=by rw[<-dV];simp
  have Lq:=HH.o.cut n m (by omega) (by omega);have Lp:=HH.o.XS n m (by omega) (by omega);have pX:=ae Lq;have pM:=ae Lp;have HZ:aj (T.zY m n={ T with lits:=T.lits.take n,levels:=T.levels.take m }):=by show _=_;unfold Tr.zY;rw[hz];rfl
  have ar:=HH.o.lt L.a (by simp[fo.fp]);have oa:=HH.o.obj.frozen 1;have ob:=HH.o.obj.frozen 2;rw[dV]at o1 ad;clear Lq Lp hz rz;rw[HZ.o];rcases H2.o with⟨hA,hc,he⟩ |⟨g,hA,wX,AI,Ft⟩
  ·have en:n=0:=by rw[he]at dV;simpa using dV.symm
   subst en;rw[hA,hc]at o1;rw[hA,hc,qS.o]at pX pM;clear hA hc he H2 dV bt;go_enter Tryz.func115,Tryz.ntmps115;go_wp2_with fail;try rw[EA]
   go_loopg [34] 0 (fun gk i wr=>i= .int .i64 0/\w=wr);case atStart=>exact⟨rfl,rfl⟩
   case round=>
    obtain⟨rfl,rfl⟩:=hrel;go_wp2;go_region;all_goals go_end0
    all_goals refine⟨rfl,?_,?_⟩
    all_goals first |exact pX.o.drew |exact pM.o.drew | (refine(((Fr.refl L.fp w).setCell (.inl ?_) _).setCell (.inl ?_) _).drew<;>simp[fo.fp])
  ·rw[hA]at o1;rw[hA,qS.o]at pX pM;have tm:n<=L.c2:=by omega
   clear hA H2 dV bt AI;by_cases ZB:L.c2=n
   ·rw[ZB]at pX pM;go_enter Tryz.func115,Tryz.ntmps115;go_wp2_with fail;try rw[EA]
    go_loopg [34] 0 (fun gk i wr=>i= .int .i64 0/\w=wr);case atStart=>exact⟨rfl,rfl⟩
    case round=>
     obtain⟨rfl,rfl⟩:=hrel;go_wp2;go_region;all_goals go_end0
     all_goals refine⟨rfl,?_,?_⟩
     all_goals first |exact pX.o.drew |exact pM.o.drew | (refine(((Fr.refl L.fp w).setCell (.inl ?_) _).setCell (.inl ?_) _).drew<;>simp[fo.fp])
   ·
    go_enter Tryz.func115,Tryz.ntmps115;go_wp2_with fail;try rw[EA]
    go_loopg [34] 0 (fun gk i wr=>i= .int .i64 0/\w=wr);case atStart=>exact⟨rfl,rfl⟩
    case round=>
     obtain⟨rfl,rfl⟩:=hrel;go_wp2;go_region;all_goals go_end0
     all_goals refine⟨rfl,?_,?_⟩
     all_goals first |exact pX.o.drew |exact pM.o.drew | (refine(((Fr.refl L.fp w).setCell (.inl ?_) _).setCell (.inl ?_) _).drew<;>simp[fo.fp])
theorem vd(w:World)(L:fo)(T:Tr)(h:TrAt w L T)(level:Int)(hl:level<0)(hm:T.levels.length<=0):
  Calls Tryz.prog 115 #[.pointer (some ⟨L.a,0,none⟩), .int .i64 level] w fun e w'=>e= .returned (.tuple #[])/\w=w':=by
 have o2:=h.obj.cell 2;simp at o2;have J:T.levels=[]:=by simpa using hm
 rw[J]at o2;clear J hm;clear h;go_enter Tryz.func115,Tryz.ntmps115;go_wp2_with fail;refine bodyPost_ret (results_none rfl _ _ _) rfl ?_;exact⟨rfl,rfl⟩
theorem xy(w:World)(L:fo)(T:Tr)(h:TrAt w L T)(level:Int)(hl:level<0)(hm:0<T.levels.length)(n:Nat)(hn:T.levels[0]! =n)(rz:n<=T.lits.length)(so:∀j:Nat,j<T.lits.length->T.kb (tv T.lits[j]!)=true):
  Calls Tryz.prog 115 #[.pointer (some ⟨L.a,0,none⟩), .int .i64 level] w fun e w'=>e= .returned (.tuple #[])/\TrAt w' L (T.zY 0 n)/\Fr L.fp w w':=by
 have o1:=h.obj.cell 1;have o2:=h.obj.cell 2;simp at o1 o2;obtain⟨g3,AK,_⟩:=h.levels.pos (i:=0) hm;have c3:=h.levels;rw[AK]at c3 o2;have cl:=c3.cell (i:=0) hm;rw[hn]at cl;have aM:(0:Int)<T.levels.length:=by omega
 have aB:¬T.levels=[]:=by rintro e;rw[e]at hm;simp at hm
 have EA:decide (T.levels=[])=false:=qaj aB;have oR:=h.cells.len;unfold maxLen at oR;have H2:=ae h.lits.form;have HH:=ae h;have HN:=ae hn;have HL:=ae so;have qS:=ae AK;have I1:=ae oR;have ad:(n:Int)<=T.lits.length:=by omega
 have aK:0<=L.c3:=by
  rcases h.levels.form with⟨_,_,h0⟩ |⟨_,_,_,h0,_⟩
  ·rw[h0]at hm;simp at hm
  ·omega
 clear h hn so AK c3 oR;by_cases bt:n<T.lits.length
 ·rcases H2.o with⟨hA,hc,he⟩ |⟨g,hA,wX,AI,Ft⟩
  ·rw[he]at bt;exact absurd bt (aD _)
  rw[hA]at o1;have HA:=ae hA;unfold maxLen at Ft;have tm:n<L.c2:=by omega
  have aT:¬L.c2=n:=by omega
  clear hA H2;go_enter Tryz.func115,Tryz.ntmps115;go_wp2_with fail;clear o1 o2 cl;try rw[EA]
  go_loopg [34] (T.lits.length-n) (fun gk i wr=>∃j:Nat,j+gk=T.lits.length-n/\i= .int .i64 j/\TrAt wr L { T with cells:=iy T.cells ((T.lits.drop n).take j) }/\Fr L.fp w wr);case atStart=>exact⟨0,by omega,rfl,by simpa[iy]using HH.o,Fr.refl _ _⟩
  case round=>
   obtain⟨j,hj,rfl,J,hF⟩:=hrel;have o0:=J.obj.cell 0;have o1:=J.obj.cell 1;have o2:=J.obj.cell 2;have oa:=J.obj.frozen 1;have ob:=J.obj.frozen 2;simp[eG]at o0 o1 o2;have HF:=ae hF;have HJ:=ae hj;clear hF hj;by_cases K1:j<T.lits.length-n
   ·have ab:(j:Int)<(T.lits.length-n:Nat):=by omega
    have ci:=J.lits;rw[HA.o]at ci o1;have c4:=ci.cell (i:=n+j) (by show n+j<T.lits.length;omega);have hx:=HL.o (n+j) (by omega);have yj:(T.lits.drop n).take (j+1)=(T.lits.drop n).take j++[T.lits[n+j]!]:=by rw[kt _ _ (by simp;omega),zR]
    simp only at c4;obtain⟨x,xE⟩:∃x,T.lits[n+j]! =x:=⟨_,rfl⟩
    rw[xE]at c4 hx yj;obtain⟨h0,h1⟩:=Tr.dP hx;have zx:((iy T.cells ((T.lits.drop n).take j)).length:Int)=T.cells.length:=(by rw[eG])
    have oR:=I1.o;have HS:=ae yj;clear ci hx yj xE;by_cases GP:0<=x
    ·have ht:=oU GP;rw[ht]at h0 h1;obtain⟨gc,km,b0,b1,b2,fz⟩:=J.jo (v:=x) (by omega) (by simpa[eG]using h1);rw[km]at o0;have f0:=fz (x.toNat*3);have f1:=fz (x.toNat*3+1);have f2:=fz (x.toNat*3+2);have hM:=J.yQ km (i:=x.toNat) (by rw[eG];omega) k9.free;have TE:=TrAt.qY wr L km (x.toNat*3) (x.toNat*3+1) (x.toNat*3+2) (.int .i64 0) (.int .i64 (-1)) (.int .i64 0);have HM:=ae hM;have Jq:=ae TE;have HT:=ae ht;clear hM TE ht J fz km zx;go_wp2;go_roundg (gk-1);case measure=>have :=HJ.o;omega
     case rel=>exact⟨j+1,by have :=HJ.o;omega,by go_num,by rw[HS.o,ns,HT.o];exact HM.o,HF.o.ak Jq.o⟩
    ·have gU:x<0:=(by omega)
     have jn: -9223372036854775808<x:=by
      have hb:=HL.o;by_cases e:x= -9223372036854775808
      ·rw[qa e]at h0;omega
      ·have TI:=h1;unfold tv at TI;rw[qah e,qai gU]at TI;omega
     have ht:=sF gU jn;rw[ht]at h0 h1;obtain⟨gc,km,b0,b1,b2,fz⟩:=J.jo (v:= -x) (by omega) (by simpa[eG]using h1);rw[km]at o0;have f0:=fz ((-x).toNat*3);have f1:=fz ((-x).toNat*3+1);have f2:=fz ((-x).toNat*3+2);have hM:=J.yQ km (i:=(-x).toNat) (by rw[eG];omega) k9.free;have TE:=TrAt.qY wr L km ((-x).toNat*3) ((-x).toNat*3+1) ((-x).toNat*3+2) (.int .i64 0) (.int .i64 (-1)) (.int .i64 0);have HM:=ae hM;have Jq:=ae TE;have HT:=ae ht;clear hM TE ht J fz km zx;go_wp2;go_roundg (gk-1);case measure=>have :=HJ.o;omega
     case rel=>exact⟨j+1,by have :=HJ.o;omega,by go_num,by rw[HS.o,ns,HT.o];exact HM.o,HF.o.ak Jq.o⟩
   ·have Td:j=T.lits.length-n:=by have :=HJ.o;omega
    have ab:((T.lits.length-n:Nat):Int)<=j:=(by omega)
    have yi:(T.lits.drop n).take j=T.lits.drop n:=(by rw[Td,dv (by simp)])
    have Lq:=J.cut n 0 (by omega) (by show 0<=T.levels.length;omega);have Lp:=J.XS n 0 (by omega) (by show 0<=T.levels.length;omega);rw[yi]at Lq Lp;rw[HA.o]at o1;rw[qS.o]at o2;rw[HA.o,qS.o]at Lq Lp;have pX:=ae Lq;have pM:=ae Lp;have ar:=J.lt L.a (by simp[fo.fp]);clear Lq Lp yi Td J;go_wp2;go_region;all_goals go_end0
    all_goals refine⟨rfl,?_,?_⟩
    all_goals first |exact pX.o.drew |exact pM.o.drew | (refine((HF.o.setCell (.inl ?_) _).setCell (.inl ?_) _).drew<;>simp[fo.fp])
 ·have dV:T.lits.length=n:=by omega
  have hz:T.lits.drop n=[]:=by rw[<-dV];simp
  have Lq:=HH.o.cut n 0 (by omega) (by omega);have Lp:=HH.o.XS n 0 (by omega) (by omega);have pX:=ae Lq;have pM:=ae Lp;have HZ:aj (T.zY 0 n={ T with lits:=T.lits.take n,levels:=T.levels.take 0 }):=by show _=_;unfold Tr.zY;rw[hz];rfl
  have ar:=HH.o.lt L.a (by simp[fo.fp]);have oa:=HH.o.obj.frozen 1;have ob:=HH.o.obj.frozen 2;rw[dV]at o1 ad;clear Lq Lp hz rz;rw[HZ.o];rcases H2.o with⟨hA,hc,he⟩ |⟨g,hA,wX,AI,Ft⟩
  ·have en:n=0:=by rw[he]at dV;simpa using dV.symm
   subst en;rw[hA,hc]at o1;rw[hA,hc,qS.o]at pX pM;clear hA hc he H2 dV bt;go_enter Tryz.func115,Tryz.ntmps115;go_wp2_with fail;try rw[EA]
   go_loopg [34] 0 (fun gk i wr=>i= .int .i64 0/\w=wr);case atStart=>exact⟨rfl,rfl⟩
   case round=>
    obtain⟨rfl,rfl⟩:=hrel;go_wp2;go_region;all_goals go_end0
    all_goals refine⟨rfl,?_,?_⟩
    all_goals first |exact pX.o.drew |exact pM.o.drew | (refine(((Fr.refl L.fp w).setCell (.inl ?_) _).setCell (.inl ?_) _).drew<;>simp[fo.fp])
  ·rw[hA]at o1;rw[hA,qS.o]at pX pM;have tm:n<=L.c2:=by omega
   clear hA H2 dV bt AI;by_cases ZB:L.c2=n
   ·rw[ZB]at pX pM;go_enter Tryz.func115,Tryz.ntmps115;go_wp2_with fail;try rw[EA]
    go_loopg [34] 0 (fun gk i wr=>i= .int .i64 0/\w=wr);case atStart=>exact⟨rfl,rfl⟩
    case round=>
     obtain⟨rfl,rfl⟩:=hrel;go_wp2;go_region;all_goals go_end0
     all_goals refine⟨rfl,?_,?_⟩
     all_goals first |exact pX.o.drew |exact pM.o.drew | (refine(((Fr.refl L.fp w).setCell (.inl ?_) _).setCell (.inl ?_) _).drew<;>simp[fo.fp])
   ·
    go_enter Tryz.func115,Tryz.ntmps115;go_wp2_with fail;try rw[EA]
    go_loopg [34] 0 (fun gk i wr=>i= .int .i64 0/\w=wr);case atStart=>exact⟨rfl,rfl⟩
    case round=>
     obtain⟨rfl,rfl⟩:=hrel;go_wp2;go_region;all_goals go_end0
     all_goals refine⟨rfl,?_,?_⟩
     all_goals first |exact pX.o.drew |exact pM.o.drew | (refine(((Fr.refl L.fp w).setCell (.inl ?_) _).setCell (.inl ?_) _).drew<;>simp[fo.fp])
theorem ik(w:World)(t ty e:TypeId)(z:Value)(size bytes:Nat)(ht:Tryz.prog.underlying t=some (.slice e))(hi:(Tryz.prog.info? e).map (fun i=>(i.zero,i.size,i.bytes))=some (some z,size,bytes))(Cm:z.cells.size=size)(nM:0<size)
  (A:Option Addr) (c n:Nat) (xs:List Value) (dD:w.ownsRow 0 e size (.slice A n c) n xs) (ad:Addr) (m c':Nat) (news:List Value) (hl:news.length=m*size)
  (mG:∀j u,news[j]? =some u->w.cell? (ad.add j)=some u) (h1:∀u∈news,u.oneCell'=true) (NA:n+m<=maxLen) (j3:(n+m)*bytes<=140737488355328):
  ∃A' cap w',(Builtin.append_ #[t,t] ty #[.slice A n c, .slice (some ad) m c']).run Tryz.prog w= .ok (.slice A' (n+m) cap) w'/\
   w'.ownsRow 0 e size (.slice A' (n+m) cap) (n+m) (xs++news)/\Fr (ao A) w w'/\(∀k,k∈ao A'->k∈ao A\/k=w.heap.size)/\w.heap.size<=w'.heap.size/\(A'=none->m=0/\A=none)/\(∀J,A'=some J->∃g,J=⟨g,0,none⟩):=by
 obtain⟨i0,hi,zq,pj,AD⟩:=info_parts hi;obtain⟨v',w',hr,h2,h3,h4,h5⟩:=run_append_own_at (P:=Tryz.prog) w 0 t ty e i0 z size bytes ht hi zq pj AD Cm nM (.slice A n c) n _ dD ad m c' news hl mG h1 NA j3 (aU _);have hv:∃A' cap,v'= .slice A' (n+m) cap/\∀J,A'=some J->∃g,J=⟨g,0,none⟩:=by
  rcases h2.2 with⟨h,h0⟩ |⟨g,cap,cur,hv,_⟩
  ·exact⟨none,0,by rw[h,h0],fun _ h=>by cases h⟩
  ·exact⟨_,cap,hv,fun J h=>⟨g,by cases h;rfl⟩⟩
 obtain⟨A',cap,rfl,yp⟩:=hv;refine⟨A',cap,w',hr,h2,(Fr.refl _ w).grown h3 fun k hk=> .inl ((k7 k).1 hk),?_,h3.size,?_,yp⟩
 ·intro k hk;have lQ:=(k7 (n:=n+m) (c:=cap) k).2 hk;rcases h5 with h5 |h5
  ·exact .inl ((k7 k).1 (h5▸lQ))
  ·rw[h5]at lQ;exact .inr (Option.some.inj lQ).symm
 ·intro e0;subst e0;rcases h2.2 with⟨h,h0⟩ |⟨g,ab,cur,hv,_⟩
  ·rw[h]at h4;obtain⟨h6,h7⟩:=h4.1 rfl;exact⟨h7,by cases h6;rfl⟩
  ·cases hv
theorem jS(w:World){ops:Array Oper}{rest:List Oper}{o:Oper}{a:Act}{Q:Exit->Act->World->Prop}(rA:o.guard=none)(s x:Operand)(t:TypeId)
  (ho:o.op= .call { callee:= .builtin .append,args:=#[s,x],argTypes:=#[t,t] }) (e:TypeId) (z:Value) (size bytes:Nat) (ht:Tryz.prog.underlying t=some (.slice e)) (hi:(Tryz.prog.info? e).map (fun i=>(i.zero,i.size,i.bytes))=some (some z,size,bytes)) (Cm:z.cells.size=size) (nM:0<size)
  (A:Option Addr) (c n:Nat) (hs:a.eval s= .slice A n c) (xs:List Value) (dD:w.ownsRow 0 e size (.slice A n c) n xs) (J:Addr) (m c':Nat) (hx:a.eval x= .slice (some J) m c') (news:List Value) (hl:news.length=m*size)
  (mG:∀j u,news[j]? =some u->w.cell? (J.add j)=some u) (h1:∀u∈news,u.oneCell'=true) (NA:n+m<=maxLen) (j3:(n+m)*bytes<=140737488355328)
  (h:∀A' cap w',w'.ownsRow 0 e size (.slice A' (n+m) cap) (n+m) (xs++news)->Fr (ao A) w w'->(∀k,k∈ao A'->k∈ao A\/k=w.heap.size)->w.heap.size<=w'.heap.size->(A'=none->m=0/\A=none)->(∀a',A'=some a'->∃g,a'=⟨g,0,none⟩)->
   wpList Tryz.prog ops Q rest (a.put o.dst (.slice A' (n+m) cap)) w'):
  wpList Tryz.prog ops Q (o::rest) a w:=by
 refine wpList_plain rA fun K hK=> ?_;obtain⟨A',cap,w',hr,h2,h3,h4,h5,h6,h7⟩:=ik w t o.type e z size bytes ht hi Cm nM A c n xs dD J m c' news hl mG h1 NA j3;unfold Oper.wp execOp;simp only[ho,resolve,invoke,builtin,Sem.run_bind,Sem.run_pure,Result.andThen_ok,List.map_toArray,dJ,fQ,hs,hx,hr];exact hK _ _ (h A' cap w' h2 h3 h4 h5 h6 h7)
theorem mY(w:World){ops:Array Oper}{rest:List Oper}{o:Oper}{a:Act}{Q:Exit->Act->World->Prop}(rA:o.guard=none)(s x:Operand)(t:TypeId)
  (ho:o.op= .call { callee:= .builtin .append,args:=#[s,x],argTypes:=#[t,t] }) (e:TypeId) (z:Value) (size bytes:Nat) (ht:Tryz.prog.underlying t=some (.slice e)) (hi:(Tryz.prog.info? e).map (fun i=>(i.zero,i.size,i.bytes))=some (some z,size,bytes)) (Cm:z.cells.size=size) (nM:0<size)
  (A:Option Addr) (c n:Nat) (hs:a.eval s= .slice A n c) (xs:List Value) (dD:w.ownsRow 0 e size (.slice A n c) n xs) (J:Addr) (c':Nat) (hx:a.eval x= .slice (some J) 1 c') (news:List Value) (hl:news.length=size)
  (mG:∀j u,news[j]? =some u->w.cell? (J.add j)=some u) (h1:∀u∈news,u.oneCell'=true) (NA:n+1<=maxLen) (j3:(n+1)*bytes<=140737488355328)
  (h:∀g cap w',w'.ownsRow 0 e size (.slice (some ⟨g,0,none⟩) (n+1) cap) (n+1) (xs++news)->Fr (ao A) w w'->(g∈ao A\/g=w.heap.size)->w.heap.size<=w'.heap.size->
   wpList Tryz.prog ops Q rest (a.put o.dst (.slice (some ⟨g,0,none⟩) (n+1) cap)) w'):
  wpList Tryz.prog ops Q (o::rest) a w:=by
 refine jS w rA s x t ho e z size bytes ht hi Cm nM A c n hs xs dD J 1 c' hx news (by omega) mG h1 NA j3 fun A' cap w' h2 h3 h4 h5 h6 h7=> ?_;cases A' with
 |none=>exact absurd (h6 rfl).1 (by decide)
 |some a'=>
  obtain⟨g,rfl⟩:=h7 a' rfl;exact h g cap w' h2 h3 (h4 g (by simp[ao])) h5
theorem Nf:(Tryz.prog.info? 154).map (fun i=>(i.zero,i.size,i.bytes))=some (some (.agg #[.int .i64 0, .int .i64 0, .int .i64 0]),3,24):=by kernel_rfl
theorem TrAt.Gp{w w':World}{L:fo}{T:Tr}(h:TrAt w L T){g cap:Nat}{cs:List k9}(hi:Cls w' (some ⟨g,0,none⟩) cap cs)(hf:Fr (ao L.A1) w w')(hg:g∈ao L.A1\/w.heap.size<=g):
  TrAt (w'.setCell ⟨L.a,0,none⟩ (.slice (some ⟨g,0,none⟩) cs.length cap)) { L with A1:=some ⟨g,0,none⟩,c1:=cap } { T with cells:=cs }/\
  L.ext { L with A1:=some ⟨g,0,none⟩,c1:=cap } w/\Fr L.fp w (w'.setCell ⟨L.a,0,none⟩ (.slice (some ⟨g,0,none⟩) cs.length cap)):=by
 obtain⟨h1,h2,h3⟩:=iH h.nodup;have nG:g≠L.a/\g∉ao L.A2/\g∉ao L.A3:=by
  rcases hg with q |q
  ·exact h1 g q
  ·refine⟨?_,fun k=> ?_,fun k=> ?_⟩
   ·have :=h.obj.lt;omega
   ·have :=h.lits.lt _ k;omega
   ·have :=h.levels.lt _ k;omega
 have bG:ao (some ⟨g,0,none⟩)=[g]:=rfl;refine⟨⟨?_,?_,?_,?_,?_⟩,⟨rfl,?_⟩,?_⟩
 ·have :=(hf.at_ h.obj (fun k=>(h1 _ k).1 rfl)).dL 0 (.slice (some ⟨g,0,none⟩) cs.length cap);simpa using this
 ·exact hi.ie (by rw[bG];simpa using fun e=>nG.1 e.symm) _
 ·exact(h.lits.fr hf fun k hk lQ=>(h2 k hk).2.1 lQ).ie (fun k=>(h2 _ k).1 rfl) _
 ·exact(h.levels.fr hf fun k hk lQ=>(h3 k hk).2.1 lQ).ie (fun k=>(h3 _ k).1 rfl) _
 ·have hn:=h.nodup;simp only[fo.fp,kg,ah,List.nodup_append,bG,ag,bi,not_false_eq_true,List.nodup_nil,true_and]at hn⊢;obtain⟨n1,n2,⟨n3,n4,n5⟩,n6⟩:=hn;refine⟨?_,⟨n3,n4,n5⟩,?_⟩
  ·rintro(hk |hk |hk)
   ·exact nG.1 hk.symm
   ·exact n1 (.inr (.inl hk))
   ·exact n1 (.inr (.inr hk))
  ·intro a ha b J e;subst ha;subst e;rcases J with J |J
   ·exact nG.2.1 J
   ·exact nG.2.2 J
 ·intro k hk;simp only[fo.fp,bG,ay,ah,bi,or_false]at hk⊢;rcases hk with hk |hk |hk |hk
  ·exact .inl (.inl hk)
  ·subst hk;exact hg.imp (fun q=> .inr (.inl q)) id
  ·exact .inl (.inr (.inr (.inl hk)))
  ·exact .inl (.inr (.inr (.inr hk)))
 ·exact(hf.mono (T:=L.fp) fun k hk=> .inl (by simp[fo.fp,hk])).setCell (.inl (by simp[fo.fp])) _
def Tr.growBy(T:Tr)(m:Nat):Tr:={ T with cells:=T.cells++List.replicate m k9.free }
def Tr.room(T:Tr)(n:Int):Nat:=(min (max n 0) (262145-T.cells.length)).toNat
def Tr.eP(T:Tr)(n:Int):Tr:=T.growBy (T.room n)
theorem Tr.j5{T:Tr}{j:Nat}:(T.growBy j).cells++[k9.free]=(T.growBy (j+1)).cells:=by simp[Tr.growBy,List.replicate_succ']
theorem yJ(w:World)(L:fo)(T:Tr)(h:TrAt w L T)(hc:0<T.cells.length)(hm:T.cells.length<=262145)(n:Int):
  Calls Tryz.prog 131 #[.pointer (some ⟨L.a,0,none⟩), .int .i64 n] w fun e w'=>e= .returned (.tuple #[])/\∃L',TrAt w' L' (T.eP n)/\L.ext L' w/\Fr L.fp w w':=by
 have o0:=h.obj.cell 0;simp at o0;obtain⟨J,hw⟩:∃J:Nat,T.cells.length=J+1:=⟨T.cells.length-1,by omega⟩
 have key:(n<0/\T.room n=0)\/(n=0/\T.room n=0)\/(0<n/\n<=262144-J/\(T.room n:Int)=n)\/(262144-J<n/\0<n/\(T.room n:Int)=262144-J):=by unfold Tr.room;rw[hw];omega
 unfold Tr.eP;obtain⟨m,Xg⟩:∃m,T.room n=m:=⟨_,rfl⟩
 rw[Xg]at key⊢;rw[hw]at o0;have HH:=ae h;have HW:=ae hw;have ad:(J:Int)<=262144:=by omega
 have Kw:(J:Int)+m<=262144:=by omega
 have ez:((J:Int)+1==0)=false:=aab.2 (by omega);have HK:=ae Kw;clear h Xg hw hm hc Kw;rcases key with⟨k1,k2⟩ |⟨k1,k2⟩ |⟨k1,k2,k3⟩ |⟨k1,k2,k3⟩
 ·subst k2;have k5:(0:Int)<=262144-J:=by omega
  go_enter Tryz.func131,Tryz.ntmps131;go_wp2_with fail;clear o0;go_loopg [26] 0 (fun gk i wr=>∃(j:Nat)(M:fo),j+gk=0/\i= .int .i64 j/\TrAt wr M (T.growBy j)/\L.ext M w/\Fr L.fp w wr);case atStart=>exact⟨0,L,by omega,rfl,by simpa[Tr.growBy]using HH.o,L.cw w,Fr.refl _ _⟩
  case round=>
   obtain⟨j,M,hj,rfl,hT,hE,hF⟩:=hrel;have ha:M.a=L.a:=hE.1;have lc:(T.growBy j).cells.length=J+1+j:=by simp[Tr.growBy,HW.o]
   have o0:=hT.obj.cell 0;rw[ha]at o0;simp[lc]at o0;have HA:=ae ha;have HL:=ae lc;have HT:=ae hT;have HE:=ae hE;have HF:=ae hF;have HJ:=ae hj;have HN:aj (M.a∉ao M.A1):=fun hk=>((iH hT.nodup).1 _ hk).1 rfl;clear ha lc hT hE hF;have Tc:(0:Int)<=j:=by skip;omega
   have e:j=0:=by skip;omega
   subst e;clear hj;go_wp2_with fail;go_end0;exact⟨rfl,M,HT.o,HE.o,HF.o⟩
 ·subst k2;subst k1;have k5:(0:Int)<=262144-J:=by omega
  go_enter Tryz.func131,Tryz.ntmps131;go_wp2_with fail;clear o0;go_loopg [26] 0 (fun gk i wr=>∃(j:Nat)(M:fo),j+gk=0/\i= .int .i64 j/\TrAt wr M (T.growBy j)/\L.ext M w/\Fr L.fp w wr);case atStart=>exact⟨0,L,by omega,rfl,by simpa[Tr.growBy]using HH.o,L.cw w,Fr.refl _ _⟩
  case round=>
   obtain⟨j,M,hj,rfl,hT,hE,hF⟩:=hrel;have ha:M.a=L.a:=hE.1;have lc:(T.growBy j).cells.length=J+1+j:=by simp[Tr.growBy,HW.o]
   have o0:=hT.obj.cell 0;rw[ha]at o0;simp[lc]at o0;have HA:=ae ha;have HL:=ae lc;have HT:=ae hT;have HE:=ae hE;have HF:=ae hF;have HJ:=ae hj;have HN:aj (M.a∉ao M.A1):=fun hk=>((iH hT.nodup).1 _ hk).1 rfl;clear ha lc hT hE hF;have Tc:(0:Int)<=j:=by skip;omega
   have e:j=0:=by skip;omega
   subst e;clear hj;go_wp2_with fail;go_end0;exact⟨rfl,M,HT.o,HE.o,HF.o⟩
 ·subst k3;have k4:((J:Nat):Int)<262144:=by omega
  have k5:0<m:=by omega
  go_enter Tryz.func131,Tryz.ntmps131;go_wp2_with fail;clear o0;go_loopg [26] m (fun gk i wr=>∃(j:Nat)(M:fo),j+gk=m/\i= .int .i64 j/\TrAt wr M (T.growBy j)/\L.ext M w/\Fr L.fp w wr);case atStart=>exact⟨0,L,by omega,rfl,by simpa[Tr.growBy]using HH.o,L.cw w,Fr.refl _ _⟩
  case round=>
   obtain⟨j,M,hj,rfl,hT,hE,hF⟩:=hrel;have ha:M.a=L.a:=hE.1;have lc:(T.growBy j).cells.length=J+1+j:=by simp[Tr.growBy,HW.o]
   have o0:=hT.obj.cell 0;rw[ha]at o0;simp[lc]at o0;have HA:=ae ha;have HL:=ae lc;have HT:=ae hT;have HE:=ae hE;have HF:=ae hF;have HJ:=ae hj;have HN:aj (M.a∉ao M.A1):=fun hk=>((iH hT.nodup).1 _ hk).1 rfl;clear ha lc hT hE hF;by_cases ab:j<m
   ·have Tc:(j:Int)<(m:Int):=by skip;omega
    clear hj;go_wp2_with (at_builtin;(refine mY _ rfl _ _ 155 rfl 154 (.agg #[.int .i64 0, .int .i64 0, .int .i64 0]) 3 24 Tryz.underlying155 Nf rfl (by decide) M.A1 M.c1 (J+1+j) rfl (flat (T.growBy j).cells) ?dD ⟨wr.heap.size,0,none⟩ 1 rfl (flat [k9.free]) rfl ?mG (by simp[flat,Value.oneCell']) (by have :=HK.o;unfold maxLen;omega) (by have :=HK.o;omega) ?_;(case dD=>have :=HT.o.cells.alloc (.cells #[.int .i64 0, .int .i64 (-1), .int .i64 0] 154);unfold Cls at this;rwa[HL.o]at this);(case mG=>intro jj u hu;match jj,hu with |0,hu=>(simp[flat,k9.free]at hu;subst hu;simp[Addr.add]) |1,hu=>(simp[flat,k9.free]at hu;subst hu;simp[Addr.add]) |2,hu=>(simp[flat,k9.free]at hu;subst hu;simp[Addr.add]) | (_+3),hu=>(simp[flat]at hu));intro g2 cap w2 oQ cE fu jB;have q2:=cE.at_ (HT.o.obj.alloc _) HN.o;rw[HA.o]at q2;have q3:=q2.cell 0;have q4:=q2.frozen 0;simp at q3;have HI:=ae oQ;have df:=ae cE;have qT:=ae fu;clear q2 oQ cE fu jB))
    have oR:Cls w2 (some ⟨g2,0,none⟩) cap (T.growBy (j+1)).cells:=by have :=HI.o;rw[<-Ic,Tr.j5]at this;unfold Cls;rwa[show(T.growBy (j+1)).cells.length=J+1+j+1 by simp[Tr.growBy,HW.o];omega]
    obtain⟨r1,r2,r3⟩:=(HT.o.alloc (.cells #[.int .i64 0, .int .i64 (-1), .int .i64 0] 154)).Gp oR df.o (qT.o.imp id (fun e=>by rw[e];exact aq _));rw[HA.o,show(T.growBy (j+1)).cells.length=J+1+j+1 by simp[Tr.growBy,HW.o];omega]at r1 r3;have r4:L.ext { M with A1:=some ⟨g2,0,none⟩,c1:=cap } w:=fo.a6 HE.o ⟨r2.1,fun k hk=>(r2.2 k hk).imp id (fun h=>by simp at h;omega)⟩ HF.o;have r5:=(HF.o.alloc (.cells #[.int .i64 0, .int .i64 (-1), .int .i64 0] 154)).trans r3 HE.o.2;rw[HA.o]at r4;have R1:=ae r1;have R4:=ae r4;have R5:=ae r5;clear r1 r2 r3 r4 r5 oR;go_roundg (gk-1);case measure=>have :=HJ.o;omega
    case rel=>exact⟨j+1,_,by have :=HJ.o;omega,by have :=HK.o;go_num,R1.o,R4.o,R5.o⟩
   ·have Tc:((m:Int):Int)<=j:=by skip;omega
    have e:j=m:=by skip;omega
    subst e;clear hj;go_wp2_with fail;go_end0;exact⟨rfl,M,HT.o,HE.o,HF.o⟩
 ·have k4:aj ((262144-J:Int)=m):=k3.symm;have k5:(0:Int)<=262144-J:=by omega
  clear k3;go_enter Tryz.func131,Tryz.ntmps131;go_wp2_with fail;clear o0;go_loopg [26] m (fun gk i wr=>∃(j:Nat)(M:fo),j+gk=m/\i= .int .i64 j/\TrAt wr M (T.growBy j)/\L.ext M w/\Fr L.fp w wr);case atStart=>exact⟨0,L,by omega,rfl,by simpa[Tr.growBy]using HH.o,L.cw w,Fr.refl _ _⟩
  case round=>
   obtain⟨j,M,hj,rfl,hT,hE,hF⟩:=hrel;have ha:M.a=L.a:=hE.1;have lc:(T.growBy j).cells.length=J+1+j:=by simp[Tr.growBy,HW.o]
   have o0:=hT.obj.cell 0;rw[ha]at o0;simp[lc]at o0;have HA:=ae ha;have HL:=ae lc;have HT:=ae hT;have HE:=ae hE;have HF:=ae hF;have HJ:=ae hj;have HN:aj (M.a∉ao M.A1):=fun hk=>((iH hT.nodup).1 _ hk).1 rfl;clear ha lc hT hE hF;by_cases ab:j<m
   ·have Tc:(j:Int)<(262144-J):=by have :=k4.o;omega
    clear hj;go_wp2_with (at_builtin;(refine mY _ rfl _ _ 155 rfl 154 (.agg #[.int .i64 0, .int .i64 0, .int .i64 0]) 3 24 Tryz.underlying155 Nf rfl (by decide) M.A1 M.c1 (J+1+j) rfl (flat (T.growBy j).cells) ?dD ⟨wr.heap.size,0,none⟩ 1 rfl (flat [k9.free]) rfl ?mG (by simp[flat,Value.oneCell']) (by have :=HK.o;unfold maxLen;omega) (by have :=HK.o;omega) ?_;(case dD=>have :=HT.o.cells.alloc (.cells #[.int .i64 0, .int .i64 (-1), .int .i64 0] 154);unfold Cls at this;rwa[HL.o]at this);(case mG=>intro jj u hu;match jj,hu with |0,hu=>(simp[flat,k9.free]at hu;subst hu;simp[Addr.add]) |1,hu=>(simp[flat,k9.free]at hu;subst hu;simp[Addr.add]) |2,hu=>(simp[flat,k9.free]at hu;subst hu;simp[Addr.add]) | (_+3),hu=>(simp[flat]at hu));intro g2 cap w2 oQ cE fu jB;have q2:=cE.at_ (HT.o.obj.alloc _) HN.o;rw[HA.o]at q2;have q3:=q2.cell 0;have q4:=q2.frozen 0;simp at q3;have HI:=ae oQ;have df:=ae cE;have qT:=ae fu;clear q2 oQ cE fu jB))
    have oR:Cls w2 (some ⟨g2,0,none⟩) cap (T.growBy (j+1)).cells:=by have :=HI.o;rw[<-Ic,Tr.j5]at this;unfold Cls;rwa[show(T.growBy (j+1)).cells.length=J+1+j+1 by simp[Tr.growBy,HW.o];omega]
    obtain⟨r1,r2,r3⟩:=(HT.o.alloc (.cells #[.int .i64 0, .int .i64 (-1), .int .i64 0] 154)).Gp oR df.o (qT.o.imp id (fun e=>by rw[e];exact aq _));rw[HA.o,show(T.growBy (j+1)).cells.length=J+1+j+1 by simp[Tr.growBy,HW.o];omega]at r1 r3;have r4:L.ext { M with A1:=some ⟨g2,0,none⟩,c1:=cap } w:=fo.a6 HE.o ⟨r2.1,fun k hk=>(r2.2 k hk).imp id (fun h=>by simp at h;omega)⟩ HF.o;have r5:=(HF.o.alloc (.cells #[.int .i64 0, .int .i64 (-1), .int .i64 0] 154)).trans r3 HE.o.2;rw[HA.o]at r4;have R1:=ae r1;have R4:=ae r4;have R5:=ae r5;clear r1 r2 r3 r4 r5 oR;go_roundg (gk-1);case measure=>have :=HJ.o;omega
    case rel=>exact⟨j+1,_,by have :=HJ.o;omega,by have :=HK.o;go_num,R1.o,R4.o,R5.o⟩
   ·have Tc:((262144-J):Int)<=j:=by have :=k4.o;omega
    have e:j=m:=by have :=k4.o;omega
    subst e;clear hj;go_wp2_with fail;go_end0;exact⟨rfl,M,HT.o,HE.o,HF.o⟩
theorem dQ(g o n:Nat):(Addr.mk g o none).add n=⟨g,o+n,none⟩:=by unfold Addr.add;split<;>simp_all
--New
def Tr.fresh:Tr:={ cells:=[⟨0,0,0⟩],lits:=[],levels:=[] }
theorem Oy{a b:Nat}(h:a=b):Ending.returned (.pointer (some ⟨a,0,none⟩))= .returned (.pointer (some ⟨b,0,none⟩)):=by rw[h]
theorem TrAt.new(w:World):TrAt ((w.alloc (.cells #[.int .i64 0, .int .i64 0, .int .i64 0] 154)).alloc (.cells #[.slice (some ⟨w.heap.size,0,none⟩) 1 1, .slice none 0 0, .slice none 0 0] 157))
  { a:=w.heap.size+1,A1:=some ⟨w.heap.size,0,none⟩,c1:=1,A2:=none,c2:=0,A3:=none,c3:=0 } Tr.fresh:=by
 refine⟨?_,?_,Ints.nil _,Ints.nil _,by simp[fo.fp,ao]⟩
 ·have :=At.new (w.alloc (.cells #[.int .i64 0, .int .i64 0, .int .i64 0] 154)) 157 #[.slice (some ⟨w.heap.size,0,none⟩) 1 1, .slice none 0 0, .slice none 0 0];rwa[show(w.alloc (.cells #[.int .i64 0, .int .i64 0, .int .i64 0] 154)).heap.size=w.heap.size+1 from by simp]at this
 ·have :Cls (w.alloc (.cells #[.int .i64 0, .int .i64 0, .int .i64 0] 154)) (some ⟨w.heap.size,0,none⟩) 1 Tr.fresh.cells:=World.ownsRow_lit w #[.int .i64 0, .int .i64 0, .int .i64 0] 1 (aU _) (by simp[maxLen]) (by simp);exact this.alloc _
theorem Ol(w:World)(n:Int):
  Calls Tryz.prog 97 #[.int .i64 n] w fun e w'=>∃L:fo,e= .returned (.pointer (some ⟨L.a,0,none⟩))/\TrAt w' L (Tr.fresh.eP n)/\(∀k,k∈L.fp->w.heap.size<=k)/\Fr [] w w':=by
 have HN:=ae (TrAt.new w);go_enter Tryz.func97,Tryz.ntmps97;go_wp2_with fail;refine(yJ _ _ _ HN.o (by decide) (by decide) n).mono ?_;rintro e w1 ⟨rfl,L',hL,hE,hF⟩;have HL:=ae hL;have J:=ae hE;have HF:=ae hF;clear hL hE hF;go_wp2;go_ret;have hk:∀k,k∈fo.fp { a:=w.heap.size+1,A1:=some ⟨w.heap.size,0,none⟩,c1:=1,A2:=none,c2:=0,A3:=none,c3:=0 }->w.heap.size<=k:=by intro k hk;simp only[fo.fp,ao,Option.map_none,dA,Option.toList_none,eD,cq,ay,bi,or_false]at hk;omega
 refine⟨L',Oy J.o.1.symm,HL.o,fun k h=> ?_,?_⟩
 ·rcases J.o.2 k h with h |h
  ·exact hk k h
  ·exact aE (by simp;omega) h
 ·exact(((Fr.refl [] w).alloc _).alloc _).trans HF.o (fun k h=> .inr (hk k h))
--atx,av6
structure Tr.Inv(T:Tr):Prop where
 levels:∀m:Nat,m<T.levels.length->∃n:Nat,T.levels[m]! =n/\n<=T.lits.length
 lits:∀j:Nat,j<T.lits.length->T.kb (tv T.lits[j]!)=true
theorem yK(w:World)(L:fo)(T:Tr)(h:TrAt w L T)(hi:T.Inv)(level:Int):
  Calls Tryz.prog 115 #[.pointer (some ⟨L.a,0,none⟩), .int .i64 level] w fun e w'=>e= .returned (.tuple #[])/\TrAt w' L (T.dz level.toNat)/\Fr L.fp w w':=by
 by_cases hl:level<0
 ·have e0:level.toNat=0:=by omega
  rw[e0];by_cases hm:0<T.levels.length
  ·obtain⟨n,hn,rz⟩:=hi.levels 0 hm;have J:T.dz 0=T.zY 0 n:=by unfold Tr.dz;rw[qai hm,hn];rfl
   rw[J];exact xy w L T h level hl hm n hn rz hi.lits
  ·have J:T.dz 0=T:=by unfold Tr.dz;rw[qah hm]
   rw[J];exact(vd w L T h level hl (by omega)).mono fun e w' ⟨he,hw⟩=>⟨he,hw▸h,hw▸Fr.refl _ _⟩
 ·obtain⟨m,rfl⟩:∃m:Nat,level=m:=⟨level.toNat,by omega⟩
  rw[Int.toNat_natCast];by_cases hm:m<T.levels.length
  ·obtain⟨n,hn,rz⟩:=hi.levels m hm;have J:T.dz m=T.zY m n:=by unfold Tr.dz;rw[qai hm,hn];rfl
   rw[J];exact xx w L T h m hm n hn rz hi.lits
  ·have J:T.dz m=T:=by unfold Tr.dz;rw[qah hm]
   rw[J];exact(qag w L T h m (by omega)).mono fun e w' ⟨he,hw⟩=>⟨he,hw▸h,hw▸Fr.refl _ _⟩
end
section
structure St where
 x:Int
 l:Int
 r:Int
instance:Inhabited St:=⟨⟨0,0,0⟩⟩
def look(S:List St)(v:Int):Option St:=S.find? (fun e=>tv e.x==v)
def MK(e:St):k9:=⟨if e.x<0 then -1 else 1,e.l,e.r⟩
def uG:Option St->k9
 |none=>k9.free
 |some e=>MK e
theorem jH{S:List St}{v:Int}{e:St}(h:look S v=some e):e∈S/\tv e.x=v:=by refine⟨List.mem_of_find?_eq_some h,?_⟩;have :=List.find?_some h;simpa using this
theorem rq{S:List St}{v:Int}(h:look S v=none):∀e,e∈S->tv e.x≠v:=by intro e he;have :=List.find?_eq_none.1 h e he;simpa using this
theorem pe{S:List St}{v:Int}(h:∀e,e∈S->tv e.x≠v):look S v=none:=List.find?_eq_none.2 fun e he=>by simpa using h e he
theorem Gw(S:List St)(e:St)(v:Int):look (S++[e]) v=if tv e.x=v then(look S v).or (some e)else look S v:=by
 unfold look;rw[List.find?_append];by_cases h:tv e.x=v
 ·simp[h]
 ·simp[h]
theorem jd{S:List St}(J:(S.map fun e:St=>tv e.x).Nodup){e:St}(he:e∈S):look S (tv e.x)=some e:=by
 induction S with
 |nil=>simp at he
 |cons d S ih=>
  simp only[dJ,kg,aN,not_exists,not_and]at J;unfold look;rw[List.find?_cons];rcases ay.1 he with rfl |he
  ·simp
  ·have :(tv d.x==tv e.x)=false:=aab.2 fun h=>J.1 e he h.symm;rw[this];exact ih J.2 he
theorem NR(cs:List k9)(i:Nat)(x:k9)(j:Nat)(hi:i<cs.length):(cs.set i x)[j]! =if j=i then x else cs[j]! :=by
 simp only[aa,List.getElem?_set];by_cases h:i=j
 ·subst h;simp[hi]
 ·rw[qah h,qah (fun e=>h e.symm)]
theorem Ly:∀(ls:List Int)(cs:List k9)(j:Nat),(∀l,l∈ls->(tv l).toNat<cs.length)->(iy cs ls)[j]! =if j∈ls.map (fun l=>(tv l).toNat)then k9.free else cs[j]! :=by
 intro ls;induction ls with
 |nil=>intro cs j _;simp[iy]
 |cons l ls ih=>
  intro cs j h;have h1:(tv l).toNat<cs.length:=h l (by simp);have e:iy cs (l::ls)=iy (cs.set (tv l).toNat k9.free) ls:=rfl;rw[e,ih _ j (fun l' Ta=>by rw[aw];exact h l' (by simp[Ta])),NR _ _ _ _ h1];by_cases h2:j∈ls.map (fun l=>(tv l).toNat)
  ·simp[h2]
  ·by_cases J:j=(tv l).toNat
   ·simp[J]
   ·simp[J]
theorem lM:∀(n:Nat)(l:List Nat),l.Nodup->(∀x,x∈l->x<n)->l.length<=n:=by
 intro n;induction n with
 |zero=>
  intro l _ h;cases l with
  |nil=>exact aq _
  |cons a l=>exact absurd (h a (by simp)) (aD _)
 |succ n ih=>
  intro l hn h;by_cases hm:n∈l
  ·have :=ih (l.erase n) (hn.erase n) (fun x J=>by obtain⟨h1,h2⟩:=(hn.mem_erase_iff).1 J;have :=h x h2;omega);rw[List.length_erase_of_mem hm]at this;omega
  ·have :=ih l hn (fun x J=>by
    have :=h x J;by_cases e:x=n
    ·subst e;exact absurd J hm
    ·omega)
   omega
structure TRep(T:Tr)(vars:Nat)(S:List St)(depth:Nat):Prop where
 size:T.cells.length=vars+1
 lits:T.lits=S.map (·.x)
 dep:T.levels.length=depth
 db:∀m:Nat,m<depth->T.levels[m]! =((S.filter (fun e:St=>decide (e.l<=(m:Int)))).length:Int)
 sorted:S.Pairwise (fun a b:St=>a.l<=b.l)
 bound:∀e,e∈S->0<=e.l/\e.l<=depth/\1<=tv e.x/\tv e.x<=vars
 nd:(S.map fun e:St=>tv e.x).Nodup
 cell:∀v:Int,1<=v->v<=vars->T.mf v=uG (look S v)
namespace TRep
variable {T:Tr} {vars:Nat} {S:List St} {depth:Nat}
theorem kb(h:TRep T vars S depth)(v:Int):T.kb v=(decide (1<=v)&&decide (v<=vars)):=by unfold Tr.kb;rw[h.size];by_cases h1:1<=v<;>by_cases J:v<=vars<;>simp[h1,J]<;>omega
theorem fresh:TRep Tr.fresh 0 [] 0:=by
 refine⟨rfl,rfl,rfl,fun m hm=>absurd hm (aD _),List.Pairwise.nil,fun e he=>by simp at he,by simp,fun v J h1=> ?_⟩;have :v<=0:=by simpa using h1
 omega
theorem growBy(h:TRep T vars S depth)(k:Nat):TRep (T.growBy k) (vars+k) S depth:=by
 refine⟨by simp[Tr.growBy,h.size];omega,h.lits,h.dep,h.db,h.sorted,fun e he=> ?_,h.nd,fun v J h1=> ?_⟩
 ·obtain⟨a,b,c,d⟩:=h.bound e he;exact⟨a,b,c,by omega⟩
 ·by_cases hv:v<=vars
  ·rw[<-h.cell v J hv];unfold Tr.mf Tr.growBy;simp only[aa];rw[cV (by rw[h.size];omega)]
  ·have hl:look S v=none:=pe fun e he=>by have :=(h.bound e he).2.2.2;omega
   rw[hl];unfold Tr.mf Tr.growBy;simp only[aa];rw[bX (by rw[h.size];omega),List.getElem?_replicate,qai (by rw[h.size];omega)];rfl
theorem room(h:TRep T vars S depth)(k:Nat)(hk:vars+k<=262144):T.room k=k:=by unfold Tr.room;rw[h.size];omega
theorem grow(h:TRep T vars S depth)(k:Nat)(hk:vars+k<=262144):TRep (T.eP k) (vars+k) S depth:=by unfold Tr.eP;rw[h.room k hk];exact h.growBy k
theorem ke(h:TRep T vars S depth)(l:Int):T.ke l=(decide (1<=tv l)&&decide (tv l<=vars)&&(look S (tv l)).isNone):=by
 unfold Tr.ke;rw[h.kb];by_cases h1:1<=tv l
 ·by_cases J:tv l<=vars
  ·rw[h.cell _ h1 J];cases hl:look S (tv l)with
   |none=>simp[h1,J,uG,k9.free]
   |some e=>
    simp only[h1,J,uG,MK];by_cases h3:e.x<0<;>simp[h3]
  ·simp[J]
 ·simp[h1]
theorem put(h:TRep T vars S depth)(l r:Int)(J:T.ke l=true):TRep (T.qt l r) vars (S++[⟨l,depth,r⟩]) depth:=by
 rw[h.ke]at J;simp only[ax,qam,Option.isNone_iff_eq_none]at J;obtain⟨⟨h1,h2⟩,h3⟩:=J;have dV:=rq h3;have hi:(tv l).toNat<T.cells.length:=by rw[h.size];omega
 refine⟨by simp[Tr.qt,h.size],by simp[Tr.qt,h.lits],h.dep,fun m hm=> ?_,?_,fun e he=> ?_,?_,fun v h0 hv=> ?_⟩
 ·have :=h.db m hm;show T.levels[m]! =_;rw[this,List.filter_append];have :¬((depth:Int)<=m):=by omega
  simp[this]
 ·rw[List.pairwise_append];refine⟨h.sorted,List.pairwise_singleton _ _,fun a ha b J=> ?_⟩;simp only[ag]at J;subst J;exact(h.bound a ha).2.1
 ·rcases ah.1 he with he |he
  ·exact h.bound e he
  ·simp only[ag]at he;subst he;exact⟨by show(0:Int)<=depth;omega,by show(depth:Int)<=depth;omega,h1,h2⟩
 ·rw[bE,List.nodup_append];refine⟨h.nd,by simp,fun a ha b J e=> ?_⟩;simp only[dJ,fQ,ag]at J;subst J;subst e;obtain⟨e',fj,h4⟩:=aN.1 ha;exact dV e' fj h4
 ·rw[Gw];have e1:(T.qt l r).mf v=if v.toNat=(tv l).toNat then⟨if l<0 then -1 else 1,T.levels.length,r⟩else T.mf v:=NR _ _ _ _ hi;rw[e1];by_cases lP:tv l=v
  ·subst lP;rw[qai rfl,qai rfl,h3,h.dep];rfl
  ·rw[qah (by omega),qah lP];exact h.cell v h0 hv
theorem deep(h:TRep T vars S depth):TRep T.zV vars S (depth+1):=by
 refine⟨h.size,h.lits,by simp[Tr.zV,h.dep],fun m hm=> ?_,h.sorted,fun e he=> ?_,h.nd,h.cell⟩
 ·show(T.levels++[(T.lits.length:Int)])[m]! =_;simp only[aa];by_cases J:m<depth
  ·rw[cV (by rw[h.dep];exact J),<-h.db m J,aa]
  ·have e:m=depth:=by omega
   subst e;rw[bX (by rw[h.dep];exact aq _),h.dep,Nat.sub_self,h.lits];have :S.filter (fun e:St=>decide (e.l<=(m:Int)))=S:=List.filter_eq_self.2 fun e he=>by simpa using(h.bound e he).2.1
   rw[this];simp
 ·obtain⟨a,b,c,d⟩:=h.bound e he;exact⟨a,by omega,c,d⟩
theorem split(hs:S.Pairwise (fun a b:St=>a.l<=b.l))(m:Int):S.filter (fun e:St=>decide (e.l<=(m:Int)))=S.take (S.filter (fun e:St=>decide (e.l<=(m:Int)))).length/\S.filter (fun e:St=> !decide (e.l<=(m:Int)))=S.drop (S.filter (fun e:St=>decide (e.l<=(m:Int)))).length:=by
 induction S with
 |nil=>simp
 |cons d S ih=>
  obtain⟨h1,h2⟩:=List.pairwise_cons.1 hs;by_cases hd:d.l<=m
  ·obtain⟨i1,i2⟩:=ih h2;simp only[hd,decide_true,List.filter_cons_of_pos,b8,List.take_succ_cons,List.drop_succ_cons,Bool.not_true,bu,not_false_eq_true,List.filter_cons_of_neg];exact⟨by rw[<-i1],i2⟩
  ·have J:S.filter (fun e:St=>decide (e.l<=(m:Int)))=[]:=List.filter_eq_nil_iff.2 fun e he=>by have :=h1 e he;simp;omega
   have e2:S.filter (fun e:St=> !decide (e.l<=(m:Int)))=S:=List.filter_eq_self.2 fun e he=>by have :=h1 e he;simp;omega
   simp[hd,J,e2]
theorem back(h:TRep T vars S depth)(m:Nat)(hm:m<depth):TRep (T.dz m) vars (S.filter (fun e:St=>decide (e.l<=(m:Int)))) m:=by
 obtain⟨s1,s2⟩:=split h.sorted (m:Int);have hn:=h.db m hm;have Bg:(T.levels[m]!).toNat=(S.filter (fun e:St=>decide (e.l<=(m:Int)))).length:=by rw[hn];rfl
 unfold Tr.dz;rw[qai (by rw[h.dep];exact hm),Bg];unfold Tr.zY;have hd:T.lits.drop (S.filter (fun e:St=>decide (e.l<=(m:Int)))).length=(S.filter (fun e:St=> !decide (e.l<=(m:Int)))).map (·.x):=by rw[h.lits,<-List.map_drop,<-s2]
 rw[hd];refine⟨by simp[eG,h.size],?_,?_,fun k hk=> ?_,h.sorted.filter _,fun e he=> ?_,?_,fun v h0 hv=> ?_⟩
 ·show T.lits.take _=_;rw[h.lits,<-List.map_take,<-s1]
 ·show(T.levels.take m).length=m;rw[bz,h.dep];omega
 ·show(T.levels.take m)[k]! =_;have :=h.db k (by omega);simp only[aa]at this⊢;rw[List.getElem?_take,qai hk,this,List.filter_filter];congr 2;refine List.filter_congr fun e _=> ?_;by_cases h1:e.l<=k
  ·have :e.l<=m:=by omega
   simp[h1,this]
  ·simp[h1]
 ·obtain⟨he,hl⟩:=gh.1 he;obtain⟨a,b,c,d⟩:=h.bound e he;exact⟨a,by simpa using hl,c,d⟩
 ·exact(List.Sublist.map _ (List.filter_sublist)).nodup h.nd
 ·show(iy T.cells _)[v.toNat]! =_;rw[Ly _ _ _ (fun l hl=>by obtain⟨e,he,rfl⟩:=aN.1 hl;have :=h.bound e (gh.1 he).1;rw[h.size];omega)];have hc:=h.cell v h0 hv;cases kk:look S v with
  |none=>
   have h1:=rq kk;have J:look (S.filter (fun e:St=>decide (e.l<=(m:Int)))) v=none:=pe fun e he=>h1 e (gh.1 he).1;rw[J];rw[kk]at hc;split
   ·rfl
   ·exact hc
  |some e=>
   obtain⟨he,QW⟩:=jH kk;rw[kk]at hc;by_cases Zz:e.l<=m
   ·have mO:e∈S.filter (fun e:St=>decide (e.l<=(m:Int))):=gh.2 ⟨he,by simpa using Zz⟩;have ab:((S.filter (fun e:St=>decide (e.l<=(m:Int)))).map fun e=>tv e.x).Nodup:=(List.Sublist.map _ (List.filter_sublist)).nodup h.nd;have J:=jd ab mO;rw[QW]at J;rw[J,qah,<-hc]
    ·rfl
    ·intro SX;obtain⟨l,hl,oD⟩:=aN.1 SX;obtain⟨e',fj,rfl⟩:=aN.1 hl;obtain⟨yo,jZ⟩:=gh.1 fj;have hb:=h.bound e' yo;have h4:tv e'.x=v:=(by omega)
     have h5:=jd h.nd yo;rw[h4,kk]at h5;obtain rfl :=Option.some.inj h5;simp at jZ;omega
   ·have J:look (S.filter (fun e:St=>decide (e.l<=(m:Int)))) v=none:=pe fun e' fj h4=>by obtain⟨yo,jZ⟩:=gh.1 fj;have h5:=jd h.nd yo;rw[h4,kk]at h5;obtain rfl :=Option.some.inj h5;simp at jZ;omega
    rw[J,qai]
    ·rfl
    ·exact aN.2 ⟨e.x,aN.2 ⟨e,gh.2 ⟨he,by simp;omega⟩,rfl⟩,by rw[QW]⟩
theorem inv(h:TRep T vars S depth):T.Inv:=by
 constructor
 ·intro m hm;refine⟨_,h.db m (by rw[<-h.dep];exact hm),?_⟩;rw[h.lits,aG];exact List.length_filter_le _ _
 ·intro j J;rw[h.lits]at J⊢;rw[aG]at J;have e:(S.map (·.x))[j]! =S[j].x:=by simp[J]
  rw[e,h.kb];obtain⟨_,_,a,b⟩:=h.bound S[j] (gu J);simp[a,b]
theorem small(h:TRep T vars S depth):∀v:Int,1<=v->v<T.cells.length-> -1<=(T.mf v).v/\(T.mf v).v<=1:=by
 intro v J h1;rw[h.size]at h1;rw[h.cell v J (by omega)];cases look S v with
 |none=>simp[uG,k9.free]
 |some e=>
  simp only[uG,MK];by_cases hx:e.x<0<;>simp[hx]
theorem mQ(h:TRep T vars S depth)(l:Int):T.mQ l=match look S (tv l)with |none=>0 |some e=>if e.x=l then 1 else -1:=by
 unfold Tr.mQ;rw[h.kb];cases hl:look S (tv l)with
 |none=>
  by_cases J:1<=tv l/\tv l<=vars
  ·rw[qai (by simp[J]),h.cell _ J.1 J.2,hl];simp[uG,k9.free]
  ·rw[qah (by simpa using J)]
 |some e=>
  obtain⟨he,QW⟩:=jH hl;obtain⟨_,_,a,b⟩:=h.bound e he;rw[QW]at a b;rw[qai (by simp[a,b]),h.cell _ a b,hl];simp only[uG,MK];have hx:tv e.x=tv l:=QW;have SW:e.x≠ -9223372036854775808:=fun e0=>by rw[qa e0]at hx;omega
  have ab:l≠ -9223372036854775808:=fun e0=>by rw[qa e0]at a;omega
  unfold tv at hx;rw[qah SW,qah ab]at hx;by_cases h1:e.x<0<;>by_cases h2:l<0<;>simp only[h1,h2,if_true,if_false]at hx⊢
  ·rw[qai (by omega)];omega
  ·rw[qah (by omega)]
  ·rw[qah (by omega)]
  ·rw[qai (by omega)]
theorem dF(h:TRep T vars S depth)(v:Int):T.dF v=match look S v with |none=> -1 |some e=>e.l:=by
 unfold Tr.dF;rw[h.kb];cases hl:look S v with
 |none=>
  by_cases J:1<=v/\v<=vars
  ·rw[qai (by simp[J]),h.cell _ J.1 J.2,hl];simp[uG,k9.free]
  ·rw[qah (by simpa using J)]
 |some e=>
  obtain⟨he,QW⟩:=jH hl;obtain⟨_,_,a,b⟩:=h.bound e he;rw[QW]at a b;rw[qai (by simp[a,b]),h.cell _ a b,hl];rfl
theorem fV(h:TRep T vars S depth)(v:Int):T.fV v=match look S v with |none=>0 |some e=>e.r:=by
 unfold Tr.fV;rw[h.kb];cases hl:look S v with
 |none=>
  by_cases J:1<=v/\v<=vars
  ·rw[qai (by simp[J]),h.cell _ J.1 J.2,hl];simp[uG,k9.free]
  ·rw[qah (by simpa using J)]
 |some e=>
  obtain⟨he,QW⟩:=jH hl;obtain⟨_,_,a,b⟩:=h.bound e he;rw[QW]at a b;rw[qai (by simp[a,b]),h.cell _ a b,hl];rfl
theorem io(h:TRep T vars S depth):S.length<=vars:=by
 have J:∀x,x∈S.map (fun e=>(tv e.x).toNat-1)->x∈List.range vars:=by intro x hx;obtain⟨e,he,rfl⟩:=aN.1 hx;obtain⟨_,_,a,b⟩:=h.bound e he;rw[bl];omega
 have Fm:(S.map (fun e=>(tv e.x).toNat-1)).Nodup:=by have h1:=h.nd;rw[List.nodup_iff_pairwise_ne,List.pairwise_map]at h1⊢;refine List.Pairwise.imp_of_mem (fun{a b} ha hb ab=> ?_) h1;obtain⟨_,_,a1,_⟩:=h.bound a ha;obtain⟨_,_,b1,_⟩:=h.bound b hb;omega
 have :=lM vars _ Fm (fun x hx=>bl.1 (J x hx));simpa using this
end TRep
end
section
open Go.RowKit
def Rd(w:World)(A:Option Addr)(xs:List Int):Prop:=0<xs.length->∃b o,A=some ⟨b,o,none⟩/\∀j:Nat,j<xs.length->w.cell? ⟨b,o+j,none⟩=some (.int .i64 xs[j]!)
theorem Ints.rd{w:World}{A:Option Addr}{c:Nat}{xs:List Int}(h:Ints w A c xs):Rd w A xs:=by intro J;obtain⟨g,hg,_⟩:=h.pos (i:=0) J;subst hg;exact⟨g,0,rfl,fun j hj=>by rw[dd];exact h.cell hj⟩
theorem XD(w:World)(A:Option Addr)(c:Nat)(xs:List Int)(n:Int)(h:Rd w A xs)(hl:xs.length<=9223372036854775807):
  Calls Tryz.prog 59 #[.slice A xs.length c, .int .i64 n] w fun e w'=>e= .returned (.bool (decide (n∈xs)))/\w=w':=by
 go_enter Tryz.func59,Tryz.ntmps59;go_wp2_with fail;have H:=ae h;clear h;go_loopg [5] xs.length (fun g i wr=>∃k:Nat,k+g=xs.length/\i= .int .i64 k/\w=wr/\aj (∀j:Nat,j<k->xs[j]! ≠n));case atStart=>exact⟨0,by omega,rfl,rfl,fun j hj=>by omega⟩
 case round=>
  obtain⟨k,hk,rfl,rfl,hn⟩:=hrel;have HK:=ae hk;have sR:k<=xs.length:=by omega
  clear hk;by_cases bt:k<xs.length
  ·obtain⟨b,o,rfl,J⟩:=H.o (by omega);have cx:=J k bt;clear J;have xE:aj (∃x,xs[k]! =x):=⟨_,rfl⟩
   obtain⟨x,J⟩:=xE;rw[J]at cx;have HX:=ae J;clear J;by_cases he:x=n
   ·subst he;go_wp2;go_ret;have hm:x∈xs:=by rw[<-HX.o,aa,af bt];exact gu bt
    exact⟨by simp[hm],rfl⟩
   ·have dV:(x==n)=false:=aab.2 he;have HE:=ae he;clear he;go_wp2;go_roundg (gk-1);case measure=>have :=HK.o;omega
    case rel=>exact⟨k+1,by have :=HK.o;omega,by go_num,rfl,fun j hj=>by
     by_cases e:j=k
     ·subst e;rw[HX.o];exact HE.o
     ·exact hn.o j (by omega)⟩
  ·go_wp2;go_ret;have hm:n∉xs:=by intro hm;obtain⟨j,hj,e⟩:=List.mem_iff_getElem.1 hm;exact hn.o j (by omega) (by simp[hj,e])
   exact⟨by simp[hm],rfl⟩
structure Ext(w:World) where
 v:World
 fr:Fr [] w v
instance (w:World):Nonempty (Ext w):=⟨⟨w,Fr.refl [] w⟩⟩
instance (w:World):Inhabited (Ext w):=⟨⟨w,Fr.refl [] w⟩⟩
theorem bR{w:World}{p:Addr}{v:Value}(h:w.cell? p=some v):p.block<w.heap.size:=by
 rcases bN p.block w.heap.size with hl |hl
 ·exact hl
 ·unfold World.cell? at h;rw[gX hl]at h;cases h
theorem Fr.cell{w w':World}(h:Fr [] w w'){p:Addr}(hp:p.block<w.heap.size):w'.cell? p=w.cell? p:=World.cell?_of_block (h.block p.block hp (by simp))
theorem Fr.aF{w w':World}{p:Addr}{v:Value}(h:Fr [] w w')(hc:w.cell? p=some v):w'.cell? p=some v:=by rw[h.cell (bR hc)];exact hc
theorem Ext.cell{w:World}{p:Addr}{v:Value}(hc:w.cell? p=some v)(u:Ext w):u.v.cell? p=some v:=u.fr.aF hc
theorem At.keep{w w':World}{g:Nat}{t:TypeId}{cs:Array Value}(h:At w g t cs)(J:Fr [] w w'):At w' g t cs:=J.at_ h (by simp)
theorem Rd.keep{w w':World}{A:Option Addr}{xs:List Int}(h:Rd w A xs)(hf:Fr [] w w'):Rd w' A xs:=by intro J;obtain⟨b,o,hA,hx⟩:=h J;exact⟨b,o,hA,fun j hj=>hf.aF (hx j hj)⟩
theorem ap{P:Program}{id:Nat}{Q:Exit->Act->World->Prop}{a:Act}{w:World}{l:List Oper}(h:wpQuiet P l.toArray (fun w'=>∃u:Ext w,w'=u.v) (fun J=>∀w',(∃u:Ext w,w'=u.v)->Q .normal J w') l a)(hm:P.follows .mixedOrders=true:=by kernel_rfl)(hB:Region.lexB .any l.toArray=true:=by kernel_rfl):(Code.region id l.toArray true).wp P Q a w:=
 wp_region_quiet (C:=fun w'=>∃u:Ext w,w'=u.v) hm hB ⟨⟨_,(Fr.refl [] w).drew⟩,rfl⟩ (by simpa using h)
theorem fq{P:Program}{ops:Array Oper}{w:World}{Q:Act->World->Prop}{a:Act}(h:∀w',aj (Fr [] w w')->Q a w'):wpQuiet P ops (fun w'=>∃u:Ext w,w'=u.v) (fun J=>∀w',(∃u:Ext w,w'=u.v)->Q J w') [] a:=
 qal (fun w' ⟨u,hu⟩=>h w' (hu▸u.fr))
theorem zO{w:World}{J p1 p2 p3 p4 p5 p6 p7:Addr}{v0 v1 v2 v3 v4 v5 v6 v7:Value}(c0:w.cell? J=some v0)(c1:w.cell? p1=some v1)(c2:w.cell? p2=some v2)(c3:w.cell? p3=some v3)(c4:w.cell? p4=some v4)(c5:w.cell? p5=some v5)(c6:w.cell? p6=some v6)(c7:w.cell? p7=some v7):(∀u:Ext w,u.v.cell? J=some v0)/\(∀u:Ext w,u.v.cell? p1=some v1)/\(∀u:Ext w,u.v.cell? p2=some v2)/\(∀u:Ext w,u.v.cell? p3=some v3)/\(∀u:Ext w,u.v.cell? p4=some v4)/\(∀u:Ext w,u.v.cell? p5=some v5)/\(∀u:Ext w,u.v.cell? p6=some v6)/\(∀u:Ext w,u.v.cell? p7=some v7):=⟨Ext.cell c0,Ext.cell c1,Ext.cell c2,Ext.cell c3,Ext.cell c4,Ext.cell c5,Ext.cell c6,Ext.cell c7⟩
theorem bf{P:Program}{f:FuncId}{args:Array Value}{w:World}{u:Ext w}{v:Value}
  (h:Calls P f args u.v fun e w'=>e= .returned v/\Fr [] u.v w'):Calls P f args u.v fun e J=>e= .returned v/\∃x:Ext w,J=x.v:=
 h.mono fun _ w' ⟨he,hf⟩=>⟨he,⟨w',u.fr.ak hf⟩,rfl⟩
theorem bp{P:Program}{f:FuncId}{args:Array Value}{w:World}{u:Ext w}{v:Value}
  (h:Calls P f args u.v fun e w'=>e= .returned v/\u.v=w'):Calls P f args u.v fun e J=>e= .returned v/\∃x:Ext w,J=x.v:=
 h.mono fun _ w' ⟨he,hf⟩=>⟨he,u,hf.symm⟩
end
end Go.Proofs.YtpjbaobgnhjgoaaGreat
