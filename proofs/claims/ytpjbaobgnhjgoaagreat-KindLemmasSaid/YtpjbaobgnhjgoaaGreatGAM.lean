/- Parts of a proof. -/
import Derived.Test.YtpjbaobgnhjgoaaGreatGAL
import Derived.Shelf.SlSortCmp.NoneTotal
set_option linter.unusedVariables false
set_option linter.unusedSimpArgs false
set_option maxHeartbeats 16000000
set_option maxRecDepth 100000
namespace Go.Proofs.YtpjbaobgnhjgoaaGreat
section
open Go.Shelf
def Oo:Go.Shelf.Ren:=⟨fun |6=>156 |15=>175 |14=>174 |28=>194 |29=>195 |20=>179 |21=>187 |22=>188 |23=>189 |24=>190 |25=>191 |26=>192 |27=>193 |46=>198 |47=>199 |48=>200 |49=>201 |50=>202 |57=>204 |n=>n,fun |22=>22 |24=>3 |25=>83 |3=>3 |39=>144 |0=>0 |53=>198 |55=>209 |4=>4 |46=>202 |45=>201 |50=>185 |5=>5 |9=>9 |66=>210 |70=>214 |76=>216 |77=>217 |n=>n,fun |n=>n⟩
theorem YX:Go.Proofs.SlLaysF.n6 Tryz.prog Oo:={
 mixed:=by kernel_rfl
 f6:=⟨Tryz.f156.name,by decide,Tryz.func156.trans (aaa some (by kernel_rfl))⟩
 f14:=⟨Tryz.f174.name,by decide,Tryz.func174.trans (aaa some (by kernel_rfl))⟩
 f15:=Tryz.func175.trans (aaa some (by kernel_rfl))
 f20:=⟨Tryz.f179.name,by decide,Tryz.func179.trans (aaa some (by kernel_rfl))⟩
 f21:=⟨Tryz.f187.name,by decide,Tryz.func187.trans (aaa some (by kernel_rfl))⟩
 f22:=⟨Tryz.f188.name,by decide,Tryz.func188.trans (aaa some (by kernel_rfl))⟩
 f23:=⟨Tryz.f189.name,by decide,Tryz.func189.trans (aaa some (by kernel_rfl))⟩
 f24:=⟨Tryz.f190.name,by decide,Tryz.func190.trans (aaa some (by kernel_rfl))⟩
 f25:=⟨Tryz.f191.name,by decide,Tryz.func191.trans (aaa some (by kernel_rfl))⟩
 f26:=⟨Tryz.f192.name,by decide,Tryz.func192.trans (aaa some (by kernel_rfl))⟩
 f27:=⟨Tryz.f193.name,by decide,Tryz.func193.trans (aaa some (by kernel_rfl))⟩
 f28:=Tryz.func194.trans (aaa some (by kernel_rfl))
 f29:=Tryz.func195.trans (aaa some (by kernel_rfl))
 f46:=⟨Tryz.f198.name,by decide,Tryz.func198.trans (aaa some (by kernel_rfl))⟩
 f47:=Tryz.func199.trans (aaa some (by kernel_rfl))
 f48:=Tryz.func200.trans (aaa some (by kernel_rfl))
 f49:=⟨Tryz.f201.name,by decide,Tryz.func201.trans (aaa some (by kernel_rfl))⟩
 f50:=⟨Tryz.f202.name,by decide,Tryz.func202.trans (aaa some (by kernel_rfl))⟩
 f57:=⟨Tryz.f204.name,by decide,Tryz.func204.trans (aaa some (by kernel_rfl))⟩
 t0:=Tryz.underlying0
 a0:=Tryz.isAgg0
 z0:=Tryz.sizeOf0
 v0:=Tryz.zeroValue0
 t3:=Tryz.underlying3
 a3:=Tryz.isAgg3
 z3:=Tryz.sizeOf3
 v3:=Tryz.zeroValue3
 t4:=Tryz.underlying4
 a4:=Tryz.isAgg4
 z4:=Tryz.sizeOf4
 v4:=Tryz.zeroValue4
 t5:=Tryz.underlying5
 a5:=Tryz.isAgg5
 z5:=Tryz.sizeOf5
 v5:=Tryz.zeroValue5
 t9:=Tryz.underlying9
 a9:=Tryz.isAgg9
 z9:=Tryz.sizeOf9
 v9:=Tryz.zeroValue9
 t22:=Tryz.underlying22
 a22:=Tryz.isAgg22
 z22:=Tryz.sizeOf22
 v22:=Tryz.zeroValue22
 a24:=Tryz.isAgg3
 z24:=Tryz.sizeOf3
 t25:=Tryz.underlying83
 a25:=Tryz.isAgg83
 z25:=Tryz.sizeOf83
 v25:=Tryz.zeroValue83
 t39:=Tryz.underlying144
 a39:=Tryz.isAgg144
 z39:=Tryz.sizeOf144
 v39:=Tryz.zeroValue144
 t45:=Tryz.underlying201
 a45:=Tryz.isAgg201
 z45:=Tryz.sizeOf201
 v45:=Tryz.zeroValue201
 t46:=Tryz.underlying202
 a46:=Tryz.isAgg202
 z46:=Tryz.sizeOf202
 v46:=Tryz.zeroValue202
 t50:=Tryz.underlying185
 a50:=Tryz.isAgg185
 z50:=Tryz.sizeOf185
 v50:=Tryz.zeroValue185
 t53:=Tryz.underlying198
 a53:=Tryz.isAgg198
 z53:=Tryz.sizeOf198
 v53:=Tryz.zeroValue198
 t55:=Tryz.underlying209
 a55:=Tryz.isAgg209
 z55:=Tryz.sizeOf209
 v55:=Tryz.zeroValue209
 t66:=Tryz.underlying210
 a66:=Tryz.isAgg210
 z66:=Tryz.sizeOf210
 v66:=Tryz.zeroValue210
 t70:=Tryz.underlying214
 a70:=Tryz.isAgg214
 z70:=Tryz.sizeOf214
 v70:=Tryz.zeroValue214
 t76:=Tryz.underlying216
 a76:=Tryz.isAgg216
 z76:=Tryz.sizeOf216
 v76:=Tryz.zeroValue216
 t77:=Tryz.underlying217
 a77:=Tryz.isAgg217
 z77:=Tryz.sizeOf217
 v77:=Tryz.zeroValue217 }
open Go.RowKit Go.Sort
theorem qG(x y:Int):ltOf vu x y=(decide (iY x<iY y) || (decide (iY x=iY y)&&decide (x<y))):=by
 unfold ltOf vu QH kI;by_cases h1:iY x<iY y
 ·simp[h1]
 ·by_cases h2:iY y<iY x
  ·simp[h1,h2];omega
  ·have J:iY x=iY y:=by omega
   by_cases h4:x<y
   ·simp[J,h4]
   ·by_cases h5:y<x<;>simp[J,h4,h5]
theorem aku:SWO (ltOf vu) where
 irrefl x:=by rw[qG];simp
 trans x y z h1 J:=by rw[qG]at *;simp only[dI,ax,qam]at *;omega
 ntrans x y z h1 J:=by rw[qG]at *;simp only[dw,Bool.and_eq_false_iff,decide_eq_false_iff_not]at *;omega
theorem XU(g off size:Nat)(w:World):CmpLays1 Tryz.prog 157 #[] (Value.int .i64) vu g off size w:=
 fun m os dk _ x y=>(Gl _ x y).mono fun e w' ⟨he,hw⟩=>⟨he,0,#[.cells #[.int .i64 (kI (iY x) (iY y)), .int .i64 (kI x y)] 3],by rw[hw,alloc_eq_grow];rfl⟩
end
section
open Go.RowKit Go.Shelf Go.Sort
theorem T7(w:World)(A:Option Addr)(c:Nat)(xs:List Int)(h:Rd w A xs)(hn:A=none->c=0)(hlen:xs.length<17592186044416):
  Calls Tryz.prog 154 #[.slice A xs.length c] w fun e w'=>∃A' c',e= .returned (.slice A' xs.length c')/\Ints w' A' c' xs/\(∀k,k∈ao A'->w.heap.size<=k)/\Fr [] w w':=by
 cases A with
 |none=>
  have h0:xs.length=0:=by
   rcases Nat.eq_zero_or_pos xs.length with h5 |h5
   ·exact h5
   ·obtain⟨b,o,hA,_⟩:=h h5;cases hA
  obtain rfl :xs=[]:=aX h0;obtain rfl :=hn rfl;have he:∀w:World,(binOp .eql 22 (.slice none 0 0) (.slice none 0 0)).run Tryz.prog w= .ok (.bool true) w:=fun w=>Lib.run_eql_slice_nil w _ _ _ _ _ _ _ Tryz.underlying22;have e0:([]:List Int).length=0:=rfl;rw[e0];clear h hn h0;go_enter Tryz.func154,Tryz.ntmps154;go_wp2;go_ret;exact⟨none,0,rfl,Ints.nil _,by simp[ao],Fr.refl _ _⟩
 |some ad=>
  have he:∀w:World,(binOp .eql 22 (.slice (some ad) xs.length c) (.slice none 0 0)).run Tryz.prog w= .ok (.bool false) w:=fun w=>Lib.run_eql_slice_nil w _ _ _ _ _ _ _ Tryz.underlying22;have HC:aj (∀j:Nat,∀y,xs[j]? =some y->(w.alloc (.cells #[] 3)).cell? (ad.add j)=some (.int .i64 y)):=fun j y J=>by have hj:=(mX.1 J).1;obtain⟨b,o,hA,hx⟩:=h (by omega);cases hA;have :=(aR w (.cells #[] 3)).aF (hx j hj);rw[aa,J]at this;rw[dQ];simpa using this
  clear h hn;go_enter Tryz.func154,Tryz.ntmps154;go_wp2_with (at_builtin;(refine jS _ rfl _ _ 22 rfl 3 (.int .i64 0) 1 8 Tryz.underlying22 nh rfl (by decide) (some ⟨w.heap.size,0,none⟩) 0 0 rfl [] ?dD ad xs.length c rfl (xs.map (Value.int .i64)) (by simp) ?mG (by simp[Value.oneCell']) (by unfold maxLen;omega) (by omega) ?_;(case dD=>exact World.ownsRow_lit w #[] 0 (aU _) (by simp[maxLen]) (by simp));(case mG=>intro jj u hu;simp only[aZ,Option.map_eq_some_iff]at hu;obtain⟨y,J,rfl⟩:=hu;exact HC.o jj y J);intro A2 cap w2 oQ cE fu jB Bg Ex;have HI:=ae oQ;have df:=ae cE;have qT:=ae fu;have Mf:=ae Bg;clear oQ cE fu jB Bg Ex))
  go_ret;refine⟨A2,cap,by simp,?_,fun k hk=> ?_,?_⟩
  ·have :=HI.o;unfold Ints;simpa using this
  ·rcases qT.o k hk with h |h
   ·simp[ao]at h;omega
   ·rw[h];simp
  ·exact((Fr.refl [] w).alloc _).trans df.o (fun k hk=> .inr (by simp[ao]at hk;omega))
def lE(xs:List Int):List Int:=xs.mergeSort fun x y=> !(ltOf vu) y x
theorem Cb(x y:Int)(h1:ltOf vu x y=false)(J:ltOf vu y x=false):x=y:=by rw[qG]at *;simp only[dw,Bool.and_eq_false_iff,decide_eq_false_iff_not]at *;omega
theorem AW(w:World)(g n:Nat)(d:Array Int)(os:Array Obj)(cur:Array Value)(J:w.heap[g]? =some (.cells cur 3 (0,0))):(sortWorld (Value.int .i64) w g 0 n d os).heap[g]? =some (.cells (putCells (Value.int .i64) 0 d cur) 3 (0,0)):=by have bt:=(Array.getElem?_eq_some_iff.1 J).1;unfold sortWorld grow putRow mapBlock Sort.ahead;simp only;rw[Array.getElem?_append_left (by simpa using bt),Array.getElem?_modify,qai rfl,J];rfl
theorem DB(w:World)(g n:Nat)(d:Array Int)(os:Array Obj):Fr [g] w (sortWorld (Value.int .i64) w g 0 n d os):=by unfold sortWorld grow putRow mapBlock Sort.ahead;refine⟨rfl,rfl,rfl,by simp,fun k hk J=> ?_⟩;simp only;rw[Array.getElem?_append_left (by simpa using hk),Array.getElem?_modify,qah (fun e=>J (by simp[e]))]
theorem Lv:∀args w,(callFunc 157 args).run Tryz.prog w= .ok (.enter 157 args) w:=enters_of Tryz.func157 (by kernel_rfl) rfl
theorem JF(w:World)(g c:Nat)(xs:List Int)(h:Ints w (some ⟨g,0,none⟩) c xs)(hl:xs.length<=17592186044416):
  Calls Tryz.prog 156 #[.slice (some ⟨g,0,none⟩) xs.length c, .func (.func 157) #[] #[]] w fun e w'=>e= .returned (.tuple #[])/\Ints w' (some ⟨g,0,none⟩) c (lE xs)/\Fr [g] w w':=by
 have bt:g<w.heap.size:=(World.ownsRow.lt h g rfl).2;have hH:Holds (Value.int .i64) w g 0 xs.toArray:=fun j hj=>by
  have J:j<xs.length:=by simpa using hj
  rw[dd];refine⟨?_,h.frozen j⟩;rw[h.cell J];simp[J]
 have xN:=Any.slices_SortFunc_total YX (Value.int .i64) (fun _=>rfl) vu aku 157 #[] g 0 c xs.toArray w Lv (XU g 0 xs.toArray.size w) hH bt (by simp;omega) Cb
 change Calls Tryz.prog 156 _ _ _ at xN
 have nM:xs.toArray.size=xs.length:=by simp
 rw[nM]at xN;refine xN.mono ?_;rintro e w' ⟨rfl,n,os,rfl⟩;have hm:(xs.toArray.toList.mergeSort fun x y=> !(ltOf vu) y x)=lE xs:=rfl;rw[hm];have Jg:(lE xs).length=xs.length:=List.length_mergeSort _;refine⟨rfl,?_,DB w g n _ os⟩;rcases h.2 with⟨h1,_⟩ |⟨g',cap,cur,hv,hb,hg,hn,hm,ar,ht⟩
 ·cases h1
 ·simp only[Value.slice.injEq,Option.some.injEq,Addr.mk.injEq,and_true,true_and]at hv;obtain⟨rfl,rfl⟩:=hv;refine⟨by simp, .inr ⟨g,c,_,rfl,hb,AW w g n _ os cur hg,by rw[Jg];exact hn,hm,by simp[putCells,ar],?_⟩⟩;apply List.ext_getElem?;intro k;rw[j9,Jg];have kF:cur.size=c:=by omega
  by_cases hk:k<xs.length
  ·rw[List.getElem?_take,qai hk];have ab:k<cur.size:=by omega
   have ad:k<(lE xs).length:=by omega
   simp[putCells,ab,ad]
  ·rw[List.getElem?_take,qah hk,iZ (by rw[aG,Jg];omega)]
theorem Rz(w:World)(A:Option Addr)(c:Nat)(xs:List Int)(h:Ints w A c xs)(hl:xs.length<=17592186044416):
  Calls Tryz.prog 156 #[.slice A xs.length c, .func (.func 157) #[] #[]] w fun e w'=>e= .returned (.tuple #[])/\Ints w' A c (lE xs)/\Fr (ao A) w w':=by
 rcases h.form with⟨rfl,rfl,rfl⟩ |⟨g,rfl,_⟩
 ·have J:=AnyF.slices_SortFunc_none { YX with } none 0 (.func (.func 157) #[] #[]) w
  change Calls Tryz.prog 156 _ _ _ at J
  refine J.mono ?_;rintro e w' ⟨rfl,rfl⟩;refine⟨rfl,?_,Fr.refl _ _⟩;have :lE []=[]:=aX (List.length_mergeSort _);rw[this];exact h
 ·exact(JF w g c xs h hl).mono fun e w' ⟨he,h1,h2⟩=>⟨he,h1,by simpa[ao]using h2⟩
theorem Im(xs:List Int):∀k,(ix xs k).length<=k
 |0=>by simp[ix]
 |k+1=>by
  have :=Im xs k;rw[ix];split
  ·simp;omega
  ·omega
def nrm(xs:List Int):List Int:=XQ (lE (xs.filter fun x=> !(x==0)))
theorem DV(xs:List Int):(nrm xs).length<=xs.length:=by have h1:(nrm xs).length<=(lE (xs.filter fun x=> !(x==0))).length:=Im _ _;have J:(lE (xs.filter fun x=> !(x==0))).length=(xs.filter fun x=> !(x==0)).length:=List.length_mergeSort _;have h3:=List.length_filter_le (fun x=> !(x==0)) xs;omega
theorem zW(xs:List Int):∀k,k<=xs.length->∀x∈ix xs k,x∈xs
 |0,_,x,h=>by simp[ix]at h
 |k+1,hk,x,h=>by
  rw[ix]at h;split at h
  ·rcases ah.1 h with h |h
   ·exact zW xs k (by omega) x h
   ·rw[ag.1 h];exact bk (l:=xs) (k:=k) (by omega)
  ·exact zW xs k (by omega) x h
theorem o8{xs:List Int}{x:Int}(h:x∈nrm xs):x∈xs/\x≠0:=by have h1:=zW _ _ (aq _) x h;have J:x∈xs.filter fun x=> !(x==0):=List.mem_mergeSort.1 h1;rw[gh]at J;exact⟨J.1,by simpa using J.2⟩
def nE(J:List Int)(j:Nat):Bool:=J[j]! ==wrap64 (-(J[j+1]!))
def se(J:List Int):Bool:=(List.range (J.length-1)).any (nE J)
def Uq(xs:List Int)(w:World)(e:Ending)(w':World):Prop:=∃(A:Option Addr)(c:Nat),e= .returned (.tuple #[.slice A (nrm xs).length c, .bool (se (nrm xs))])/\Ints w' A c (nrm xs)/\(∀k,k∈ao A->w.heap.size<=k)/\Fr [] w w'
theorem Gn(W:World)(x:Int):Calls Tryz.prog 155 #[.int .i64 x] W fun e w'=>e= .returned (.bool (x==0))/\Fr [] W w':=by go_enter Tryz.func155,Tryz.ntmps155;go_wp2;go_ret;exact⟨rfl,Fr.refl _ _⟩
theorem EK:∀args w,(callFunc 155 args).run Tryz.prog w= .ok (.enter 155 args) w:=enters_of Tryz.func155 (by kernel_rfl) rfl
theorem JT(w:World)(A:Option Addr)(c:Nat)(xs:List Int)(h:Rd w A xs)(hr:Ra xs)(hl:xs.length<=1048576)(hn:A=none->c=0):
  Calls Tryz.prog 124 #[.slice A xs.length c] w (Uq xs w):=by
 have I1:=ae (T7 w A c xs h hn (by omega));have HR:=ae hr;clear h hr hn;go_enter Tryz.func124,Tryz.ntmps124;go_wp2_with fail;refine I1.o.mono ?_;rintro e w1 ⟨A1,c1,rfl,ho,hb,di⟩;have FB:=ae (zU w1 A1 c1 xs 155 #[] (fun x=>x==0) EK ho HR.o (by omega) (fun W hW x _ _=>Gn W x));have HB:=ae hb;have dZ:=ae di;clear ho hb di I1;go_wp2_with fail;refine FB.o.mono ?_;rintro e w2 ⟨rfl,ho,hf⟩;have aM:=List.length_filter_le (fun x:Int=> !(x==0)) xs;have HS:=ae (Rz w2 A1 c1 (xs.filter fun x=> !(x==0)) ho (by omega));have df:aj (Fr [] w w2):=dZ.o.trans hf (fun x hx=> .inr (HB.o x hx));have yl:(lE (xs.filter fun x=> !(x==0))).length=(xs.filter fun x=> !(x==0)).length:=List.length_mergeSort _;have Qp:=ae yl;clear FB dZ hf ho yl;go_wp2_with fail;refine HS.o.mono ?_;rintro e w3 ⟨rfl,ho,hf⟩;have aB:Ra (lE (xs.filter fun x=> !(x==0))):=Ra.sub HR.o (fun y hy=>(gh.1 (List.mem_mergeSort.1 hy)).1);have HC:=ae (Io w3 A1 c1 (lE (xs.filter fun x=> !(x==0))) ho aB (by rw[Qp.o];omega));rw[Qp.o]at HC;have dG:aj (Fr [] w w3):=df.o.trans hf (fun x hx=> .inr (HB.o x hx));clear HS df hf ho aB aM;go_wp2_with fail;refine HC.o.mono ?_;rintro e w4 ⟨rfl,ho,hf⟩;have ic:aj (Fr [] w w4):=dG.o.trans hf (fun x hx=> .inr (HB.o x hx));obtain⟨J,QL⟩:∃J,XQ (lE (xs.filter fun x=> !(x==0)))=J:=⟨_,rfl⟩
 have ab:nrm xs=J:=QL;have a1:J.length<=xs.length:=by rw[<-ab];exact DV xs
 have ad:aj (Ra J):=Ra.sub HR.o (fun y hy=>(o8 (by rw[ab];exact hy)).1);rw[QL]at ho⊢;have HO:=ae ho;have xk:aj (∀q W,Fr [] w4 W->se J=q->Uq xs w (.returned (.tuple #[.slice A1 J.length c1, .bool q])) W):=fun q W hW hq=>by unfold Uq;rw[ab];exact⟨A1,c1,by rw[hq],HO.o.fY hW,HB.o,ic.o.ak hW⟩
 clear HC dG hf ho QL ab;go_wp2_with fail;go_loopg [16] J.length (fun g i wr=>∃k:Nat,k+g=J.length/\i= .int .i64 k/\aj (∀j:Nat,j+1<k->nE J j=false)/\Fr [] w4 wr);case atStart=>exact⟨0,by omega,rfl,fun j hj=>absurd hj (aD _),Fr.refl _ _⟩
 case round=>
  obtain⟨k,hk,rfl,Ql,hf⟩:=hrel;have HK:=ae hk;have HF:=ae hf;have iS:k<=J.length:=by omega
  clear hk hf;by_cases bt:k<J.length
  ·obtain⟨b,o,x,hA,he,cx,gU,jn⟩:=(HO.o.fY HF.o).rd.one ad.o bt;subst hA;cases k with
   |zero=>
    rw[Nat.add_zero]at cx;go_wp2;go_roundg (gk-1);case measure=>have :=HK.o;omega
    case rel=>exact⟨1,by have :=HK.o;omega,by go_num,fun j hj=>absurd hj (by omega),HF.o⟩
   |succ j=>
    obtain⟨b',o',x',yp,fj,Jm,OT,aT⟩:=(HO.o.fY HF.o).rd.one ad.o (j:=j) (by omega);simp only[Option.some.injEq,Addr.mk.injEq,and_true]at yp;obtain⟨rfl,rfl⟩:=yp;obtain⟨q,hq⟩:∃q:Bool,(x'==wrap64 (-x))=q:=⟨(x'==wrap64 (-x)),rfl⟩
    have Vi:nE J j=q:=by unfold nE;rw[he.o,fj.o];exact hq
    have ar:=ae Vi;clear Vi;cases q with
    |true=>
     have YY:=ae (xk.o true wr HF.o (by unfold se;rw[cP];exact⟨j,bl.2 (by omega),ar.o⟩));go_wp2;go_ret2;exact YY.o
    |false=>
     have aK:aj (∀i:Nat,i+1<j+1+1->nE J i=false):=fun i hi=>by
      by_cases e:i=j
      ·rw[e];exact ar.o
      ·exact Ql.o i (by omega)
     go_wp2;go_roundg (gk-1);case measure=>have :=HK.o;omega
     case rel=>exact⟨j+1+1,by have :=HK.o;omega,by go_num,aK.o,HF.o⟩
  ·have YY:=ae (xk.o false wr HF.o (by unfold se;rw[List.any_eq_false];intro j hj;rw[bl]at hj;rw[Ql.o j (by omega)];simp));clear HK;go_wp2;go_ret2;exact YY.o
end
section
open Go.RowKit
namespace Sv
def iD(S:Sv)(out:List Int):Sv:=if out.length=0 then{ S with bad:=true }else if out.length=1 then S.put out[0]! 0 else S.attach out false
def leftOf(S:Sv)(out:List Int):List Int:=out.filter fun x=> !decide (S.val x<0)
def oe(S:Sv)(out:List Int):Bool:=se out ||out.any fun x=>decide (0<S.val x)
def fD(S:Sv)(l:List Int):Sv×Int:=
 if lX S.vars l=0 then(if S.oe (nrm l)=true then S.a7 else S.a7.iD (S.leftOf (nrm l)),0)else(S,lX S.vars l)
theorem uE{vars:Nat}{l:List Int}(hr:Ra l)(h:lX vars l=0):l.length<=1024/\∀x∈l,x≠0/\ -(vars:Int)<=x/\x<=vars:=by
 unfold lX at h;split at h
 ·omega
 ·split at h
  ·omega
  ·rename_i h1 J;refine⟨by omega,fun x hx=> ?_⟩;have h3:jW vars x=false:=by
    rw[cP]at J;cases h4:jW vars x with
    |false=>rfl
    |true=>exact absurd ⟨x,hx,h4⟩ J
   unfold jW at h3;simp only[dw,decide_eq_false_iff_not]at h3;have h5:=JC ((fR (p:=eJ)).1 hr x hx);refine⟨Dn (by omega),by omega,by omega⟩
theorem Ok.iD{S:Sv}(ok:S.Ok 0){out:List Int}(h1:out.length<=1048576)(hl:∀x∈out,x≠0/\ -(S.vars:Int)<=x/\x<=S.vars)(hr:S.list.length<2199023255552):(S.iD out).Ok 0/\(S.iD out).vars=S.vars:=by
 unfold Sv.iD;split
 ·exact⟨ok.DE true,rfl⟩
 ·split
  ·exact⟨ok.put ⟨by omega,by omega⟩,rfl⟩
  ·exact⟨ok.attach ⟨by omega,h1,hl⟩ false hr,(du _ out false).2.1⟩
theorem qD{S:Sv}{l:List Int}(hr:Ra l)(h:lX S.vars l=0):(S.leftOf (nrm l)).length<=1024/\∀x∈S.leftOf (nrm l),x≠0/\ -(S.vars:Int)<=x/\x<=S.vars:=by obtain⟨h1,h2⟩:=uE hr h;have h3:=DV l;have h4:=List.length_filter_le (fun x=> !decide (S.val x<0)) (nrm l);refine⟨by unfold leftOf;omega,fun x J=> ?_⟩;unfold leftOf at J;exact h2 x (o8 (gh.1 J).1).1
theorem Ok.fD{S:Sv}(ok:S.Ok 0){l:List Int}(kQ:Ra l)(hr:S.list.length<2199023255552):(S.fD l).1.Ok 0/\(S.fD l).1.vars=S.vars:=by
 unfold Sv.fD;split
 ·rename_i h;split
  ·exact⟨ok.a7,rfl⟩
  ·obtain⟨h1,J⟩:=qD (S:=S) kQ h;exact Ok.iD (S:=S.a7) ok.a7 (by omega) J hr
 ·exact⟨ok,rfl⟩
end Sv
theorem LQ(W:World)(b:Nat)(L:aO)(S:Sv)(h:bh W L S)(ok:S.Ok 0)(hb:W.cell? ⟨b,0,none⟩=some (.pointer (some ⟨L.a,0,none⟩)))(x:Int)(hx:eJ x):
  Calls Tryz.prog 125 #[.int .i64 x, .pointer (some ⟨b,0,none⟩)] W fun e w'=>e= .returned (.bool (decide (0<S.val x)))/\Fr [] W w':=by
 have c0:=h.cells.1;have KV:=ae (eN W L.tL S.T h.tr x hx.1 hx.2 ok.small);obtain⟨v,J⟩:∃v,S.T.mQ x=v:=⟨_,rfl⟩
 rw[J]at KV;have e:decide (0<S.val x)=decide (0<v):=by unfold Sv.val;rw[J]
 rw[e];clear h ok J e;go_enter Tryz.func125,Tryz.ntmps125;go_wp2_with fail;refine KV.o.mono ?_;rintro e w1 ⟨rfl,rfl⟩;go_wp2;go_ret;exact⟨rfl,Fr.refl _ _⟩
theorem LP(W:World)(b:Nat)(L:aO)(S:Sv)(h:bh W L S)(ok:S.Ok 0)(hb:W.cell? ⟨b,0,none⟩=some (.pointer (some ⟨L.a,0,none⟩)))(x:Int)(hx:eJ x):
  Calls Tryz.prog 128 #[.int .i64 x, .pointer (some ⟨b,0,none⟩)] W fun e w'=>e= .returned (.bool (decide (S.val x<0)))/\Fr [] W w':=by
 have c0:=h.cells.1;have KV:=ae (eN W L.tL S.T h.tr x hx.1 hx.2 ok.small);obtain⟨v,J⟩:∃v,S.T.mQ x=v:=⟨_,rfl⟩
 rw[J]at KV;have e:decide (S.val x<0)=decide (v<0):=by unfold Sv.val;rw[J]
 rw[e];clear h ok J e;go_enter Tryz.func128,Tryz.ntmps128;go_wp2_with fail;refine KV.o.mono ?_;rintro e w1 ⟨rfl,rfl⟩;go_wp2;go_ret;exact⟨rfl,Fr.refl _ _⟩
theorem Ii:∀args w,(callFunc 125 args).run Tryz.prog w= .ok (.enter 125 args) w:=enters_of Tryz.func125 (by kernel_rfl) rfl
theorem Ih:∀args w,(callFunc 128 args).run Tryz.prog w= .ok (.enter 128 args) w:=enters_of Tryz.func128 (by kernel_rfl) rfl
theorem P8(w:World)(L:aO)(S:Sv)(h:bh w L S)(ok:S.Ok 0)(A:Option Addr)(c:Nat)(l:List Int)(sP:IP w L A l)(kQ:Ra l)(hn:A=none->c=0)(hr:S.list.length<2199023255552)(hu:S.used<=2199023255552):
  Calls Tryz.prog 96 #[.pointer (some ⟨L.a,0,none⟩), .slice A l.length c] w (pB (.int .i64 (S.fD l).2) (S.fD l).1 L w):=by
 obtain⟨eH,eB⟩:∃eH,S.fD l=eH:=⟨_,rfl⟩
 rw[eB];have gd:=ae eB;obtain⟨w1,eo⟩:∃w1,w.alloc (.cells #[.pointer (some ⟨L.a,0,none⟩)] 78)=w1:=⟨_,rfl⟩
 have ib:aj (Fr [] w w1):=by rw[<-eo];exact aR _ _
 have nX:w1.cell? ⟨w.heap.size,0,none⟩=some (.pointer (some ⟨L.a,0,none⟩)):=by rw[<-eo];exact(At.new w _ _).cell 0
 have uS:=ae nX;obtain⟨L1,xP⟩:∃L1,L.shut w=L1:=⟨_,rfl⟩
 have H1:aj (bh w1 L1 S):=by rw[<-xP];exact h.shut.keep ib.o
 have fH:aj (L.ext L1 w):=by rw[<-xP];exact L.og w
 have Yy:aj (∀k,w.heap.size<=k->(L1.dh k).1≠L1.id):=fun k hk=>by rw[<-xP];exact aO.ja hk
 have dZ:aj (Fr (L.own w) w w1):=ib.o.mono (fun k hk=>by cases hk);have tz:aj (IP w1 L1 A l):=⟨sP.1.keep ib.o,fun h0=>EJ fH.o (sP.2 h0) (fun k hk=>sP.1.blk h0 k hk)⟩
 have lh:=ae ok;have tf:=ae kQ;have HN:=ae hn;have rY:=ae hr;have HU:=ae hu;have KM:=ae (my w1 L1 S H1.o);have KC:=ae (kT w1 (S.vars:Int) A c l tz.o.1 kQ);have nW:L1.a=L.a:=fH.o.1;rw[nW]at KM;obtain⟨-,-,c2,-⟩:=H1.o.cells;rw[nW]at c2;obtain⟨ck,Jh⟩:∃ck,lX (S.vars:Int) l=ck:=⟨_,rfl⟩
 rw[Jh]at KC;have I3:=ae Jh;clear h ok sP kQ hn hr hu xP eB Jh;go_enter Tryz.func96,Tryz.ntmps96;go_upto_region 1 with fail;clear eo;go_wp2_with fail;refine KM.o.mono ?_;clear KM;rintro e w2 ⟨rfl,rfl⟩;go_wp2_with fail;refine KC.o.mono ?_;clear KC c2;rintro e w2 ⟨rfl,cE⟩;have df:=ae cE;have H2:=ae (H1.o.keep cE);have AP:=ae (tz.o.keep cE);have nX:=cE.aF uS.o;have a1:=ae nX;have YJ:aj (Fr (L.own w) w w2):=dZ.o.ak (cE.mono (fun k hk=>by cases hk));clear cE;by_cases He:ck=0
 ·have hd:(ck==(0:Int))=true:=by simp[He]
  have XB:lX (S.vars:Int) l=0:=by rw[I3.o];exact He
  have bg:=ae (Sv.uE tf.o XB);have YD:=ae (Sv.qD (S:=S) tf.o XB);have nY:aj (eH=(if S.oe (nrm l)=true then S.a7 else S.a7.iD (S.leftOf (nrm l)),0)):=by rw[<-gd.o];unfold Sv.fD;rw[qai XB];rfl
  have f14:=H2.o.obj.frozen 14;have f7:=H2.o.obj.frozen 7;obtain⟨-,-,-,-,-,-,-,c7,-,-,-,-,-,-,NS⟩:=H2.o.cells;rw[nW]at f14 f7 c7 NS;obtain⟨L3,h3,xL,dN⟩:=H2.o.a7;rw[nW]at h3 dN;have Rb:=ae h3;have YM:=ae xL;have UX:=ae dN;clear h3 xL dN XB;go_wp2;go_region;obtain⟨w3,ow⟩:∃w3,((w2.setCell ⟨L.a,14,none⟩ (.bool false)).setCell ⟨L.a,7,none⟩ (.slice none 0 0)).drew=w3:=⟨_,rfl⟩
  rw[ow]at Rb UX⊢;have H3:=Rb;have jt:aj (L.ext L3 w):=aO.a6 fH.o YM.o YJ.o.size;have dG:aj (Fr (L.own w) w w3):=aO.aQ fH.o YJ.o UX.o;have IW:aj (IP w3 L3 A l):=AP.o.step YM.o UX.o;have xp:aj (w.heap.size∉L1.own w2):=aO.o9 (Yy.o _ (aq _));have xO:=UX.o.bF xp.o a1.o;have Mu:=ae xO;have b2:aj (∀k,w.heap.size<=k->k<w2.heap.size->(L3.dh k).1≠L3.id):=fun k hk sR e=>Yy.o k hk (YM.o.2.2 k sR (e.trans YM.o.2.1));have nZ:=ae lh.o.a7;have zt:w.heap.size<w2.heap.size:=bR a1.o;have b4:=ae zt
  --from here on cb is new is ca
  obtain⟨L4,Nz⟩:∃L4,L3.shut w3=L4:=⟨_,rfl⟩
  have H4:aj (bh w3 L4 S.a7):=by rw[<-Nz];exact H3.o.shut
  have yD:aj (L.ext L4 w):=by rw[<-Nz];exact aO.a6 jt.o (L3.og w3) dG.o.size
  have b1:aj (∀k,w3.heap.size<=k->(L4.dh k).1≠L4.id):=fun k hk=>by rw[<-Nz];exact aO.ja hk
  have cc:aj ((L4.dh w.heap.size).1≠L4.id):=by show _≠_;rw[<-Nz,aO.yR (bR Mu.o)];exact b2.o _ (aq _) b4.o
  have KN:=ae (JT w3 A c l IW.o.1 tf.o (by have :=bg.o.1;omega) HN.o);have Jf:L4.a=L.a:=yD.o.1;clear ow nX c7 NS f7 f14 Rb UX Nz zt H2 AP a1 YJ xp xO;go_wp2_with fail;refine KN.o.mono ?_;clear KN;rintro e w4 ⟨A4,c4,rfl,u0,bI,fG⟩;obtain⟨out,WR⟩:∃out,nrm l=out:=⟨_,rfl⟩
  rw[WR]at u0;rw[WR];have Yv:=ae WR;have Z2:aj (Ra out):=Ra.sub tf.o (fun y hy=>(o8 (by rw[Yv.o];exact hy)).1);have FA:aj (out.length<=1024):=by have h5:=DV l;rw[Yv.o]at h5;have :=bg.o.1;show _<=_;omega
  have bS:=ae u0;have ad:=ae bI;have ic:=ae fG;have H5:=ae (H4.o.keep fG);have bt:=ae (fG.aF Mu.o);have bG:aj (Fr (L.own w) w w4):=dG.o.ak (fG.mono (fun k hk=>by cases hk));obtain⟨tb,ab⟩:∃tb,se out=tb:=⟨_,rfl⟩
  rw[ab];have b9:=ae ab;have J:=nY.o;unfold Sv.oe at J;rw[Yv.o,ab]at J;have E9:=ae (jh w4 A4 c4 out 125 #[.pointer (some ⟨w.heap.size,0,none⟩)] (fun x=>decide (0<S.val x)) Ii u0.rd Z2.o (by have :=FA.o;omega) (fun W hW x _ hx=>LQ W w.heap.size L4 S.a7 (H5.o.keep hW) nZ.o (by rw[Jf];exact hW.aF bt.o) x hx));clear u0 bI fG WR ab;cases tb with
  |true=>
   rw[Bool.true_or,qai rfl]at J;have FF:aj (pB (.int .i64 eH.2) eH.1 L w (.returned (.int .i64 0)) w4):=by rw[J];exact⟨rfl,L4,H5.o,yD.o,bG.o⟩
   clear J E9;go_wp2;go_ret;exact FF.o
  |false=>
   rw[Bool.false_or]at J;obtain⟨p,hp⟩:∃p,(out.any fun x=>decide (0<S.val x))=p:=⟨_,rfl⟩
   rw[hp]at E9 J;have aB:=ae J;clear hp J;go_wp2_with fail;refine E9.o.mono ?_;clear E9;rintro e w5 ⟨rfl,fT⟩;have H6:=ae (H5.o.keep fT);have b0:=ae (bS.o.fY fT);have bo:=ae (fT.aF bt.o);have bB:aj (Fr (L.own w) w w5):=bG.o.ak (fT.mono (fun k hk=>by cases hk));have cf:aj (w3.heap.size<=w5.heap.size):=aE ic.o.size fT.size;clear fT;cases p with
   |true=>
    have J:=aB.o;rw[qai rfl]at J;have FF:aj (pB (.int .i64 eH.2) eH.1 L w (.returned (.int .i64 0)) w5):=by rw[J];exact⟨rfl,L4,H6.o,yD.o,bB.o⟩
    clear J;go_wp2;go_ret;exact FF.o
   |false=>
    have J:=aB.o;rw[qah (by simp)]at J;have b6:=ae J;clear J aB;have bb:aj (w.heap.size∉ao A4):=fun hm=>by have h5:=ad.o _ hm;have h6:w.heap.size<w3.heap.size:=bR Mu.o;omega
    have UZ:aj (∀k,k∈ao A4->(L4.dh k).1≠L4.id):=fun k hk=>b1.o k (ad.o k hk);have Ux:=ae (zU w5 A4 c4 out 128 #[.pointer (some ⟨w.heap.size,0,none⟩)] (fun x=>decide (S.val x<0)) Ih b0.o Z2.o (by have :=FA.o;omega) (fun W hW x _ hx=>LP W w.heap.size L4 S.a7 (H6.o.fr hW (fun k hk _=>UZ.o k hk)) nZ.o (by rw[Jf];exact hW.bF bb.o bo.o) x hx));go_wp2_with fail;refine Ux.o.mono ?_;clear Ux;rintro e w6 ⟨rfl,Vl,gQ⟩;have ba:S.leftOf out=out.filter fun x=> !decide (S.val x<0):=rfl;rw[<-ba]at Vl;rw[<-ba];obtain⟨ys,QL⟩:∃ys,S.leftOf out=ys:=⟨_,rfl⟩
    have ar:aj (ys.length<=1024/\∀x∈ys,x≠0/\ -(S.vars:Int)<=x/\x<=S.vars):=by have h5:=YD.o;rw[Yv.o,QL]at h5;exact h5
    have J:=b6.o;rw[QL]at Vl J⊢;have H7:=ae (H6.o.fr gQ (fun k hk _=>UZ.o k hk));have Mk:=ae Vl;have bj:=ae (gQ.bF bb.o bo.o);have aK:aj (∀k,k∈ao A4->w.heap.size<=k):=fun k hk=>aE dG.o.size (ad.o k hk);have UW:aj (Fr (L.own w) w w6):=bB.o.trans gQ (fun k hk=> .inr (aK.o k hk));have nY:=ae J;have nX:=bj.o;clear gQ Vl QL ba J;by_cases lf:ys.length=0
    ·have b7:((ys.length:Int)==(0:Int))=true:=(by simp[lf])
     have J:=nY.o;unfold Sv.iD at J;rw[qai lf]at J;have f13:=H7.o.obj.frozen 13;have Ae:=H7.o.cells.2.2.2.2.2.2.2.2.2.2.2.2.2.1;rw[Jf]at f13 Ae;obtain⟨g8,f8⟩:=H7.o.qj 13 (.bool true) { S.a7 with bad:=true } (by simp[qm]) ⟨rfl,rfl,rfl,rfl,rfl,rfl,rfl⟩;rw[Jf]at g8 f8;have FF:aj (pB (.int .i64 eH.2) eH.1 L w (.returned (.int .i64 0)) (w6.setCell ⟨L.a,13,none⟩ (.bool true))):=by rw[J];exact⟨rfl,L4,g8,yD.o,aO.aQ yD.o UW.o f8⟩
     clear J g8 f8;go_wp2;go_ret;exact FF.o
    ·have b7:((ys.length:Int)==(0:Int))=false:=by rw[aab];omega
     by_cases iO:ys.length=1
     ·have Fs:((ys.length:Int)==(1:Int))=true:=(by simp[iO])
      have J:=nY.o;unfold Sv.iD at J;rw[qah lf,qai iO]at J;obtain⟨ga,rB,wX⟩:=Mk.o.pos (i:=0) (by omega);subst rB;have s1:=Mk.o.cell (i:=0) (by omega);have s0:=H7.o.cells.1;rw[Jf]at s0;obtain⟨y,hy⟩:∃y,ys[0]! =y:=⟨_,rfl⟩
      rw[hy]at s1 J;have Vg:=ar.o.2 y (by rw[<-hy];exact get_mem (l:=ys) (i:=0) (by omega));obtain⟨-,WD,b3⟩:=Vg;have vZ:=ae s0;have pX:=ae s1;have KP:=ae (fun W (hW:Fr [] w6 W)=>ol W L4 S.a7 (H7.o.keep hW) 0 nZ.o y 0 WD b3);have ch:0<ys.length:=(by omega)
      have Mb:=ae J;clear J hy s0 s1;go_wp2_with fail;go_upto_region 16 with fail;refine qan ?_;refine bw (fun w':World=>Fr [] w6 w') 7 (by kernel_rfl) ((Fr.refl [] w6).drew) (fun dy=> ?_);refine oI 7 [(0,[0,1,2,3,7]),(1,[]),(2,[]),(3,[3,7]),(4,[]),(5,[]),(6,[6,7])] dy (fun w bT=>And.intro (bT.aF bj.o) (And.intro (bT.aF vZ.o) (bT.aF pX.o))) ?_;intro dy;refine R2 7 dy fun K hK aM=> ?_
      (go_simp;refine(KP.o _ aM).mono ?_;rintro e w8 ⟨⟨x8,rfl⟩,L8,h8,Xv,kc⟩;dsimp only)
      refine hK.out _ _ (.inl rfl) (fun Lo=> ?_);clear hK K;try simp only[Act.put,q5,q6,q7]
      refine fO ?_;clear KP;have FF:aj (pB (.int .i64 eH.2) eH.1 L w (.returned (.int .i64 0)) w8):=by rw[Mb.o];exact⟨rfl,L8,h8,aO.a6 yD.o Xv (aE UW.o.size aM.size),aO.aQ yD.o (UW.o.ak (aM.mono (fun k hk=>by cases hk))) kc⟩
      clear h8 Xv kc;go_wp2;go_ret;exact FF.o
     ·have Fs:((ys.length:Int)==(1:Int))=false:=by rw[aab];omega
      have J:=nY.o;unfold Sv.iD at J;rw[qah lf,qah iO]at J;have b5:=ae J;clear J;have Mn:aj (S.a7.Fits ys):=⟨by omega,by have :=ar.o.1;omega,ar.o.2⟩
      have aT:=ae (uH w6 L4 S.a7 H7.o 0 nZ.o A4 c4 ys false Mk.o Mn.o UZ.o rY.o HU.o);rw[Jf]at aT;clear lf iO;go_wp2_with fail;refine aT.o.mono ?_;clear aT;rintro e w8 ⟨rfl,L8,h8,tt,Nr,bO,kc,-,-⟩;have FF:aj (pB (.int .i64 eH.2) eH.1 L w (.returned (.int .i64 0)) w8):=by rw[b5.o];exact⟨rfl,L8,h8,aO.TX yD.o tt Nr bO UW.o.size aK.o,aO.DT yD.o UW.o kc aK.o⟩
      clear h8 tt Nr bO kc;go_wp2;go_ret;exact FF.o
 ·have hd:(ck==(0:Int))=false:=by simp[He]
  have nY:aj (eH=(S,ck)):=by rw[<-gd.o];unfold Sv.fD;rw[I3.o,qah He];rfl
  have FF:aj (pB (.int .i64 eH.2) eH.1 L w (.returned (.int .i64 ck)) w2):=by rw[nY.o];exact⟨rfl,L1,H2.o,fH.o,YJ.o⟩
  go_wp2;go_ret;exact FF.o
namespace Sv
def qL(S:Sv)(n:Int):Sv×Int×Int:=if n<0\/262143-(S.vars:Int)<n then(S,0,4)else(S.a7.grow n.toNat,S.vars,0)
def FL(S:Sv)(v:Int):Bool:=S.has&&decide (1<=v)&&decide (v<=S.vars)&&S.model[v.toNat]!
end Sv
theorem Hw(w:World)(L:aO)(S:Sv)(h:bh w L S)(ok:S.Ok 0)(n:Int):
  Calls Tryz.prog 94 #[.pointer (some ⟨L.a,0,none⟩), .int .i64 n] w (pB (.tuple #[.int .i64 (S.qL n).2.1, .int .i64 (S.qL n).2.2]) (S.qL n).1 L w):=by
 have lP:=ok.vl;have KM:=ae (my w L S h);have J:=ae h;have lh:=ae ok;obtain⟨-,-,c2,-⟩:=h.cells;have hw:IntKind.i64.wrap (262143-(S.vars:Int))=262143-(S.vars:Int):=IntWalk.i64_in _ (by omega);clear h ok;by_cases h0:n<0
 ·have hd:decide (n<0)=true:=qak h0;have HR:aj (S.qL n=(S,0,4)):=qai (.inl h0);rw[HR.o];have FF:aj (pB (.tuple #[.int .i64 0, .int .i64 4]) S L w (.returned (.tuple #[.int .i64 0, .int .i64 4])) w):=⟨rfl,L,J.o,aO.cw _ _,Fr.refl _ _⟩
  go_enter Tryz.func94,Tryz.ntmps94;go_wp2_with fail;refine KM.o.mono ?_;rintro e w1 ⟨rfl,rfl⟩;go_wp2;go_ret2;exact FF.o
 ·by_cases h1:262143-(S.vars:Int)<n
  ·have hd:decide (n<0)=false:=qaj h0;have HR:aj (S.qL n=(S,0,4)):=qai (.inr h1);rw[HR.o];have FF:aj (pB (.tuple #[.int .i64 0, .int .i64 4]) S L w (.returned (.tuple #[.int .i64 0, .int .i64 4])) w):=⟨rfl,L,J.o,aO.cw _ _,Fr.refl _ _⟩
   go_enter Tryz.func94,Tryz.ntmps94;go_wp2_with fail;refine KM.o.mono ?_;rintro e w1 ⟨rfl,rfl⟩;go_wp2;go_ret2;exact FF.o
  ·have HR:aj (S.qL n=(S.a7.grow n.toNat,(S.vars:Int),0)):=qah (by omega);rw[HR.o];obtain⟨k,rfl⟩:∃k:Nat,n=k:=⟨n.toNat,by omega⟩
   rw[Int.toNat_natCast];have hd:decide ((k:Int)<0)=false:=qaj h0;have hk:(k:Int)<=262143-(S.vars:Int):=by omega
   obtain⟨g1,f1⟩:=J.o.qj 14 (.bool false) { S with has:=false } (by simp[qm]) ⟨rfl,rfl,rfl,rfl,rfl,rfl,rfl⟩;obtain⟨L2,h2,jZ,cE,-⟩:=g1.oZ (F:=[]) (Ints.nil _) (Fr.refl _ _) (fun k hk=>by cases hk) (fun k hk=>by simp[ao]at hk);simp only[List.length_nil]at h2 cE;have f14:=J.o.obj.frozen 14;have f7:=J.o.obj.frozen 7;obtain⟨-,-,-,-,-,-,-,c7,-,-,-,-,-,-,NS⟩:=J.o.cells;have hz:w.heap.size<=(w.setCell ⟨L.a,14,none⟩ (.bool false)).heap.size:=f1.size;have dR:aj (L.ext L2 w):=⟨jZ.1,jZ.2.1,fun k hk e=>jZ.2.2 k (aS hk hz) e⟩
   have df:=ae (aO.aQ (aO.cw L w) f1 cE);have H2:aj (bh ((w.setCell ⟨L.a,14,none⟩ (.bool false)).setCell ⟨L.a,7,none⟩ (.slice none 0 0)) L2 S.a7):=h2;clear g1 f1 h2 jZ cE hz h0 h1;go_enter Tryz.func94,Tryz.ntmps94;go_wp2_with fail;refine KM.o.mono ?_;rintro e w1 ⟨rfl,rfl⟩;go_upto_region 7 with fail;obtain⟨w2,kE⟩:∃w2,(w.setCell ⟨L.a,14,none⟩ (.bool false)).setCell ⟨L.a,7,none⟩ (.slice none 0 0)=w2:=⟨_,rfl⟩
   rw[kE]at H2 df⊢;have KG:=ae (zD w2 L2 S.a7 H2.o lh.o.a7 k (by show S.vars+k<=_;omega));rw[dR.o.1]at KG;clear kE c2 c7 NS f7 f14;go_wp2_with fail;refine KG.o.mono ?_;clear KG;rintro e w3 ⟨rfl,L3,h3,xL,dN⟩;have FF:aj (pB (.tuple #[.int .i64 (S.vars:Int), .int .i64 0]) (S.a7.grow k) L w (.returned (.tuple #[.int .i64 (S.vars:Int), .int .i64 0])) w3):=⟨rfl,L3,h3,aO.a6 dR.o xL df.o.size,aO.aQ dR.o df.o dN⟩
   clear h3 xL dN;go_wp2;go_ret2;exact FF.o
theorem FH(w:World)(L:aO)(S:Sv)(h:bh w L S)(hm:S.has=true->S.model.length=S.vars+1)(v:Int):
  Calls Tryz.prog 149 #[.pointer (some ⟨L.a,0,none⟩), .int .i64 v] w fun e w'=>e= .returned (.bool (S.FL v))/\w=w':=by
 have KM:=ae (my w L S h);obtain⟨-,-,c2,-,-,-,c6,-,-,-,-,-,-,-,NS⟩:=h.cells;obtain⟨hs,Zy⟩:∃hs,S.has=hs:=⟨_,rfl⟩
 rw[Zy]at NS;have WK:S.FL v=(hs&&decide (1<=v)&&decide (v<=S.vars)&&S.model[v.toNat]!):=by unfold Sv.FL;rw[Zy]
 obtain⟨VB,ab⟩:∃VB,S.FL v=VB:=⟨_,rfl⟩
 rw[ab]at WK⊢;have Yn:=ae WK;have ad:=ae Zy;have HM:=ae hm;have HH:=ae h;clear h hm Zy WK ab;cases hs with
 |false=>
  have J:aj (VB=false):=by rw[Yn.o];rfl
  have hf:=J.o;subst hf;go_enter Tryz.func149,Tryz.ntmps149;go_wp2_with fail;refine KM.o.mono ?_;rintro e w1 ⟨rfl,rfl⟩;go_wp2;go_ret;exact⟨rfl,rfl⟩
 |true=>
  by_cases h1:1<=v
  ·by_cases h2:v<=(S.vars:Int)
   ·obtain⟨k,rfl⟩:∃k:Nat,v=k:=⟨v.toNat,by omega⟩
    have yl:=HM.o ad.o;have hk:k<S.model.length:=(by omega)
    obtain⟨gm,ar,sm,-⟩:=HH.o.Y5 hk false;have sR:(k:Int)<(S.model.length:Int):=(by omega)
    have J:aj (VB=S.model[k]!):=by rw[Yn.o,qak h1,qak h2,Int.toNat_natCast];rfl
    obtain⟨mb,Bh⟩:∃mb,S.model[k]! =mb:=⟨_,rfl⟩
    rw[Bh]at sm J;have hf:=J.o;subst hf;rw[ar]at c6;clear Bh yl;go_enter Tryz.func149,Tryz.ntmps149;go_wp2_with fail;refine KM.o.mono ?_;rintro e w1 ⟨rfl,rfl⟩;go_wp2;go_ret;exact⟨rfl,rfl⟩
   ·have J:aj (VB=false):=by rw[Yn.o,qaj h2];show _=_;simp
    have hf:=J.o;subst hf;go_enter Tryz.func149,Tryz.ntmps149;go_wp2_with fail;refine KM.o.mono ?_;rintro e w1 ⟨rfl,rfl⟩;go_wp2;go_ret;exact⟨rfl,rfl⟩
  ·have J:aj (VB=false):=by rw[Yn.o,qaj h1];show _=_;simp
   have hf:=J.o;subst hf;go_enter Tryz.func149,Tryz.ntmps149;go_wp2_with fail;refine KM.o.mono ?_;rintro e w1 ⟨rfl,rfl⟩;go_wp2;go_ret;exact⟨rfl,rfl⟩
end
section
open Go.RowKit Go.Sort
def Kb(x:Int):List Int->List Int
 |[]=>[x]
 |y::r=>if ltOf vu y x=true then y::Kb x r else x::y::r
def isI(xs:List Int):List Int:=xs.foldr Kb []
theorem vD(x:Int):∀l,(Kb x l).Perm (x::l)
 |[]=>dM _
 |y::r=>by
  rw[Kb];split
  ·exact((vD x r).cons y).trans (List.Perm.swap x y r)
  ·exact dM _
theorem GJ:∀xs,(isI xs).Perm xs
 |[]=>dM _
 |x::r=>(vD x _).trans ((GJ r).cons x)
def zk(x y:Int):Bool:= !(ltOf vu) y x
theorem Cl(x y:Int):(zk x y ||zk y x)=true:=by unfold zk;rw[qG,qG];simp only[dI,i8,dw,Bool.and_eq_false_iff,decide_eq_false_iff_not];omega
theorem Cj(x y z:Int)(h1:zk x y=true)(J:zk y z=true):zk x z=true:=by unfold zk at *;rw[qG]at *;simp only[i8,dw,Bool.and_eq_false_iff,decide_eq_false_iff_not]at *;omega
theorem Sf(x y:Int)(h1:zk x y=true)(J:zk y x=true):x=y:=by unfold zk at *;simp only[i8]at *;exact Cb x y J h1
theorem wR(x:Int):∀l:List Int,l.Pairwise (fun a b=>zk a b=true)->(Kb x l).Pairwise (fun a b=>zk a b=true)
 |[],_=>by simp[Kb]
 |y::r,h=>by
  rw[Kb];have hy:=List.pairwise_cons.1 h;split
  ·rename_i hl;refine List.pairwise_cons.2 ⟨fun b J=> ?_,wR x r hy.2⟩;rcases ay.1 ((vD x r).mem_iff.1 J)with rfl |J
   ·have :=Cl y b;unfold zk at this⊢;rw[hl]at this;simpa using this
   ·exact hy.1 b J
  ·rename_i hl;have QM:zk x y=true:=by unfold zk;simpa using hl
   refine List.pairwise_cons.2 ⟨fun b J=> ?_,h⟩;rcases ay.1 J with rfl |J
   ·exact QM
   ·exact Cj x y b QM (hy.1 b J)
theorem sO:∀xs,(isI xs).Pairwise (fun a b=>zk a b=true)
 |[]=>List.Pairwise.nil
 |x::r=>wR x _ (sO r)
theorem BX:∀(a b:List Int),a.Perm b->a.Pairwise (fun a b=>zk a b=true)->b.Pairwise (fun a b=>zk a b=true)->a=b
 |[],b,h,_,_=>(List.nil_perm.1 h).symm▸rfl
 |x::a,[],h,_,_=>absurd h.length_eq (by simp)
 |x::a,y::b,h,ha,hb=>by
  have h1:=List.pairwise_cons.1 ha;have h2:=List.pairwise_cons.1 hb;have QM:x=y:=by
   rcases ay.1 (h.mem_iff.1 (bM))with e |e
   ·exact e
   ·rcases ay.1 (h.mem_iff.2 (bM))with J |J
    ·exact J.symm
    ·exact Sf x y (h1.1 y J) (h2.1 x e)
  subst QM;rw[BX a b (h.cons_inv) h1.2 h2.2]
theorem Gs(xs:List Int):lE xs=isI xs:=by refine BX _ _ ((List.mergeSort_perm xs _).trans (GJ xs).symm) ?_ (sO xs);exact List.pairwise_mergeSort (le:=fun x y=>zk x y) (fun a b c=>Cj a b c) (fun a b=>Cl a b) xs
def Wk(xs:List Int):List Int:=XQ (isI (xs.filter fun x=> !(x==0)))
theorem aaF(xs:List Int):nrm xs=Wk xs:=by unfold nrm Wk;rw[Gs]
namespace Sv
def acn(S:Sv)(l:List Int):Sv×Int:=
 if lX S.vars l=0 then(if S.oe (Wk l)=true then S.a7 else S.a7.iD (S.leftOf (Wk l)),0)else(S,lX S.vars l)
theorem X4(S:Sv)(l:List Int):S.fD l=S.acn l:=by unfold fD acn;rw[aaF]
def JI(S:Sv):Bool:=decide (S.list.length<2199023255552)&&decide (S.used<2199023255552)&&decide (S.bump<=1073741824)&&decide (-1152921504606846976<=S.many)&&decide (S.many<=1152921504606846976)&&decide (S.cv<=2199023255552)&&decide (S.T.levels.length<=4398046511104)&&S.core.isEmpty
theorem RB{S:Sv}(h:S.JI=true):S.Small:=by unfold JI at h;simp only[ax,qam,List.isEmpty_iff]at h;obtain⟨⟨⟨⟨⟨⟨⟨h1,J⟩,h3⟩,h4⟩,h5⟩,h6⟩,h7⟩,h8⟩:=h;exact⟨h1,J,h3,h4,h5,h6,h7,h8⟩
def LH(budget:Int)(n:Nat)(K:Sv->Option (Sv×Int)):Option (Sv×Bool)->Option (Sv×Int)
 |none=>none
 |some (S2,false)=>some (S2,2)
 |some (S2,true)=>if budget<(n+1:Nat)then some (S2,0)else K S2
def DI(budget:Int)(us:List Int)(K:Nat->Nat->Sv->Option (Sv×Int)):Nat->Nat->Nat->Sv->Option (Sv×Int)
 |0,_,_,_=>none
 |d+1,next,n,S=>
  if S.JI&&decide (n<2199023255552)&&decide (next <4398046511104)then
   match S.follow with
   | (J,some c)=>LH budget n (K next (n+1)) (J.cW.conflict c)
   | (J,none)=>
    let SR:=J.dH n next
    if(SR.cv:Int)<SR.many then none
    else
     let q:=SR.aP us
     if q.2=0 then DI budget us K d (if next <=n then n+64 else next) n q.1 else some q
  else none
def DF(budget:Int)(us:List Int)(D:Nat):Nat->Nat->Nat->Sv->Option (Sv×Int)
 |0,_,_,_=>none
 |c+1,next,n,S=>DI budget us (DF budget us D c) D next n S
def DC(budget:Int)(us:List Int)(D C:Nat)(S:Sv):Option (Sv×Int):=
 if(decide (budget<1) ||us.any (jW S.vars))=true then some (S.a7,0)
 else if S.bad=true then some (S.a7.cW,2)
 else(DF budget us D C 64 0 S.a7.cW).map fun q=>(q.1.back 0,q.2)
theorem Uk{budget:Int}{n:Nat}{K:Sv->Option (Sv×Int)}{K':Sv->Prop}{Q:Sv->Int->Prop}{P:Sv×Int->Prop}(hK:∀S q,K S=some q->P q->K' S)(hQ:∀S r,P (S,r)->Q S r):
  ∀(o:Option (Sv×Bool))(q:Sv×Int),LH budget n K o=some q->P q->LJ budget n Q K' o
 |none,q,h,_=>by cases h
 |some (S2,false),q,h,hp=>by
  have :(S2,(2:Int))=q:=by simpa[LH]using h
  exact hQ S2 2 (by rw[this];exact hp)
 |some (S2,true),q,h,hp=>by
  show if budget<(n+1:Nat)then Q S2 0 else K' S2;have J:(if budget<(n+1:Nat)then some (S2,0)else K S2)=some q:=h;split
  ·rename_i hb;rw[qai hb]at J;have :(S2,(0:Int))=q:=by simpa using J
   exact hQ S2 0 (by rw[this];exact hp)
  ·rename_i hb;rw[qah hb]at J;exact hK S2 q J hp
theorem F7{budget:Int}{us:List Int}{K:Nat->Nat->Sv->Option (Sv×Int)}{K':Nat->Nat->Sv->Prop}{Q:Sv->Int->Prop}{P:Sv×Int->Prop}(hK:∀next n S q,K next n S=some q->P q->K' next n S)(hQ:∀S r,P (S,r)->Q S r):
  ∀(d next n:Nat)(S:Sv)(q:Sv×Int),DI budget us K d next n S=some q->P q->gN false budget us Q K' d next n S
 |0,_,_,_,q,h,_=>by cases h
 |d+1,next,n,S,q,h,hp=>by
  rw[DI]at h;split at h
  ·rename_i hc;simp only[ax,qam]at hc;rw[gN];refine⟨RB hc.1.1,hc.1.2,hc.2,?_⟩;split at h
   ·rename_i SF c hf;rw[hf];exact Uk (fun S q=>hK next (n+1) S q) hQ _ q h hp
   ·rename_i SF hf;rw[hf];simp only at h⊢;unfold yM;split at h
    ·cases h
    ·rename_i ht;rw[qah ht];split at h
     ·rename_i J;rw[qai J];exact F7 hK hQ d _ n _ q h hp
     ·rename_i J;rw[qah J];refine hQ _ _ ?_;have :(SF.dH n next).aP us=q:=(by simpa using h)
      rw[this];exact hp
  ·cases h
theorem BZ{budget:Int}{us:List Int}{D:Nat}{Q:Sv->Int->Prop}{P:Sv×Int->Prop}(J:∀S r,P (S,r)->Q S r):
  ∀(c next n:Nat)(S:Sv)(q:Sv×Int),DF budget us D c next n S=some q->P q->ev false budget us Q D c next n S
 |0,_,_,_,q,h,_=>by cases h
 |c+1,next,n,S,q,h,hp=>F7 (fun next n S q=>BZ J c next n S q) J D next n S q h hp
theorem RA{budget:Int}{us:List Int}{D C:Nat}{S:Sv}{q:Sv×Int}(h:DC budget us D C S=some q):fE false budget us D C (fun S' r=>(S',r)=q) S:=by
 unfold DC at h;unfold fE;split at h
 ·rename_i h1;rw[qai h1];simpa using h
 ·rename_i h1;rw[qah h1];split at h
  ·rename_i J;rw[qai J];simpa using h
  ·rename_i J;rw[qah J];rw[Option.map_eq_some_iff]at h;obtain⟨q1,h3,h4⟩:=h;exact BZ (P:=fun x=>x=q1) (fun S r e=>by rw[<-h4,<-e]) C 64 0 _ q1 h3 rfl
end Sv
structure Own(w0 w:World)(L:aO)(S:Sv):Prop where
 sv:bh w L S
 nw:∀k,k<w0.heap.size->(L.dh k).1≠L.id
 fr:Fr [] w0 w
theorem Own.keep{w0 w w':World}{L:aO}{S:Sv}(h:Own w0 w L S)(J:Fr [] w w'):Own w0 w' L S:=⟨h.sv.keep J,h.nw,h.fr.ak J⟩
theorem Own.shut{w0 w:World}{L:aO}{S:Sv}(h:Own w0 w L S):Own w0 w (L.shut w) S:=
 ⟨h.sv.shut,fun k hk=>by simp only[aO.shut];rw[qai (aS hk h.fr.size)];exact h.nw k hk,h.fr⟩
theorem Own.next{w0 w w':World}{L L':aO}{S S':Sv}(h:Own w0 w L S)(J:bh w' L' S')(he:L.ext L' w)(hf:Fr (L.own w) w w'):Own w0 w' L' S':=
 ⟨J,fun k hk e=>h.nw k hk (he.2.2 k (aS hk h.fr.size) (e.trans he.2.1)),h.fr.trans hf (fun k hk=>by
  rcases bN k w0.heap.size with h1 |h1
  ·exact absurd (aO.cj.1 hk).2 (h.nw k h1)
  ·exact .inr h1)⟩
theorem Wc(w:World)(vars:Int)(J: -9223372036854775808<=vars)(h1:vars<=9223372036854775807):
  Calls Tryz.prog 69 #[.int .i64 vars] w fun e w'=>∃L:aO,e= .returned (.pointer (some ⟨L.a,0,none⟩))/\Own w w' L (Sv.new vars):=
 (OD w vars J h1).mono fun e w' ⟨L,he,h2,h3,h4⟩=>⟨L,he,h2,h3,h4⟩
theorem Sv.Ok.new(vars:Int):(Sv.new vars).Ok 0/\(Sv.new vars).vars=(min (max vars 0) 262143).toNat:=by refine⟨Sv.Ok.grow Sv.Ok.bare _ (by show 0+_<=262143;omega),?_⟩;show 0+_=_;omega
end
section
open Go.RowKit
theorem gS(w:World)(xs:List Int)(h:xs.length<=maxLen):Ints (w.alloc (.cells (xs.map (Value.int .i64)).toArray 3)) (some ⟨w.heap.size,0,none⟩) xs.length xs:=by have :=World.ownsRow_lit (base:=0) (e:=3) (size:=1) w (xs.map (Value.int .i64)).toArray xs.length (aU _) h (by simp);unfold Ints;simpa using this
def Qe(x y:Int):Prop:=iY x<iY y\/(iY x=iY y/\x<y)
theorem Qe.trans{x y z:Int}(h:Qe x y)(k:Qe y z):Qe x z:=by unfold Qe at *;omega
theorem aaN{x y:Int}(h:zk x y=true)(J:x≠y):Qe x y:=by unfold zk at h;rw[qG]at h;simp only[i8,dw,Bool.and_eq_false_iff,decide_eq_false_iff_not]at h;unfold Qe;omega
theorem xd{xs:List Int}(hs:xs.Pairwise (fun a b=>zk a b=true)):∀k,k<=xs.length->(ix xs k).Pairwise Qe/\∀y∈ix xs k,y=xs[k-1]! \/Qe y xs[k-1]!
 |0,_=>⟨List.Pairwise.nil,fun y J=>by cases J⟩
 |k+1,hk=>by
  obtain⟨h1,h2⟩:=xd hs k (by omega);rw[ix,dt];by_cases h0:k=0
  ·subst h0;rw[qai (.inl rfl)];exact⟨by simp[ix],fun y J=> .inl (by simpa[ix]using J)⟩
  ·have hle:zk xs[k-1]! xs[k]! =true:=by rw[rV (by omega),rV (by omega)];exact List.pairwise_iff_getElem.1 hs (k-1) k (by omega) (by omega) (by omega)
   by_cases he:xs[k]! ≠xs[k-1]!
   ·rw[qai (.inr he)];have bt:=aaN hle (fun e=>he e.symm);have gZ:∀y∈ix xs k,Qe y xs[k]! :=fun y J=>by
     rcases h2 y J with h3 |h3
     ·rw[h3];exact bt
     ·exact h3.trans bt
    refine⟨?_,fun y J=> ?_⟩
    ·rw[List.pairwise_append];exact⟨h1,List.pairwise_singleton _ _,fun y J z hz=>by rw[ag.1 hz];exact gZ y J⟩
    ·rcases ah.1 J with h3 |h3
     ·exact .inr (gZ y h3)
     ·exact .inl (ag.1 h3)
   ·rw[qah (fun h=>h.elim h0 he)];have he:xs[k]! =xs[k-1]! :=Classical.byContradiction he;rw[he];exact⟨h1,h2⟩
theorem N3{x:Int}{v:Nat}(h1: -(v:Int)<=x)(J:x<=v)(hv:v<=262143):iY x=tv x/\tv x=if x<0 then -x else x:=by
 have :wrap64 (-x)= -x:=by unfold wrap64;omega
 unfold iY tv;rw[this,qah (by omega:¬x= -9223372036854775808)];constructor
 ·split<;>split<;>omega
 ·rfl
theorem za{l:List Int}{v:Nat}(hr:∀x∈nrm l,-(v:Int)<=x/\x<=v)(hv:v<=262143)(ht:se (nrm l)=false):((nrm l).map tv).Nodup:=by
 have hs:(nrm l).Pairwise Qe:=(xd (by rw[Gs];exact sO _) _ (aq _)).1;generalize nrm l=J at *;have ab:∀i,i+1<J.length->tv J[i]! <tv J[i+1]! :=fun i hi=>by
  have h1:Qe J[i]! J[i+1]! :=by rw[rV (by omega),rV (by omega)];exact List.pairwise_iff_getElem.1 hs i (i+1) (by omega) (by omega) (by omega)
  have hx:=hr _ (get_mem (l:=J) (i:=i) (by omega));have hy:=hr _ (get_mem (l:=J) (i:=i+1) (by omega));have Vi:nE J i=false:=by
   unfold se at ht;cases hq:nE J i with
   |false=>rfl
   |true=>
    exfalso;have :(List.range (J.length-1)).any (nE J)=true:=cP.2 ⟨i,bl.2 (by omega),hq⟩;rw[this]at ht;cases ht
  unfold nE at Vi;generalize J[i]! =x at *;generalize J[i+1]! =y at *;have ad:=N3 hx.1 hx.2 hv;have ar:=N3 hy.1 hy.2 hv;have hw:wrap64 (-y)= -y:=by unfold wrap64;omega
  rw[hw]at Vi;have dV:x≠ -y:=by simpa using Vi
  unfold Qe at h1;rw[ad.1,ar.1]at h1;rw[ad.2,ar.2]at h1⊢;split at h1<;>split at h1<;>omega
 have Nn:∀d i,i+d+1<J.length->tv J[i]! <tv J[i+d+1]! :=by
  intro d;induction d with
  |zero=>exact ab
  |succ d ih=>
   intro i hi;have h1:=ih i (by omega);have h2:=ab (i+d+1) (by omega);have :i+(d+1)+1=i+d+1+1:=by omega
   rw[this];omega
 unfold List.Nodup;rw[List.pairwise_map,List.pairwise_iff_getElem];intro i j hi hj Nq;have :=Nn (j-i-1) i (by omega);rw[show i+(j-i-1)+1=j by omega,rV hi,rV hj]at this;omega
namespace Sv
theorem Inv.a7{S:Sv}(h:S.Inv):S.a7.Inv:=h.congr h.ok.a7 rfl rfl (fun _=>rfl) rfl
theorem Inv.cW{S:Sv}(h:S.Inv):S.cW.Inv:=h.congr h.ok.cW rfl rfl (fun _=>rfl) rfl
theorem Inv.iD{S:Sv}(h:S.Inv)(h0:S.T.levels.length=0){out:List Int}(h1:out.length<=1048576)(hl:∀x∈out,x≠0/\ -(S.vars:Int)<=x/\x<=S.vars)(hd:(out.map tv).Nodup)(hv:∀x∈out,S.val x=0)(hr:S.list.length<2199023255552):
  (S.iD out).Inv/\(S.iD out).T.levels.length=0:=by
 unfold Sv.iD;by_cases e0:out.length=0
 ·rw[qai e0];exact⟨h.congr (h.ok.DE true) rfl rfl (fun _=>rfl) rfl,h0⟩
 ·rw[qah e0];have hm:=get_mem (l:=out) (i:=0) (by omega);by_cases e1:out.length=1
  ·rw[qai e1];have ht:=tH (hl _ hm).1 (hl _ hm).2.1 (hl _ hm).2.2 h.ok.vl;exact⟨(h.put (r:=0) (lK h.ok ht.1 ht.2 (hv _ hm)) (by omega) (fun h=>absurd rfl h) (fun _=> .inl h0)).1,by rw[ee];exact h0⟩
  ·rw[qah e1];have sl:=get_mem (l:=out) (i:=1) (by omega);obtain⟨k1,k2,k3⟩:=h.attach ⟨by omega,h1,hl⟩ hd false hr;have hs:=du S out false;refine⟨k1.whole ?_,by rw[hs.1];exact h0⟩;intro dV e he;rw[k2];have J:e∈S.R:=by have :=List.mem_of_mem_take he;rw[ew hs.1]at this;exact this
   exact⟨fun hx=>absurd hx (jU h.ok (hv _ hm) e J).2,fun hx=>absurd hx (jU h.ok (hv _ sl) e J).2⟩
theorem Inv.fD{S:Sv}(h:S.Inv)(h0:S.T.levels.length=0){l:List Int}(kQ:Ra l)(hr:S.list.length<2199023255552):(S.fD l).1.Inv/\(S.fD l).1.T.levels.length=0:=by
 unfold Sv.fD;split
 ·rename_i hc;split
  ·exact⟨h.a7,h0⟩
  ·rename_i hs;obtain⟨h1,h2⟩:=qD (S:=S) kQ hc;have hs:S.oe (nrm l)=false:=by simpa using hs
   unfold oe at hs;rw[dw]at hs;have vM:=uE kQ hc;have hd:=za (l:=l) (v:=S.vars) (fun x J=>(vM.2 x (o8 J).1).2) h.ok.vl hs.1;refine h.a7.iD h0 (by omega) h2 ?_ (fun x J=> ?_) hr
   ·unfold leftOf;exact hd.sublist (List.Sublist.map tv (List.filter_sublist))
   ·unfold leftOf at J;rw[gh]at J;have h3:¬S.val x<0:=(by simpa using J.2)
    have h4:¬0<S.val x:=fun h5=>by have :(nrm l).any (fun x=>decide (0<S.val x))=true:=cP.2 ⟨x,J.1,by simpa using h5⟩;rw[this]at hs;cases hs.2
    show S.val x=0;omega
 ·exact⟨h,h0⟩
theorem CQ(S:Sv)(l:List Int):(S.fD l).1.used=S.used/\(S.fD l).1.bump=S.bump/\(S.fD l).1.many=S.many/\(S.fD l).1.cv=S.cv/\(S.fD l).1.list.length<=S.list.length+1:=by
 unfold fD;split
 ·split
  ·exact⟨rfl,rfl,rfl,rfl,by show S.list.length<=_;omega⟩
  ·unfold iD;split
   ·exact⟨rfl,rfl,rfl,rfl,by show S.list.length<=_;omega⟩
   ·split
    ·exact⟨rfl,rfl,rfl,rfl,by show S.list.length<=_;omega⟩
    ·refine⟨rfl,rfl,rfl,rfl,?_⟩;have :=(du S.a7 (S.leftOf (nrm l)) false).2.2.1;rw[this];show S.list.length+1<=_;omega
 ·exact⟨rfl,rfl,rfl,rfl,by show S.list.length<=_;omega⟩
theorem Inv.new(vars:Int):(Sv.new vars).Inv/\(Sv.new vars).T.levels.length=0/\(Sv.new vars).many=0/\(Sv.new vars).cv=400/\(Sv.new vars).list=[]/\(Sv.new vars).used=0/\(Sv.new vars).bump=1:=by
 have ok:=(Sv.Ok.new vars).1;have hR:(Sv.new vars).R=[]:=rfl;have J:∀n,(Sv.new vars).rc n=⟨[],false,0⟩:=fun n=>o6 (aU _);have hw:∀c,(Sv.new vars).gG c=[]:=fun c=>by have :(Sv.new vars).watch=List.replicate 2 []++List.replicate (2*(min (max vars 0) 262143).toNat) []:=rfl;unfold gG;rw[this,List.replicate_append_replicate,aa,List.getElem?_replicate];split<;>rfl
 refine⟨⟨ok,fun n=>by rw[J];exact List.nodup_nil,fun A e B h1 h2=> ?_,fun A e B h1 h2=> ?_,fun e he=> ?_,⟨fun c=>by rw[hw];exact List.nodup_nil,fun c n hn=> ?_,fun n hl=> ?_⟩,fun n hl=> ?_⟩,rfl,rfl,rfl,rfl,rfl,rfl⟩
 ·rw[hR]at h1;simp at h1
 ·rw[hR]at h1;simp at h1
 ·rw[hR]at he;simp at he
 ·rw[hw]at hn;cases hn
 ·rw[J]at hl;exact absurd rfl hl
 ·rw[J]at hl;exact absurd rfl hl
end Sv
theorem CL(met:List Int):∀(us core:List Int),(Sv.iU met us core).length<=core.length+us.length
 |[],core=>by simp[Sv.iU]
 |x::r,core=>by
  rw[Sv.iU];have :=CL met r (if x∈met/\x∉core then core++[x]else core);split at this
  ·simp at this⊢;split<;>simp_all<;>omega
  ·simp at this⊢;split<;>simp_all<;>omega
namespace Sv
theorem CN(level:Int):∀(r:List Int)(S:Sv),(eI level r S).has=S.has/\(eI level r S).model=S.model
 |[],S=>⟨rfl,rfl⟩
 |l::r,S=>by
  rw[eI];split
  ·exact⟨rfl,rfl⟩
  ·exact CN level r _
theorem Aj(S:Sv)(level:Nat):(S.back level).has=S.has/\(S.back level).model=S.model:=by
 unfold back;split
 ·exact⟨rfl,rfl⟩
 ·exact CN _ _ _
theorem J5(S:Sv)(l:List Int):(S.bQ l).cZ.has=S.has:=by
 unfold bQ;split
 ·rfl
 ·rfl
structure Fin(us:List Int)(S:Sv):Prop where
 inv:S.Inv
 model:S.has=true->S.model.length=S.vars+1
 core:S.core.length<=us.length
theorem Aa{S:Sv}{us:List Int}(h:S.Inv)(hf:S.head=S.T.lits.length)(hh:S.has=false)(hc:S.core=[]):Fin us S.choose.1/\(S.choose.2=0->S.choose.1.has=false):=by
 have J:=(choose_spec h hf).1;have Ft:=(iz S).1;have iT:S.choose.1.core.length<=us.length:=by rw[Ft,hc];exact aU _
 have ab:∀(f:Nat)(S:Sv),(dg f S).1.has=S.has:=by
  intro f;induction f with
  |zero=>intro S;rfl
  |succ f ih=>
   intro S;rw[dg];split
   ·rfl
   ·simp only;split
    ·exact ih _
    ·rfl
 have hp:S.pick.1.has=false:=(ab _ S).trans hh;unfold choose at J iT⊢;by_cases h0:S.pick.2=0
 ·rw[qai h0]at J iT⊢;exact⟨⟨J,fun _=>by simp[Sv.keep],iT⟩,fun h=>by cases h⟩
 ·rw[qah h0]at J iT⊢;have e:(S.pick.1.deep.put S.pick.2 0).has=false:=hp;exact⟨⟨J,fun h=>by have h:(S.pick.1.deep.put S.pick.2 0).has=true:=h;rw[e]at h;exact Bool.noConfusion h,iT⟩,fun _=>e⟩
theorem xc{us:List Int}:∀(f:Nat)(S:Sv),S.Inv->S.head=S.T.lits.length->(∀x∈us,x≠0/\ -(S.vars:Int)<=x/\x<=S.vars)->S.has=false->S.core=[]->Fin us (bJ us f S).1/\((bJ us f S).2=0->(bJ us f S).1.has=false)
 |0,S,h,hf,hu,J,hc=>Aa h hf J hc
 |f+1,S,h,hf,hu,J,hc=>by
  rw[bJ];split
  ·rename_i hd;have ha:=hu _ (get_mem (l:=us) hd);simp only;split
   ·refine⟨⟨h.congr (h.ok.oZ _) rfl rfl (fun _=>rfl) rfl,fun h=> ?_,?_⟩,fun h=>by cases h⟩
    ·have h:S.has=true:=h;rw[J]at h;cases h
    ·show(iU _ us S.core).length<=us.length;have :=CL (S.dY S.T.lits.reverse [tv us[S.T.levels.length]!] [us[S.T.levels.length]!]) us S.core;rw[hc]at this⊢;simpa using this
   ·split
    ·rename_i h1 h2;obtain⟨k1,k2⟩:=h.choice hf ha.1 ha.2.1 ha.2.2 h2;exact⟨⟨k1,fun h=>by have h:S.has=true:=h;rw[J]at h;exact Bool.noConfusion h,by show S.core.length<=_;rw[hc];exact aU _⟩,fun _=>J⟩
    ·exact xc f S.deep (h.deep hf) hf hu J hc
  ·exact Aa h hf J hc
theorem F8{S:Sv}(h:S.Inv)(J:S.head=S.T.lits.length)(n next :Nat):(S.dH n next).Inv/\(S.dH n next).head=(S.dH n next).T.lits.length:=by
 unfold Sv.dH;split
 ·refine⟨h.back 0,?_⟩;by_cases hl:0<S.T.levels.length
  ·obtain⟨b1,b2,b3,b4,B,b5,b6,b7⟩:=jk h.ok hl;have h1:(S.back 0).R.length<=S.R.length:=by rw[b5];simp
   have h2:=ko S;have h3:=ko (S.back 0);rw[b4];omega
  ·have :S.back 0=S:=by unfold Sv.back;rw[qai (by omega)]
   rw[this];exact J
 ·exact⟨h,J⟩
def mu(S:Sv)(next n:Nat):Nat:=S.vars-S.T.lits.length+(if next <=n then S.vars+2 else 0)
end Sv
structure Ls where
 A:Option Addr
 c:Nat
 l:List Int
instance:Inhabited Ls:=⟨⟨none,0,[]⟩⟩
def Ls.val(h:Ls):Value:= .slice h.A h.l.length h.c
def Yf(w:World)(h:Ls):Prop:=Rd w h.A h.l/\Ra h.l/\h.l.length<=17592186044416/\(h.A=none->h.l.length=0/\h.c=0)
theorem Yf.keep{w w':World}{h:Ls}(k:Yf w h)(J:Fr [] w w'):Yf w' h:=⟨k.1.keep J,k.2⟩
def N4(w:World)(A:Option Addr)(hs:List Ls):Prop:=(0<hs.length->∃b o,A=some ⟨b,o,none⟩/\∀j:Nat,j<hs.length->w.cell? ⟨b,o+j,none⟩=some (hs[j]!).val)/\∀j:Nat,j<hs.length->Yf w hs[j]!
theorem N4.keep{w w':World}{A:Option Addr}{hs:List Ls}(k:N4 w A hs)(hf:Fr [] w w'):N4 w' A hs:=by refine⟨fun h0=> ?_,fun j J=>(k.2 j J).keep hf⟩;obtain⟨b,o,hA,hx⟩:=k.1 h0;exact⟨b,o,hA,fun j J=>hf.aF (hx j J)⟩
theorem N4.one{w:World}{A:Option Addr}{hs:List Ls}(k:N4 w A hs){j:Nat}(J:j<hs.length):∃b o B d l,A=some ⟨b,o,none⟩/\aj (hs[j]! =⟨B,d,l⟩)/\w.cell? ⟨b,o+j,none⟩=some (.slice B l.length d)/\Yf w ⟨B,d,l⟩:=by obtain⟨b,o,hA,hx⟩:=k.1 (by omega);exact⟨b,o,_,_,_,hA,rfl,hx j J,k.2 j J⟩
theorem zf{hs:List Ls}{k:Nat}(h:k<hs.length):(hs.map (·.l)).drop k=(hs[k]!).l::(hs.map (·.l)).drop (k+1):=by rw[List.drop_eq_getElem_cons (by simpa using h),List.getElem_map];simp only[aa,af h,aJ]
theorem P9(S:Sv)(l:List Int):(S.fD l).2=lX S.vars l:=by
 unfold Sv.fD;split
 ·rename_i h;exact h.symm
 ·rfl
theorem Own.old{w w1 w2:World}{L:aO}{S:Sv}(h:Own w1 w2 L S)(J:Fr [] w w1):Own w w2 L S:=
 ⟨h.sv,fun k hk=>h.nw k (aS hk J.size),J.ak h.fr⟩
structure OwnX(X:List Nat)(w0 w:World)(L:aO)(S:Sv):Prop where
 own:Own w0 w L S
 fx:∀k∈X,k<w.heap.size/\(L.dh k).1≠L.id
def Stay(X:List Nat)(w w':World):Prop:=∃T,Fr T w w'/\∀k∈X,k∉T
namespace Stay
variable {X:List Nat} {w w' w2:World}
theorem of(h:Fr [] w w'):Stay X w w':=⟨[],h,fun _ _ hm=>by cases hm⟩
theorem at_(h:Stay X w w'){g:Nat}{t:TypeId}{cs:Array Value}(hg:At w g t cs)(hx:g∈X):At w' g t cs:=by obtain⟨T,h1,J⟩:=h;exact h1.at_ hg (J g hx)
theorem rd(h:Stay X w w'){A:Option Addr}{xs:List Int}(hr:Rd w A xs)(hx:∀k,k∈ao A->k∈X):Rd w' A xs:=by obtain⟨T,h1,h2⟩:=h;intro h0;obtain⟨b,o,rfl,h3⟩:=hr h0;refine⟨b,o,rfl,fun j hj=> ?_⟩;have J:=h3 j hj;rw[World.cell?_of_block (h1.block b (bR J) (h2 b (hx b (by simp[ao]))))];exact J
theorem less(h:Stay X w w'){Y:List Nat}(hY:∀k∈Y,k∈X):Stay Y w w':=by obtain⟨T,h1,J⟩:=h;exact⟨T,h1,fun k hk=>J k (hY k hk)⟩
theorem ak(h:Stay X w w')(h':Stay X w' w2)(hX:∀k∈X,k<w.heap.size):Stay X w w2:=by
 obtain⟨T,h1,h2⟩:=h;obtain⟨T',J,h4⟩:=h';refine⟨T++T',⟨J.os.trans h1.os,J.tape.trans h1.tape,J.output.trans h1.output,aE h1.size J.size,fun k hk hm=> ?_⟩,fun k hk hm=> ?_⟩
 ·simp only[ah,not_or]at hm;exact(J.block k (aS hk h1.size) hm.2).trans (h1.block k hk hm.1)
 ·rcases ah.1 hm with h5 |h5
  ·exact h2 k hk h5
  ·exact h4 k hk h5
end Stay
def Yd(X:List Nat)(v:Value)(S':Sv)(a:Nat)(w0 w:World)(e:Ending)(w':World):Prop:=e= .returned v/\∃L',L'.a=a/\OwnX X w0 w' L' S'/\Stay X w w'
namespace OwnX
variable {X:List Nat} {w0 w w':World} {L L':aO} {S S':Sv}
theorem next(h:OwnX X w0 w L S)(h':bh w' L' S')(he:L.ext L' w)(J:Fr (L.own w) w w'):OwnX X w0 w' L' S'/\Stay X w w':=
 ⟨⟨h.own.next h' he J,fun k hk=>⟨aS (h.fx k hk).1 J.size,fun e=>(h.fx k hk).2 (he.2.2 k (h.fx k hk).1 (e.trans he.2.1))⟩⟩,
  ⟨L.own w,J,fun k hk hm=>(h.fx k hk).2 (aO.cj.1 hm).2⟩⟩
theorem of{v:Value}{e:Ending}(h:OwnX X w0 w L S)(k:pB v S' L w e w'):Yd X v S' L.a w0 w e w':=by obtain⟨rfl,L',h1,J,h3⟩:=k;obtain⟨h4,h5⟩:=h.next h1 J h3;exact⟨rfl,L',J.1,h4,h5⟩
theorem keep(h:OwnX X w0 w L S)(J:Fr [] w w'):OwnX X w0 w' L S:=⟨h.own.keep J,fun k hk=>⟨aS (h.fx k hk).1 J.size,(h.fx k hk).2⟩⟩
theorem more(h:OwnX X w0 w L S)(hf:Fr [] w w'){Y:List Nat}(J:∀k∈Y,w.heap.size<=k/\k<w'.heap.size):OwnX (X++Y) w0 w' (L.shut w) S:=
 ⟨h.own.shut.keep hf,fun k hk=>by
  rcases ah.1 hk with h1 |h1
  ·exact⟨aS (h.fx k h1).1 hf.size,by rw[aO.yR (h.fx k h1).1];exact(h.fx k h1).2⟩
  ·exact⟨(J k h1).2,aO.ja (J k h1).1⟩⟩
theorem less{Y:List Nat}(h:OwnX X w0 w L S)(J:∀k∈Y,k∈X):OwnX Y w0 w L S:=⟨h.own,fun k hk=>h.fx k (J k hk)⟩
theorem NG(h:OwnX X w0 w L S){A:Option Addr}{xs:List Int}(hr:Rd w A xs)(J:∀k,k∈ao A->k∈X):IP w L A xs:=⟨hr,fun _ k hk=>(h.fx k (J k hk)).2⟩
theorem add(h:OwnX X w0 w L S)(ok:S.Ok 0)(A:Option Addr)(c:Nat)(l:List Int)(sP:IP w L A l)(kQ:Ra l)(J:A=none->c=0)(hr:S.list.length<2199023255552)(hu:S.used<=2199023255552):
  Calls Tryz.prog 96 #[.pointer (some ⟨L.a,0,none⟩), .slice A l.length c] w (Yd X (.int .i64 (S.fD l).2) (S.fD l).1 L.a w0 w):=
 (P8 w L S h.own.sv ok A c l sP kQ J hr hu).mono fun _ _ k=>h.of k
theorem grow(h:OwnX X w0 w L S)(ok:S.Ok 0)(n:Int):
  Calls Tryz.prog 94 #[.pointer (some ⟨L.a,0,none⟩), .int .i64 n] w (Yd X (.tuple #[.int .i64 (S.qL n).2.1, .int .i64 (S.qL n).2.2]) (S.qL n).1 L.a w0 w):=
 (Hw w L S h.own.sv ok n).mono fun _ _ k=>h.of k
theorem solve(h:OwnX X w0 w L S)(red:Bool)(LS:red=true->IM)(ok:S.Ok 0)(A:Option Addr)(c:Nat)(us:List Int)(sP:IP w L A us)(kQ:Ra us)(vK:us.length<=c)(J:us.length<=1099511627776)(budget:Int)(D C:Nat)(Q:Sv->Int->Prop)(Jb:S.used<4611686018427387904)(hW:S.fE red budget us D C Q):
  Calls Tryz.prog 39 #[.pointer (some ⟨L.a,0,none⟩), .int .i64 budget, .slice A us.length c] w fun e w'=>∃(S':Sv)(r:Int),Q S' r/\S'.Ok 0/\Yd X (.int .i64 r) S' L.a w0 w e w':=
 (FZ red LS w L S h.own.sv ok A c us sP kQ vK J budget D C Q Jb hW).mono fun _ _ ⟨S',r,hq,ho,k⟩=>⟨S',r,hq,ho,h.of k⟩
end OwnX
theorem Own.mark{w0 w w':World}{L:aO}{S:Sv}(h:Own w0 w L S)(hf:Fr [] w w'){Y:List Nat}(J:∀k∈Y,w.heap.size<=k/\k<w'.heap.size):OwnX Y w0 w' (L.shut w) S:=
 (OwnX.mk (X:=[]) h (fun k hk=>by cases hk)).more hf J
def IQ(A:Option Addr)(c:Nat)(xs:List Int)(w:World)(e:Ending)(w':World):Prop:=e= .returned (.tuple #[])/\∃J:List Int,J.Perm xs/\Ints w' A c J/\Fr (ao A) w w'
theorem Ints.swap{w:World}{g c:Nat}{xs:List Int}(h:Ints w (some ⟨g,0,none⟩) c xs)(i j:Nat):Ints ((w.setCell ⟨g,i,none⟩ (.int .i64 xs[j]!)).setCell ⟨g,j,none⟩ (.int .i64 xs[i]!)).drew (some ⟨g,0,none⟩) c (dK xs i j):=((h.dL i xs[j]!).dL j xs[i]!).drew
theorem Fr.swap(w:World)(g:Nat)(i j:Nat)(u v:Value):Fr (ao (some ⟨g,0,none⟩)) w ((w.setCell ⟨g,i,none⟩ u).setCell ⟨g,j,none⟩ v).drew:=(((Fr.refl [g] w).setCell (.inl (by simp)) _).setCell (.inl (by simp)) _).drew
theorem lj(w:World)(A:Option Addr)(c:Nat)(xs:List Int)(h:Ints w A c xs)(hl:xs.length<=17592186044416)(a b n:Nat)(ad:a<b)(rC:b+n<=xs.length)(g:Nat)(cb:Array Value):
  Calls Tryz.prog 203 #[.slice A xs.length c, .int .i64 a, .int .i64 b, .int .i64 n, .func (.func g) #[] cb] w (IQ A c xs w):=by
 have HH:=ae h;clear h;go_enter Tryz.func203,Tryz.ntmps203;go_wp2_with fail;go_loopg [10] n (fun g x wr=>∃(k:Nat)(J:List Int),k+g=n/\x= .int .i64 k/\aj (J.Perm xs)/\aj (Ints wr A c J)/\aj (Fr (ao A) w wr));case atStart=>exact⟨0,xs,by omega,rfl,dM _,HH.o,Fr.refl _ _⟩
 case round=>
  obtain⟨k,J,hk,rfl,HP,HI,HF⟩:=hrel;have HK:=ae hk;have iS:k<=n:=by omega
  have hlen:=HP.o.length_eq;clear hk;by_cases bt:k<n
  ·obtain⟨p,hp⟩:∃p,a+k=p:=⟨_,rfl⟩
   obtain⟨q,hq⟩:∃q,b+k=q:=⟨_,rfl⟩
   have Cr:p<J.length:=by omega
   have ab:q<J.length:=by omega
   obtain⟨gb,hA,wX⟩:=HI.o.pos Cr;subst hA;have c1:=HI.o.cell Cr;have c2:=HI.o.cell ab;have f1:=HI.o.frozen p;have f2:=HI.o.frozen q;have dV:¬p=q:=by omega
   have w1:IntKind.i64.wrap ((a:Int)+(k:Int))=(p:Int):=by rw[IntWalk.i64_in _ (by omega)];omega
   have w2:IntKind.i64.wrap ((b:Int)+(k:Int))=(q:Int):=by rw[IntWalk.i64_in _ (by omega)];omega
   have ar:(p:Int)<(xs.length:Int):=by omega
   have aB:(q:Int)<(xs.length:Int):=by omega
   have HL:=ae hlen;have xr:=ae bt;have Z6:aj (dK J p q |>.Perm xs):=(iI Cr ab).trans HP.o;have AR:=ae (HI.o.swap p q);have oM:=ae (HF.o.ak (Fr.swap wr gb p q (.int .i64 J[q]!) (.int .i64 J[p]!)));obtain⟨u,hu⟩:∃u,J[p]! =u:=⟨_,rfl⟩
   obtain⟨v,hv⟩:∃v,J[q]! =v:=⟨_,rfl⟩
   rw[hu]at c1 AR oM;rw[hv]at c2 AR oM;clear hlen Cr ab hu hv hp hq HI HF HP;go_wp2;go_region;clear c1 c2 f1 f2;go_wp2;go_roundg (gk-1);case measure=>have :=HK.o;omega
   case rel=>exact⟨k+1,dK J p q,by have :=HK.o;omega,by go_num,Z6.o,AR.o,oM.o⟩
  ·have FF:aj (IQ A c xs w (.returned (.tuple #[])) wr):=⟨rfl,J,HP.o,HI.o,HF.o⟩
   go_wp2_with fail;go_end0;exact FF.o
def BO(g:Nat)(J:Array Value)(q:Int->Int->Int)(A:Option Addr)(xs:List Int)(w:World):Prop:=
 ∀W,Fr (ao A) w W->∀x∈xs,∀y∈xs,Calls Tryz.prog g (#[.int .i64 x, .int .i64 y]++J) W fun e W'=>e= .returned (.int .i64 (q x y))/\Fr [] W W'
theorem BO.ak{g:Nat}{J:Array Value}{q:Int->Int->Int}{A:Option Addr}{xs ys:List Int}{w w':World}(h:BO g J q A xs w)(hf:Fr (ao A) w w')(hp:ys.Perm xs):BO g J q A ys w':=
 fun W hW x hx y hy=>h W (hf.ak hW) x (hp.mem_iff.1 hx) y (hp.mem_iff.1 hy)
theorem xC(w:World)(A:Option Addr)(c:Nat)(xs:List Int)(h:Ints w A c xs)(hl:xs.length<=17592186044416)(a b:Nat)(aM:a<=b)(rC:b<=xs.length)(g:Nat)(cb:Array Value)(q:Int->Int->Int)(eg:∀args w,(callFunc g args).run Tryz.prog w= .ok (.enter g args) w)(hc:BO g cb q A xs w):
  Calls Tryz.prog 179 #[.slice A xs.length c, .int .i64 a, .int .i64 b, .func (.func g) #[] cb] w (IQ A c xs w):=by
 have HH:=ae h;have HC:=ae hc;clear h hc;have w0:IntKind.i64.wrap ((a:Int)+1)=(a:Int)+1:=IntWalk.i64_in _ (by omega);go_enter Tryz.func179,Tryz.ntmps179;go_wp2_with fail;clear w0;go_loopg [8] (b-a) (fun g x wr=>∃(i:Nat)(ys:List Int),b<=i+g/\a+1<=i/\x= .int .i64 i/\aj (ys.Perm xs)/\aj (Ints wr A c ys)/\aj (Fr (ao A) w wr));case atStart=>exact⟨a+1,xs,by omega,by omega,by go_num,dM _,HH.o,Fr.refl _ _⟩
 case round=>
  obtain⟨i,ys,hi,a1,rfl,HP,HI,HF⟩:=hrel;have HK:=ae hi;clear hi;by_cases bt:i<b
  ·go_wp2_with fail;go_loopg [9] (i-a) (fun g x wr=>∃(j:Nat)(ys:List Int),j=a+g/\j<=i/\x= .int .i64 j/\aj (ys.Perm xs)/\aj (Ints wr A c ys)/\aj (Fr (ao A) w wr));case atStart=>exact⟨i,ys,by omega,by omega,rfl,HP.o,HI.o,HF.o⟩
   case round=>
    obtain⟨j,zs,hj,tp,rfl,Fz,mi,df⟩:=hrel;have HJ:=ae hj;clear hj HP HI HF;have wi:IntKind.i64.wrap ((i:Int)+1)=(i:Int)+1:=IntWalk.i64_in _ (by omega);by_cases ba:a<j
    ·have hlen:=Fz.o.length_eq;obtain⟨p,hp⟩:∃p,j-1=p:=⟨_,rfl⟩
     have Cr:p<zs.length:=(by omega)
     have K1:j<zs.length:=(by omega)
     obtain⟨gb,hA,wX⟩:=mi.o.pos Cr;subst hA;have c1:=mi.o.cell Cr;have c2:=mi.o.cell K1;have m1:=bk Cr;have m2:=bk K1;have wj:IntKind.i64.wrap ((j:Int)-1)=(p:Int):=by rw[IntWalk.i64_in _ (by omega)];omega
     have bg:(p:Int)<(xs.length:Int):=(by omega)
     have bb:(j:Int)<(xs.length:Int):=(by omega)
     have dV:¬j=p:=(by omega)
     have aK:p<=i:=(by omega)
     have Z6:aj ((dK zs j p).Perm xs):=(iI K1 Cr).trans Fz.o;have ar:aj (p=a+(gk-1)):=by have :=HJ.o;show _=_;omega
     have AR:=ae (fun W (hW:Fr [] wr W)=>(mi.o.fY hW).swap j p);have oM:=ae (fun W (hW:Fr [] wr W)=>(df.o.ak (hW.mono (fun k hk=>by cases hk))).ak (Fr.swap W gb j p (.int .i64 zs[p]!) (.int .i64 zs[j]!)));have ab:=ae (fun u:Ext wr=>HC.o u.v (df.o.ak (u.fr.mono (fun k hk=>by cases hk))) _ (Fz.o.mem_iff.1 m2) _ (Fz.o.mem_iff.1 m1));obtain⟨x,hx⟩:∃x,zs[j]! =x:=⟨_,rfl⟩
     obtain⟨y,hy⟩:∃y,zs[p]! =y:=⟨_,rfl⟩
     rw[hx]at c2 AR oM ab;rw[hy]at c1 AR oM ab;obtain⟨r,hr⟩:∃r,q x y=r:=⟨_,rfl⟩
     rw[hr]at ab;have e1:=Ext.cell c1;have e2:=Ext.cell c2;clear hr hx hy m1 m2 hlen Cr K1 hp;have ad:(a:Int)<(j:Int):=(by omega)
     have aB:decide ((a:Int)<(j:Int))=true:=qak ad;by_cases nN:r<0
     ·have hd:decide (r<0)=true:=qak nN;go_wp2;refine ap ?_;repeat (go_big_quiet_step (exact bf (ab.o _)))
      refine fq ?_;intro w2 J;clear e1 e2;have c1:=J.o.aF c1;have c2:=J.o.aF c2;have f1:=(mi.o.fY J.o).frozen p;have f2:=(mi.o.fY J.o).frozen j;go_wp2;go_region;clear c1 c2 f1 f2;go_wp2;go_roundg (gk-1);case measure=>have :=HJ.o;omega
      case rel=>exact⟨p,dK zs j p,ar.o,aK,by go_num,Z6.o,AR.o _ J.o,oM.o _ J.o⟩
     ·have QO:0<=r:=(by omega)
      have hd:decide (r<0)=false:=qaj nN;have US:=ae (fun W (hW:Fr [] wr W)=>mi.o.fY hW);have rL:=ae (fun W (hW:Fr [] wr W)=>df.o.ak (hW.mono (fun k hk=>by cases hk)));clear AR oM Z6;go_wp2;refine ap ?_;repeat (go_big_quiet_step (exact bf (ab.o _)))
      refine fq ?_;intro w2 J;clear e1 e2 c1 c2;go_wp2;go_roundg (b-(i+1));case measure=>have :=HK.o;omega
      case rel=>exact⟨i+1,zs,by omega,by omega,by go_num,Fz.o,US.o _ J.o,rL.o _ J.o⟩
    ·have ad:(j:Int)<=(a:Int):=(by omega)
     have aB:decide ((a:Int)<(j:Int))=false:=qaj (by omega);go_wp2;refine ap ?_;repeat (go_big_quiet_step (fail))
     refine fq ?_;intro w2 J;go_wp2;go_roundg (b-(i+1));case measure=>have :=HK.o;omega
     case rel=>exact⟨i+1,zs,by omega,by omega,by go_num,Fz.o,mi.o.fY J.o,df.o.ak (J.o.mono (fun k hk=>by cases hk))⟩
  ·have FF:aj (IQ A c xs w (.returned (.tuple #[])) wr):=⟨rfl,ys,HP.o,HI.o,HF.o⟩
   go_wp2_with fail;go_end0;exact FF.o
theorem DJ(w:World)(A:Option Addr)(c:Nat)(xs:List Int)(h:Ints w A c xs)(hl:xs.length<=17592186044416)(a m b:Nat)(jN:a<m)(Bh:m<b)(rC:b<=xs.length)(g:Nat)(cb:Array Value):
  Calls Tryz.prog 197 #[.slice A xs.length c, .int .i64 a, .int .i64 m, .int .i64 b, .func (.func g) #[] cb] w (IQ A c xs w):=by
 have HH:=ae h;clear h;obtain⟨i0,Zx⟩:∃i0,m-a=i0:=⟨_,rfl⟩
 obtain⟨j0,rR⟩:∃j0,b-m=j0:=⟨_,rfl⟩
 have w0:IntKind.i64.wrap ((m:Int)-(a:Int))=(i0:Int):=by rw[IntWalk.i64_in _ (by omega)];omega
 have w1:IntKind.i64.wrap ((b:Int)-(m:Int))=(j0:Int):=by rw[IntWalk.i64_in _ (by omega)];omega
 go_enter Tryz.func197,Tryz.ntmps197;go_wp2_with fail;clear w0 w1;go_loopg [10,11] (i0+j0) (fun g tj uU wr=>∃(i j:Nat)(ys:List Int),i+j=g/\0<i/\0<j/\i<=m-a/\j<=b-m/\tj= .int .i64 i/\uU= .int .i64 j/\aj (ys.Perm xs)/\aj (Ints wr A c ys)/\aj (Fr (ao A) w wr));case atStart=>exact⟨i0,j0,xs,rfl,by omega,by omega,by omega,by omega,rfl,rfl,dM _,HH.o,Fr.refl _ _⟩
 case round=>
  obtain⟨i,j,ys,hg,hi,hj,ab,ar,rfl,rfl,HP,HI,HF⟩:=hrel;have HG:=ae hg;have hlen:=HP.o.length_eq;clear hg Zx rR;obtain⟨p,hp⟩:∃p,m-i=p:=⟨_,rfl⟩
  have w1:IntKind.i64.wrap ((m:Int)-(i:Int))=(p:Int):=by rw[IntWalk.i64_in _ (by omega)];omega
  rcases Nat.lt_trichotomy i j with Nq |Nq |Nq
  ·obtain⟨q,hq⟩:∃q,m+j=q:=⟨_,rfl⟩
   obtain⟨r,hr⟩:∃r,q-i=r:=⟨_,rfl⟩
   obtain⟨j1,ad⟩:∃j1,j-i=j1:=⟨_,rfl⟩
   have w2:IntKind.i64.wrap ((m:Int)+(j:Int))=(q:Int):=by rw[IntWalk.i64_in _ (by omega)];omega
   have w3:IntKind.i64.wrap ((q:Int)-(i:Int))=(r:Int):=by rw[IntWalk.i64_in _ (by omega)];omega
   have w4:IntKind.i64.wrap ((j:Int)-(i:Int))=(j1:Int):=by rw[IntWalk.i64_in _ (by omega)];omega
   have J:=ae (lj wr A c ys HI.o (by omega) p r i (by omega) (by omega) g cb);rw[hlen]at J;have dV:¬(i:Int)=(j:Int):=by omega
   have hle:(i:Int)<=(j:Int):=by omega
   have HJ:aj (0<j1/\j1<=b-m/\i+j1<gk):=⟨by omega,by omega,by have :=HG.o;omega⟩
   clear hlen hp hq hr ad HI;go_wp2_with fail;refine J.o.mono ?_;clear J;rintro e w2 ⟨rfl,zs,z1,z2,z3⟩;have Fz:=ae (z1.trans HP.o);have mi:=ae z2;have df:=ae (HF.o.ak z3);clear z1 z2 z3 HP HF;go_wp2;go_roundg (i+j1);case measure=>have :=HJ.o;omega
   case rel=>exact⟨i,j1,zs,rfl,hi,HJ.o.1,ab,HJ.o.2.1,rfl,rfl,Fz.o,mi.o,df.o⟩
  ·subst Nq;have J:=ae (lj wr A c ys HI.o (by omega) p m i (by omega) (by omega) g cb);rw[hlen]at J;clear hlen hp HI;go_wp2_with fail;refine J.o.mono ?_;clear J;rintro e w2 ⟨rfl,zs,z1,z2,z3⟩;have FF:aj (IQ A c xs w (.returned (.tuple #[])) w2):=⟨rfl,zs,z1.trans HP.o,z2,HF.o.ak z3⟩
   clear z1 z2 z3 HP HF;go_wp2_with fail;go_end0;exact FF.o
  ·obtain⟨i1,Vm⟩:∃i1,i-j=i1:=⟨_,rfl⟩
   have w4:IntKind.i64.wrap ((i:Int)-(j:Int))=(i1:Int):=by rw[IntWalk.i64_in _ (by omega)];omega
   have J:=ae (lj wr A c ys HI.o (by omega) p m j (by omega) (by omega) g cb);rw[hlen]at J;have dV:¬(i:Int)=(j:Int):=by omega
   have hle:(j:Int)<(i:Int):=by omega
   have HJ:aj (0<i1/\i1<=m-a/\i1+j<gk):=⟨by omega,by omega,by have :=HG.o;omega⟩
   clear hlen hp Vm HI;go_wp2_with fail;refine J.o.mono ?_;clear J;rintro e w2 ⟨rfl,zs,z1,z2,z3⟩;have Fz:=ae (z1.trans HP.o);have mi:=ae z2;have df:=ae (HF.o.ak z3);clear z1 z2 z3 HP HF;go_wp2;go_roundg (i1+j);case measure=>have :=HJ.o;omega
   case rel=>exact⟨i1,j,zs,rfl,HJ.o.1,hj,HJ.o.2.1,ar,rfl,rfl,Fz.o,mi.o,df.o⟩
def aal(w:World)(g:Nat)(J:Array Value)(p:List Int->Bool)(hs:List Ls):Prop:=∀W,Fr [] w W->∀h,h∈hs->Yf W h->
 Calls Tryz.prog g (#[h.val]++J) W fun e w'=>e= .returned (.bool (p h.l))/\Fr [] W w'
theorem GM(w:World)(A:Option Addr)(c:Nat)(hs:List Ls)(g:Nat)(cb:Array Value)(p:List Int->Bool)(eg:∀args w,(callFunc g args).run Tryz.prog w= .ok (.enter g args) w)(h:N4 w A hs)(hl:hs.length<=17592186044416)(hp:aal w g cb p hs):
  Calls Tryz.prog 50 #[.slice A hs.length c, .func (.func g) #[] cb] w (Q2 (hs.any fun h=>p h.l) w):=by
 have HH:=ae h;have HP:=ae hp;have xk:aj (∀(n:Nat) W,n<=17592186044416->(hs.any fun h=>p h.l)=true->Fr [] w W->Q2 (hs.any fun h=>p h.l) w (.returned (.int .i64 (n:Int))) W):=fun n W h1 h2 h3=>⟨n,rfl,by omega,by omega,by rw[h2];exact qak (by omega),h3⟩
 have NO:aj (∀W,(hs.any fun h=>p h.l)=false->Fr [] w W->Q2 (hs.any fun h=>p h.l) w (.returned (.int .i64 (-1))) W):=fun W h2 h3=>⟨-1,rfl,by omega,by omega,by rw[h2];rfl,h3⟩
 clear h hp;go_enter Tryz.func50,Tryz.ntmps50;go_wp2_with fail;go_loopg [8] hs.length (fun g i wr=>∃k:Nat,k+g=hs.length/\i= .int .i64 k/\Fr [] w wr/\dT hs (fun h=>p h.l) k);case atStart=>exact⟨0,by omega,rfl,Fr.refl _ _,dT.zero _ _⟩
 case round=>
  obtain⟨k,hk,rfl,hx,hn⟩:=hrel;have HK:=ae hk;have J:=ae hx;have HN:=ae hn;have iS:k<=hs.length:=by omega
  clear hk hx hn;by_cases bt:k<hs.length
  ·obtain⟨b,o,B,d,l,hA,he,cx,ok⟩:=(HH.o.keep J.o).one bt;subst hA;obtain⟨q,HQ⟩:∃q,aj (p l=q):=⟨_,rfl⟩
   have KC:=HP.o wr J.o ⟨B,d,l⟩ (by rw[<-he.o];exact bk bt) ok;have HC:aj (Calls Tryz.prog g (#[.slice B l.length d]++cb) wr fun e w'=>e= .returned (.bool (p l))/\Fr [] wr w'):=KC;clear ok KC;go_wp2_with fail;refine HC.o.mono ?_;rw[HQ.o];rintro e w2 ⟨rfl,hf⟩;have HF:=ae (J.o.ak hf);clear hf;cases q with
   |true=>
    go_wp2;go_ret;exact xk.o k _ (by omega) (kU _ _ k bt (by rw[he.o];exact HQ.o)) HF.o
   |false=>
    go_wp2;go_roundg (gk-1);case measure=>have :=HK.o;omega
    case rel=>exact⟨k+1,by have :=HK.o;omega,by go_num,HF.o,HN.o.step (by rw[he.o];exact HQ.o)⟩
  ·have HT:=ae (HN.o.all bt);clear HN HK;go_wp2;go_ret;exact NO.o _ HT.o J.o
theorem qO(w:World)(A:Option Addr)(c:Nat)(hs:List Ls)(g:Nat)(J:Array Value)(p:List Int->Bool)(eg:∀args w,(callFunc g args).run Tryz.prog w= .ok (.enter g args) w)(h:N4 w A hs)(hl:hs.length<=17592186044416)(hp:aal w g J p hs):
  Calls Tryz.prog 23 #[.slice A hs.length c, .func (.func g) #[] J] w fun e w'=>e= .returned (.bool (hs.any fun h=>p h.l))/\Fr [] w w':=by
 have HC:=ae (GM w A c hs g J p eg h hl hp);clear h hp;go_enter Tryz.func23,Tryz.ntmps23;go_wp2_with fail;refine HC.o.mono ?_;rintro e w2 ⟨n,rfl,h1,h2,h3,hf⟩;have H3:=ae h3;have HF:=ae hf;clear h3 hf;go_wp2;go_ret;exact⟨by rw[<-H3.o];rfl,HF.o⟩
def bV(b l:Int):Int:=if l%2=1 then -(b+l/2+1)else b+l/2+1
theorem Cd(w:World)(b v:Int)(hb:0<=b/\b<=1000000)(hv:0<=v/\v<=1000000):
  Calls Tryz.prog 117 #[.int .i64 b, .int .i64 v] w fun e w'=>e= .returned (.int .i64 (b+v+1))/\w=w':=by
 have h1:IntKind.i64.wrap (b+v)=b+v:=IntWalk.i64_in _ (by omega);have J:IntKind.i64.wrap (b+v+1)=b+v+1:=IntWalk.i64_in _ (by omega);go_enter Tryz.func117,Tryz.ntmps117;go_wp2;go_ret;exact⟨rfl,rfl⟩
theorem pf(w:World)(b l:Int)(hb:0<=b/\b<=1000000)(hl:0<=l/\l<=1000000):
  Calls Tryz.prog 79 #[.int .i64 b, .int .i64 l] w fun e w'=>e= .returned (.int .i64 (bV b l))/\w=w':=by
 have KN:=ae (ue w l hl.1 (by omega));have KV:=ae (kO w l hl.1 (by omega));have KO:=ae (Cd w b (l/2) hb (by omega));by_cases h1:l%2=1
 ·have d1:(l%2==1)=true:=by rw[h1];rfl
  have J:aj (bV b l= -(b+l/2+1)):=qai h1;rw[J.o];have hw:IntKind.i64.wrap (-(b+l/2+1))= -(b+l/2+1):=IntWalk.i64_in _ (by omega);clear h1;go_enter Tryz.func79,Tryz.ntmps79;go_wp2_with fail;refine KN.o.mono ?_;rintro e w1 ⟨rfl,rfl⟩;go_wp2_with fail;refine KV.o.mono ?_;rintro e w1 ⟨rfl,rfl⟩;go_wp2_with fail;refine KO.o.mono ?_;rintro e w1 ⟨rfl,rfl⟩;go_wp2;go_ret;exact⟨rfl,rfl⟩
 ·have d1:(l%2==1)=false:=by rw[aab];exact h1
  have J:aj (bV b l=b+l/2+1):=qah h1;rw[J.o];clear h1;go_enter Tryz.func79,Tryz.ntmps79;go_wp2_with fail;refine KN.o.mono ?_;rintro e w1 ⟨rfl,rfl⟩;go_wp2_with fail;refine KV.o.mono ?_;rintro e w1 ⟨rfl,rfl⟩;go_wp2_with fail;refine KO.o.mono ?_;rintro e w1 ⟨rfl,rfl⟩;go_wp2;go_ret;exact⟨rfl,rfl⟩
theorem CO(w:World)(b:Int)(hb:0<=b/\b<=262144):
  Calls Tryz.prog 78 #[.int .i64 b] w fun e w'=>e= .returned (.int .i64 b)/\w=w':=by
 have h1:decide (b<0)=false:=qaj (by omega);have J:decide (262144<b)=false:=qaj (by omega);go_enter Tryz.func78,Tryz.ntmps78;go_wp2;go_ret;exact⟨rfl,rfl⟩
theorem vz(w:World)(b l:Int)(hb:0<=b/\b<=262144)(hl:0<=l/\l<=4097):
  Calls Tryz.prog 41 #[.int .i64 b, .int .i64 l] w fun e w'=>e= .returned (.int .i64 (bV b l))/\w=w':=by
 have J:=ae (CO w b hb);have KL:=ae (pf w b l (by omega) (by omega));have hm:min l 4097=l:=by omega
 go_enter Tryz.func41,Tryz.ntmps41;go_wp2_with fail;refine J.o.mono ?_;rintro e w1 ⟨rfl,rfl⟩;go_wp2_with fail;refine KL.o.mono ?_;rintro e w1 ⟨rfl,rfl⟩;go_wp2;go_ret;exact⟨rfl,rfl⟩
theorem eE{C:Pc}(h:Valid C):∀x∈cm C,2<=x/\x<=2*C.mx/\x%2=0:=by intro x hx;obtain⟨j,J,hg⟩:=List.getElem_of_mem hx;have :=h.own j J;simp only[kw,ax,qam]at this;rw[aa,af J,aJ,hg]at this;exact⟨this.1.1.1,this.1.2,this.1.1.2⟩
theorem eF{C:Pc}(h:Valid C)(j:Nat)(J:j<C.az.length):2<=(C.az[j]!).a/\(C.az[j]!).a<=2*C.mx/\(C.az[j]!).a%2=0:=by refine eE h _ ?_;rw[aa,af J];simp only[cm,ah,aN,aJ];exact .inl (.inr ⟨_,gu J,rfl⟩)
def cu(C:Pc)(f:Int):Int:=f*(C.mx+1)
theorem jp{C:Pc}(h0:0<=C.mx)(h1:C.mx<=2048){f:Int}(J:0<=f/\f<=81):0<=cu C f/\cu C f<=165969:=by
 unfold cu;have h2:f*(C.mx+1)<=81*2049:=by have h3:f*(C.mx+1)<=81*(C.mx+1):=Int.mul_le_mul_of_nonneg_right J.2 (by omega);omega
 exact⟨Int.mul_nonneg J.1 (by omega),by omega⟩
theorem m8(w:World)(H:Hd)(C:Pc)(h0:0<=C.mx)(h1:C.mx<=2048)(f:Int)(hf:0<=f/\f<=81):
  Calls Tryz.prog 68 #[bY H C, .int .i64 f] w fun e w'=>e= .returned (.int .i64 (cu C f))/\Fr [] w w':=by
 have HX:=ae (Cx.start w H C);have hb:=jp h0 h1 hf;have eo:IntKind.i64.wrap (C.mx+1)=C.mx+1:=IntWalk.i64_in _ (by omega);have kE:IntKind.i64.wrap (f*(C.mx+1))=f*(C.mx+1):=IntWalk.i64_in _ (by unfold cu at hb;omega);have J:aj (cu C f=f*(C.mx+1)):=(rfl :cu C f=f*(C.mx+1))
 rw[J.o];clear hb J;obtain⟨mx,ins,az,outs,aI,aH,au,bD⟩:=C;obtain⟨iA,iC,lA,lC,oA,oC,bA,bC,vA,vC,gA,gC,nA,nC⟩:=H;simp only[bY,fv]at *;obtain⟨c0,c1,c2,c3,c4,c5,c6,c7⟩:=HX.o.cells;go_enter Tryz.func68,Tryz.ntmps68;go_wp2;go_ret;exact⟨rfl,HX.o.fr⟩
theorem iF(w:World)(H:Hd)(C:Pc)(h:eZ w H C)(hv:Valid C)(f:Int)(hf:0<=f/\f<=80):
  Calls Tryz.prog 67 #[bY H C, .int .i64 f] w fun e w'=>e= .returned (.bool true)/\Fr [] w w':=by
 have J:=ae (Cx.start w H C);have KC:aj (Calls Tryz.prog 22 #[bY H C] (w.alloc (.cells (fv H C) 27)) fun e w'=>e= .returned (.int .i64 0)/\Fr [] (w.alloc (.cells (fv H C) 27)) w'):=(nt _ H C (h.keep J.o.fr)).mono fun e w' ⟨h1,h2⟩=>by
  rcases h1 with⟨h3,_⟩ |⟨_,h3⟩
  ·exact⟨h3,h2⟩
  ·exact absurd hv h3
 have d0:decide (0<=f)=true:=qak hf.1;have d1:decide (f<=80)=true:=qak hf.2;clear h hv;obtain⟨mx,ins,az,outs,aI,aH,au,bD⟩:=C;obtain⟨iA,iC,lA,lC,oA,oC,bA,bC,vA,vC,gA,gC,nA,nC⟩:=H;simp only[bY,fv]at *;obtain⟨c0,c1,c2,c3,c4,c5,c6,c7⟩:=J.o.cells;go_enter Tryz.func67,Tryz.ntmps67;go_wp2_with fail;refine KC.o.mono ?_;rintro e w1 ⟨rfl,di⟩;have HF:=ae (J.o.fr.ak di);clear di;go_wp2;go_ret;exact⟨rfl,HF.o⟩
theorem p9(w:World)(H:Hd)(C:Pc)(h:eZ w H C)(J:Valid C)(f:Int)(hf:0<=f/\f<=80):
  Calls Tryz.prog 37 #[bY H C, .int .i64 f] w fun e w'=>e= .returned (.int .i64 (cu C f))/\Fr [] w w':=by
 have HX:=ae (Cx.start w H C);have KR:=ae (iF _ H C (h.keep HX.o.fr) J f hf);have KB:=ae (fun W=>m8 W H C J.m0 J.m1 f (by omega));obtain⟨B,hB⟩:∃B,cu C f=B:=⟨_,rfl⟩
 simp only[hB]at KB⊢;clear h J hB;obtain⟨mx,ins,az,outs,aI,aH,au,bD⟩:=C;obtain⟨iA,iC,lA,lC,oA,oC,bA,bC,vA,vC,gA,gC,nA,nC⟩:=H;simp only[bY,fv]at *;obtain⟨c0,c1,c2,c3,c4,c5,c6,c7⟩:=HX.o.cells;go_enter Tryz.func37,Tryz.ntmps37;go_wp2_with fail;refine KR.o.mono ?_;rintro e w1 ⟨rfl,di⟩;have ia:=ae (HX.o.keep di);obtain⟨d0,d1,d2,d3,d4,d5,d6,d7⟩:=ia.o.cells;clear di c0 c1 c2 c3 c4 c5 c6 c7;go_wp2_with fail;refine(KB.o w1).mono ?_;rintro e w2 ⟨rfl,cE⟩;have HF:=ae (ia.o.fr.ak cE);clear cE;go_wp2;go_ret;exact⟨rfl,HF.o⟩
theorem wg(w:World)(H:Hd)(C:Pc)(h:eZ w H C)(hv:Valid C)(f:Int)(hf:0<=f/\f<=80):
  Calls Tryz.prog 20 #[bY H C, .int .i64 f] w fun e w'=>e= .returned (.int .i64 (cu C f))/\Fr [] w w':=by
 have J:=ae (Cx.start w H C);have KB:=ae (p9 _ H C (h.keep J.o.fr) hv f hf);clear h hv;obtain⟨mx,ins,az,outs,aI,aH,au,bD⟩:=C;obtain⟨iA,iC,lA,lC,oA,oC,bA,bC,vA,vC,gA,gC,nA,nC⟩:=H;simp only[bY,fv]at *;obtain⟨c0,c1,c2,c3,c4,c5,c6,c7⟩:=J.o.cells;go_enter Tryz.func20,Tryz.ntmps20;go_wp2_with fail;refine KB.o.mono ?_;rintro e w2 ⟨rfl,cE⟩;have HF:=ae (J.o.fr.ak cE);clear cE;go_wp2;go_ret;exact⟨rfl,HF.o⟩
def sj(C:Pc)(f n:Int):Int:=if n<0 then -(bV (cu C f) (C.az[(-n-1).toNat]!).a)else bV (cu C f) (C.az[(n-1).toNat]!).a
theorem oT(w:World)(H:Hd)(C:Pc)(h:eZ w H C)(J:Valid C)(f:Int)(hf:0<=f/\f<=80)(n:Int)(hn:n≠0/\ -(C.az.length:Int)<=n/\n<=C.az.length):
  Calls Tryz.prog 100 #[bY H C, .int .i64 f, .int .i64 n] w fun e w'=>e= .returned (.int .i64 (sj C f n))/\Fr [] w w':=by
 obtain⟨wb,fS⟩:∃W,w.alloc (.cells (fv H C) 27)=W:=⟨_,rfl⟩
 have hx:=Cx.start w H C;rw[fS]at hx;have HX:=ae hx;have Ep:=J.l;obtain⟨j,hj,QS⟩:∃j:Nat,j<C.az.length/\(n=(j:Int)+1\/n= -((j:Int)+1)):=by
  by_cases h0:n<0
  ·exact⟨(-n-1).toNat,by omega, .inr (by omega)⟩
  ·exact⟨(n-1).toNat,by omega, .inl (by omega)⟩
 obtain⟨b,o,x,y,z,hA,he,cx,-⟩:=(h.keep hx.fr).l.one h.lr hj;have dD:=eF J j hj;rw[he.o]at dD;have hb:=jp J.m0 J.m1 (f:=f) (by omega);have KB:=ae (fun W=>m8 W H C J.m0 J.m1 f (by omega));have sl:=J.m1;have KL:=ae (fun W=>vz W (cu C f) x (by omega) (by simp only at dD;omega));obtain⟨B,hB⟩:∃B,cu C f=B:=⟨_,rfl⟩
 have sQ:1<=bV B x/\bV B x<=1000000:=by unfold bV;rw[hB]at hb;simp only at dD;rw[qah (by omega)];omega
 obtain⟨t,ht⟩:∃t,bV B x=t:=⟨_,rfl⟩
 have Fc:aj (sj C f n=if n<0 then -t else t):=by
  show _=_;unfold sj;rw[hB];rcases QS with rfl |rfl
  ·rw[qah (by omega),qah (by omega),show((j:Int)+1-1).toNat=j by omega,he.o,ht]
  ·rw[qai (by omega),qai (by omega),show(-(-((j:Int)+1))-1).toNat=j by omega,he.o,ht]
 rw[Fc.o];simp only[hB,ht]at KB KL;rw[ht]at sQ;have K1:(j:Int)<(C.az.length:Int):=by omega
 have Uz:=ae fS;clear h J hx dD hb hB ht Fc he fS;obtain⟨mx,ins,az,outs,aI,aH,au,bD⟩:=C;obtain⟨iA,iC,lA,lC,oA,oC,bA,bC,vA,vC,gA,gC,nA,nC⟩:=H;simp only[bY,fv]at *;try simp only at hA
 subst hA;obtain⟨c0,c1,c2,c3,c4,c5,c6,c7⟩:=HX.o.cells;obtain⟨e0,e1,e2,e3,e4,e5,e6,e7⟩:=HX.o.ext;have ex:=Ext.cell cx;have fS:=Uz.o;try simp only[fv]at fS
 rcases QS with rfl |rfl
 ·have d0:decide ((j:Int)+1<0)=false:=qaj (by omega);rw[qah (by omega)];have eo:IntKind.i64.wrap (-((j:Int)+1))= -((j:Int)+1):=IntWalk.i64_in _ (by omega);have tn:max ((j:Int)+1) (-((j:Int)+1))=(j:Int)+1:=by omega
  have kE:IntKind.i64.wrap ((j:Int)+1-1)=(j:Int):=by rw[show(j:Int)+1-1=(j:Int) by omega];exact IntWalk.i64_in _ (by omega)
  go_enter Tryz.func100,Tryz.ntmps100;go_upto_region 1 with fail;refine ap ?_;repeat (go_big_quiet_step (first |exact bf (KB.o _) |exact bp (KL.o _)))
  refine fq ?_;intro w2 aT;go_wp2;go_ret;exact⟨rfl,HX.o.fr.ak aT.o⟩
 ·have d0:decide (-((j:Int)+1)<0)=true:=qak (by omega);rw[qai (by omega)];have eo:IntKind.i64.wrap (- -((j:Int)+1))=(j:Int)+1:=by rw[Int.neg_neg];exact IntWalk.i64_in _ (by omega)
  have tn:max (-((j:Int)+1)) ((j:Int)+1)=(j:Int)+1:=by omega
  have kE:IntKind.i64.wrap ((j:Int)+1-1)=(j:Int):=by rw[show(j:Int)+1-1=(j:Int) by omega];exact IntWalk.i64_in _ (by omega)
  have ow:IntKind.i64.wrap (-t)= -t:=IntWalk.i64_in _ (by omega);go_enter Tryz.func100,Tryz.ntmps100;go_upto_region 1 with fail;refine ap ?_;repeat (go_big_quiet_step (first |exact bf (KB.o _) |exact bp (KL.o _)))
  refine fq ?_;intro w2 aT;go_wp2;go_ret;exact⟨rfl,HX.o.fr.ak aT.o⟩
structure Qn where
 C:Pc
 am:List Ls
 ls:List Ls
 ks:List Ls
 bad:Int
 dep:Int
 ji:Int
structure Qh where
 H:Hd
 aA:Option Addr
 aC:Nat
 lA:Option Addr
 lC:Nat
 kA:Option Addr
 kC:Nat
def pH(H:Qh)(q:Qn):Array Value:=
 #[.int .i64 q.C.mx, .slice H.H.iA q.C.ins.length H.H.iC, .slice H.H.lA q.C.az.length H.H.lC, .slice H.H.oA q.C.outs.length H.H.oC, .slice H.H.bA q.C.aI.length H.H.bC, .slice H.H.vA q.C.aH.length H.H.vC, .slice H.H.gA q.C.au.length H.H.gC, .slice H.H.nA q.C.bD.length H.H.nC,
  .slice H.aA q.am.length H.aC, .slice H.lA q.ls.length H.lC, .slice H.kA q.ks.length H.kC, .int .i64 q.bad, .int .i64 q.dep, .int .i64 q.ji]
def mv(H:Qh)(q:Qn):Value:= .agg (pH H q)
structure uO(w:World)(H:Qh)(q:Qn):Prop where
 c:eZ w H.H q.C
 a:N4 w H.aA q.am
 l:N4 w H.lA q.ls
 k:N4 w H.kA q.ks
 aL:q.am.length<=5864062014805
 lL:q.ls.length<=5864062014805
 kL:q.ks.length<=5864062014805
 br:eJ q.bad
 dr:eJ q.dep
 ur:eJ q.ji
theorem uO.keep{w w':World}{H:Qh}{q:Qn}(h:uO w H q)(J:Fr [] w w'):uO w' H q:=⟨h.c.keep J,h.a.keep J,h.l.keep J,h.k.keep J,h.aL,h.lL,h.kL,h.br,h.dr,h.ur⟩
def oW(mx:Int)(l:List Int):Bool:=decide (1024<(l.length:Int)) || !Vf mx l
theorem Ru(W:World)(g:Nat)(mx:Int)(hc:W.cell? ⟨g,0,none⟩=some (.int .i64 mx))(h0:0<=mx)(h1:mx<=2048)(h:Ls)(hk:Yf W h):
  Calls Tryz.prog 51 #[h.val, .pointer (some ⟨g,0,none⟩)] W fun e w'=>e= .returned (.bool (oW mx h.l))/\Fr [] W w':=by
 obtain⟨A,c,l⟩:=h;have KL:=ae (Eb W mx A c l h0 h1 hk.1 hk.2.1 hk.2.2.1);show Calls Tryz.prog 51 #[.slice A l.length c, .pointer (some ⟨g,0,none⟩)] W fun e w'=>e= .returned (.bool (oW mx l))/\Fr [] W w';obtain⟨Y,hY⟩:∃Y,oW mx l=Y:=⟨_,rfl⟩
 rw[hY];have HY:=ae hY;clear hk hY;by_cases hl:1024<(l.length:Int)
 ·have d0:decide (1024<(l.length:Int))=true:=qak hl;have J:Y=true:=by rw[<-HY.o];unfold oW;rw[d0];rfl
  subst J;go_enter Tryz.func51,Tryz.ntmps51;go_wp2;go_ret;exact⟨rfl,Fr.refl _ _⟩
 ·have d0:decide (1024<(l.length:Int))=false:=qaj hl;obtain⟨b,hb⟩:∃b,Vf mx l=b:=⟨_,rfl⟩
  rw[hb]at KL;have J:Y= !b:=by rw[<-HY.o];unfold oW;rw[d0,hb];rfl
  subst J;clear hb HY hl;cases b with
  |true=>
   go_enter Tryz.func51,Tryz.ntmps51;go_wp2_with fail;refine KL.o.mono ?_;rintro e w2 ⟨rfl,J⟩;have HF:=ae J;clear J;simp only[lcI];go_wp2;go_ret;exact⟨rfl,HF.o⟩
  |false=>
   go_enter Tryz.func51,Tryz.ntmps51;go_wp2_with fail;refine KL.o.mono ?_;rintro e w2 ⟨rfl,J⟩;have HF:=ae J;clear J;simp only[lcI];go_wp2;go_ret;exact⟨rfl,HF.o⟩
theorem xQ:∀args w,(callFunc 51 args).run Tryz.prog w= .ok (.enter 51 args) w:=enters_of Tryz.func51 (by kernel_rfl) rfl
theorem AV(w:World)(H:Hd)(C:Pc):
  Calls Tryz.prog 24 #[bY H C] w fun e w'=>e= .returned (.func (.func 51) #[] #[.pointer (some ⟨w.heap.size,0,none⟩)])/\w'=w.alloc (.cells (fv H C) 27):=by
 obtain⟨mx,ins,az,outs,aI,aH,au,bD⟩:=C;obtain⟨iA,iC,lA,lC,oA,oC,bA,bC,vA,vC,gA,gC,nA,nC⟩:=H;simp only[bY,fv]at *;go_enter Tryz.func24,Tryz.ntmps24;go_wp2;go_ret;exact⟨rfl,rfl⟩
theorem Dw(w:World)(H:Hd)(C:Pc):
  Calls Tryz.prog 24 #[bY H C] w fun e w'=>∃g,e= .returned (.func (.func 51) #[] #[.pointer (some ⟨g,0,none⟩)])/\w'.cell? ⟨g,0,none⟩=some (.int .i64 C.mx)/\Fr [] w w':=
 (AV w H C).mono fun e w' ⟨h1,J⟩=>⟨w.heap.size,h1,by rw[J];exact(Ua w H C).cell 0,J▸cQ _ _⟩
end
end Go.Proofs.YtpjbaobgnhjgoaaGreat
