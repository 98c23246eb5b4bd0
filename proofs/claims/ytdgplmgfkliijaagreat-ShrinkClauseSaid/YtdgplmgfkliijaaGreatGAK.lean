/- Parts of a proof. -/
import Derived.Test.YtdgplmgfkliijaaGreatGAJ
import Derived.Shelf.SlSortCmp.NoneTotal
set_option linter.unusedVariables false
set_option linter.unusedSimpArgs false
set_option maxHeartbeats 16000000
set_option maxRecDepth 100000
namespace Go.Proofs.YtdgplmgfkliijaaGreat
open Go.Shelf
def IK:Go.Shelf.Ren:=⟨fun |6=>79 |15=>104 |14=>103 |28=>129 |29=>130 |20=>121 |21=>122 |22=>123 |23=>124 |24=>125 |25=>126 |26=>127 |27=>128 |46=>143 |47=>144 |48=>145 |49=>146 |50=>147 |57=>159 |n=>n,fun |22=>22 |24=>3 |25=>70 |3=>3 |39=>134 |0=>0 |53=>153 |55=>155 |4=>4 |46=>146 |45=>145 |50=>150 |5=>5 |9=>9 |66=>162 |70=>166 |76=>175 |77=>176 |n=>n,fun |n=>n⟩
theorem Tl:Go.Proofs.SlLaysF.n6 Tryz.prog IK:={
 mixed:=by kernel_rfl
 f6:=⟨Tryz.f79.name,by decide,Tryz.func79.trans (congrArg some (by kernel_rfl))⟩
 f14:=⟨Tryz.f103.name,by decide,Tryz.func103.trans (congrArg some (by kernel_rfl))⟩
 f15:=Tryz.func104.trans (congrArg some (by kernel_rfl))
 f20:=⟨Tryz.f121.name,by decide,Tryz.func121.trans (congrArg some (by kernel_rfl))⟩
 f21:=⟨Tryz.f122.name,by decide,Tryz.func122.trans (congrArg some (by kernel_rfl))⟩
 f22:=⟨Tryz.f123.name,by decide,Tryz.func123.trans (congrArg some (by kernel_rfl))⟩
 f23:=⟨Tryz.f124.name,by decide,Tryz.func124.trans (congrArg some (by kernel_rfl))⟩
 f24:=⟨Tryz.f125.name,by decide,Tryz.func125.trans (congrArg some (by kernel_rfl))⟩
 f25:=⟨Tryz.f126.name,by decide,Tryz.func126.trans (congrArg some (by kernel_rfl))⟩
 f26:=⟨Tryz.f127.name,by decide,Tryz.func127.trans (congrArg some (by kernel_rfl))⟩
 f27:=⟨Tryz.f128.name,by decide,Tryz.func128.trans (congrArg some (by kernel_rfl))⟩
 f28:=Tryz.func129.trans (congrArg some (by kernel_rfl))
 f29:=Tryz.func130.trans (congrArg some (by kernel_rfl))
 f46:=⟨Tryz.f143.name,by decide,Tryz.func143.trans (congrArg some (by kernel_rfl))⟩
 f47:=Tryz.func144.trans (congrArg some (by kernel_rfl))
 f48:=Tryz.func145.trans (congrArg some (by kernel_rfl))
 f49:=⟨Tryz.f146.name,by decide,Tryz.func146.trans (congrArg some (by kernel_rfl))⟩
 f50:=⟨Tryz.f147.name,by decide,Tryz.func147.trans (congrArg some (by kernel_rfl))⟩
 f57:=⟨Tryz.f159.name,by decide,Tryz.func159.trans (congrArg some (by kernel_rfl))⟩
 t0:=Tryz.underlying0
 a0:=Tryz.isAgg0
 z0:=Tryz.sizeOf0
 v0:=Tryz.zeroValue0
 t3:=Tryz.underlying3
 a3:=Tryz.isAgg3
 z3:=Tryz.sizeOf3
 v3:=Tryz.zeroValue3
 t4:=Tryz.underlying4
 a4:=Tryz.isAgg4
 z4:=Tryz.sizeOf4
 v4:=Tryz.zeroValue4
 t5:=Tryz.underlying5
 a5:=Tryz.isAgg5
 z5:=Tryz.sizeOf5
 v5:=Tryz.zeroValue5
 t9:=Tryz.underlying9
 a9:=Tryz.isAgg9
 z9:=Tryz.sizeOf9
 v9:=Tryz.zeroValue9
 t22:=Tryz.underlying22
 a22:=Tryz.isAgg22
 z22:=Tryz.sizeOf22
 v22:=Tryz.zeroValue22
 a24:=Tryz.isAgg3
 z24:=Tryz.sizeOf3
 t25:=Tryz.underlying70
 a25:=Tryz.isAgg70
 z25:=Tryz.sizeOf70
 v25:=Tryz.zeroValue70
 t39:=Tryz.underlying134
 a39:=Tryz.isAgg134
 z39:=Tryz.sizeOf134
 v39:=Tryz.zeroValue134
 t45:=Tryz.underlying145
 a45:=Tryz.isAgg145
 z45:=Tryz.sizeOf145
 v45:=Tryz.zeroValue145
 t46:=Tryz.underlying146
 a46:=Tryz.isAgg146
 z46:=Tryz.sizeOf146
 v46:=Tryz.zeroValue146
 t50:=Tryz.underlying150
 a50:=Tryz.isAgg150
 z50:=Tryz.sizeOf150
 v50:=Tryz.zeroValue150
 t53:=Tryz.underlying153
 a53:=Tryz.isAgg153
 z53:=Tryz.sizeOf153
 v53:=Tryz.zeroValue153
 t55:=Tryz.underlying155
 a55:=Tryz.isAgg155
 z55:=Tryz.sizeOf155
 v55:=Tryz.zeroValue155
 t66:=Tryz.underlying162
 a66:=Tryz.isAgg162
 z66:=Tryz.sizeOf162
 v66:=Tryz.zeroValue162
 t70:=Tryz.underlying166
 a70:=Tryz.isAgg166
 z70:=Tryz.sizeOf166
 v70:=Tryz.zeroValue166
 t76:=Tryz.underlying175
 a76:=Tryz.isAgg175
 z76:=Tryz.sizeOf175
 v76:=Tryz.zeroValue175
 t77:=Tryz.underlying176
 a77:=Tryz.isAgg176
 z77:=Tryz.sizeOf176
 v77:=Tryz.zeroValue176 }
open Go.RowKit Go.Sort
theorem om (x y:Int):ltOf si x y=(decide (gN x<gN y) || (decide (gN x=gN y)&&decide (x<y))):=by
 unfold ltOf si Lr ji
 by_cases h1:gN x<gN y
 ·simp [h1]
 ·by_cases h2:gN y<gN x
  ·simp [h1,h2]
   omega
  ·have h3:gN x=gN y:=by omega
   by_cases h4:x<y
   ·simp [h3,h4]
   ·by_cases h5:y<x<;>simp [h3,h4,h5]
theorem adX:SWO (ltOf si) where
 irrefl x:=by rw [om];simp
 trans x y z h1 h2:=by
  rw [om] at *
  simp only [Bool.or_eq_true,aD,decide_eq_true_eq] at *
  omega
 ntrans x y z h1 h2:=by
  rw [om] at *
  simp only [dL,Bool.and_eq_false_iff,decide_eq_false_iff_not] at *
  omega
theorem Sh (g off size:Nat) (w:World):CmpLays1 Tryz.prog 80 #[] (Value.int .i64) si g off size w:=
 fun m os dk _ x y=>(B4 _ x y).mono fun e w' ⟨he,hw⟩=>⟨he,0,#[.cells #[.int .i64 (ji (gN x) (gN y)), .int .i64 (ji x y)] 3],by rw [hw,alloc_eq_grow];rfl⟩
end Go.Proofs.YtdgplmgfkliijaaGreat
namespace Go.Proofs.YtdgplmgfkliijaaGreat
open Go.RowKit Go.Shelf Go.Sort
theorem rE (w:World) (A:Option Addr) (c:Nat) (xs:List Int) (h:Rd w A xs) (hn:A=none→c=0) (hlen:xs.length<17592186044416):
  Calls Tryz.prog 9 #[.slice A xs.length c] w fun e w'=>∃A' c',e= .returned (.slice A' xs.length c')∧Ints w' A' c' xs∧(∀k,k∈ap A'→w.heap.size≤k)∧Fr [] w w':=by
 cases A with
 |none=>
  have h0:xs.length=0:=by
   rcases Nat.eq_zero_or_pos xs.length with h5 |h5
   ·exact h5
   ·obtain ⟨b,o,hA,_⟩:=h h5
    cases hA
  obtain rfl :xs=[]:=aJ h0
  obtain rfl :=hn rfl
  have he:∀w:World,(binOp .eql 22 (.slice none 0 0) (.slice none 0 0)).run Tryz.prog w= .ok (.bool true) w:=fun w=>Lib.run_eql_slice_nil w _ _ _ _ _ _ _ Tryz.underlying22
  have e0:([]:List Int).length=0:=rfl
  rw [e0]
  clear h hn h0
  go_enter Tryz.func9,Tryz.ntmps9
  go_wp2
  go_ret
  exact ⟨none,0,rfl,Ints.nil _,by simp [ap],Fr.refl _ _⟩
 |some ad=>
  have he:∀w:World,(binOp .eql 22 (.slice (some ad) xs.length c) (.slice none 0 0)).run Tryz.prog w= .ok (.bool false) w:=fun w=>Lib.run_eql_slice_nil w _ _ _ _ _ _ _ Tryz.underlying22
  have HC:al (∀j:Nat,∀y,xs[j]? =some y→(w.alloc (.cells #[] 3)).cell? (ad.add j)=some (.int .i64 y)):=fun j y hy=>by
   have hj:=(gK.1 hy).1
   obtain ⟨b,o,hA,hx⟩:=h (by omega)
   cases hA
   have :=(aN w (.cells #[] 3)).aT (hx j hj)
   rw [aa,hy] at this
   rw [dJ]
   simpa using this
  clear h hn
  go_enter Tryz.func9,Tryz.ntmps9
  go_wp2_with (at_builtin;(refine kW _ rfl _ _ 22 rfl 3 (.int .i64 0) 1 8 Tryz.underlying22 kc rfl (by decide) (some ⟨w.heap.size,0,none⟩) 0 0 rfl [] ?dA ad xs.length c rfl (xs.map (Value.int .i64)) (by simp) ?mh (by simp [Value.oneCell']) (by unfold maxLen;omega) (by omega) ?_;(case dA=>exact World.ownsRow_lit w #[] 0 (bH _) (by simp [maxLen]) (by simp));(case mh=>intro jj u hu;simp only [aO,Option.map_eq_some_iff] at hu;obtain ⟨y,hy,rfl⟩:=hu;exact HC.o jj y hy);intro A2 cap w2 ns bZ eY jz y9 XX;have HI:=ae ns;have cH:=ae bZ;have rV:=ae eY;have Qd:=ae y9;clear ns bZ eY jz y9 XX))
  go_ret
  refine ⟨A2,cap,by simp,?_,fun k hk=> ?_,?_⟩
  ·have :=HI.o
   unfold Ints
   simpa using this
  ·rcases rV.o k hk with h |h
   ·simp [ap] at h;omega
   ·rw [h];simp
  ·exact ((Fr.refl [] w).alloc _).trans cH.o (fun k hk=> .inr (by simp [ap] at hk;omega))
def jZ (xs:List Int):List Int:=xs.mergeSort fun x y=> !(ltOf si) y x
theorem yO (x y:Int) (h1:ltOf si x y=false) (h2:ltOf si y x=false):x=y:=by
 rw [om] at *
 simp only [dL,Bool.and_eq_false_iff,decide_eq_false_iff_not] at *
 omega
theorem xM (w:World) (g n:Nat) (d:Array Int) (os:Array Obj) (cur:Array Value) (hg:w.heap[g]? =some (.cells cur 3 (0,0))):(sortWorld (Value.int .i64) w g 0 n d os).heap[g]? =some (.cells (putCells (Value.int .i64) 0 d cur) 3 (0,0)):=by
 have bM:=(Array.getElem?_eq_some_iff.1 hg).1
 unfold sortWorld grow putRow mapBlock Sort.ahead
 simp only
 rw [Array.getElem?_append_left (by simpa using bM),Array.getElem?_modify,if_pos rfl,hg]
 rfl
theorem zN (w:World) (g n:Nat) (d:Array Int) (os:Array Obj):Fr [g] w (sortWorld (Value.int .i64) w g 0 n d os):=by
 unfold sortWorld grow putRow mapBlock Sort.ahead
 refine ⟨rfl,rfl,rfl,by simp,fun k hk hn=> ?_⟩
 simp only
 rw [Array.getElem?_append_left (by simpa using hk),Array.getElem?_modify,if_neg (fun e=>hn (by simp [e]))]
theorem FQ:∀args w,(callFunc 80 args).run Tryz.prog w= .ok (.enter 80 args) w:=enters_of Tryz.func80 (by kernel_rfl) rfl
theorem Ek (w:World) (g c:Nat) (xs:List Int) (h:Ints w (some ⟨g,0,none⟩) c xs) (hl:xs.length≤17592186044416):
  Calls Tryz.prog 79 #[.slice (some ⟨g,0,none⟩) xs.length c, .func (.func 80) #[] #[]] w fun e w'=>e= .returned (.tuple #[])∧Ints w' (some ⟨g,0,none⟩) c (jZ xs)∧Fr [g] w w':=by
 have bM:g<w.heap.size:=(World.ownsRow.lt h g rfl).2
 have hH:Holds (Value.int .i64) w g 0 xs.toArray:=fun j hj=>by
  have RG:j<xs.length:=by simpa using hj
  rw [cS]
  refine ⟨?_,h.frozen j⟩
  rw [h.cell RG]
  simp [RG]
 have mi:=Any.slices_SortFunc_total Tl (Value.int .i64) (fun _=>rfl) si adX 80 #[] g 0 c xs.toArray w FQ (Sh g 0 xs.toArray.size w) hH bM (by simp;omega) yO
 change Calls Tryz.prog 79 _ _ _ at mi
 have nq:xs.toArray.size=xs.length:=by simp
 rw [nq] at mi
 refine mi.mono ?_
 rintro e w' ⟨rfl,n,os,rfl⟩
 have hm:(xs.toArray.toList.mergeSort fun x y=> !(ltOf si) y x)=jZ xs:=rfl
 rw [hm]
 have DX:(jZ xs).length=xs.length:=List.length_mergeSort _
 refine ⟨rfl,?_,zN w g n _ os⟩
 rcases h.2 with ⟨h1,_⟩ |⟨g',cap,cur,hv,hb,hg,hn,hm,Vt,ht⟩
 ·cases h1
 ·simp only [Value.slice.injEq,Option.some.injEq,Addr.mk.injEq,and_true,true_and] at hv
  obtain ⟨rfl,rfl⟩:=hv
  refine ⟨by simp, .inr ⟨g,c,_,rfl,hb,xM w g n _ os cur hg,by rw [DX];exact hn,hm,by simp [putCells,Vt],?_⟩⟩
  apply List.ext_getElem?
  intro k
  rw [mz,DX]
  have xE:cur.size=c:=by omega
  by_cases hk:k<xs.length
  ·rw [List.getElem?_take,if_pos hk]
   have XT:k<cur.size:=by omega
   have hkd:k<(jZ xs).length:=by omega
   simp [putCells,XT,hkd]
  ·rw [List.getElem?_take,if_neg hk,kt (by rw [aq,DX];omega)]
theorem Mw (w:World) (A:Option Addr) (c:Nat) (xs:List Int) (h:Ints w A c xs) (hl:xs.length≤17592186044416):
  Calls Tryz.prog 79 #[.slice A xs.length c, .func (.func 80) #[] #[]] w fun e w'=>e= .returned (.tuple #[])∧Ints w' A c (jZ xs)∧Fr (ap A) w w':=by
 rcases h.form with ⟨rfl,rfl,rfl⟩ |⟨g,rfl,_⟩
 ·have mi:=AnyF.slices_SortFunc_none { Tl with } none 0 (.func (.func 80) #[] #[]) w
  change Calls Tryz.prog 79 _ _ _ at mi
  refine mi.mono ?_
  rintro e w' ⟨rfl,rfl⟩
  refine ⟨rfl,?_,Fr.refl _ _⟩
  have :jZ []=[]:=aJ (List.length_mergeSort _)
  rw [this]
  exact h
 ·exact (Ek w g c xs h hl).mono fun e w' ⟨he,h1,h2⟩=>⟨he,h1,by simpa [ap] using h2⟩
theorem Dh (xs:List Int):∀k,(fX xs k).length≤k
 |0=>by simp [fX]
 |k+1=>by
  have :=Dh xs k
  rw [fX]
  split
  ·simp;omega
  ·omega
def nrm (xs:List Int):List Int:=Sd (jZ (xs.filter fun x=> !(x==0)))
theorem zZ (xs:List Int):(nrm xs).length≤xs.length:=by
 have h1:(nrm xs).length≤(jZ (xs.filter fun x=> !(x==0))).length:=Dh _ _
 have h2:(jZ (xs.filter fun x=> !(x==0))).length=(xs.filter fun x=> !(x==0)).length:=List.length_mergeSort _
 have h3:=List.length_filter_le (fun x=> !(x==0)) xs
 omega
theorem wM (xs:List Int):∀k,k≤xs.length→∀x∈fX xs k,x∈xs
 |0,_,x,h=>by simp [fX] at h
 |k+1,hk,x,h=>by
  rw [fX] at h
  split at h
  ·rcases ag.1 h with h |h
   ·exact wM xs k (by omega) x h
   ·rw [ah.1 h]
    exact bu (l:=xs) (k:=k) (by omega)
  ·exact wM xs k (by omega) x h
theorem lp {xs:List Int} {x:Int} (h:x∈nrm xs):x∈xs∧x≠0:=by
 have h1:=wM _ _ (au _) x h
 have h2:x∈xs.filter fun x=> !(x==0):=List.mem_mergeSort.1 h1
 rw [cq] at h2
 exact ⟨h2.1,by simpa using h2.2⟩
def lD (ys:List Int) (j:Nat):Bool:=ys[j]! ==wrap64 (-(ys[j+1]!))
def px (ys:List Int):Bool:=(List.range (ys.length-1)).any (lD ys)
def O1 (xs:List Int) (w:World) (e:Ending) (w':World):Prop:=∃(A:Option Addr) (c:Nat),e= .returned (.tuple #[.slice A (nrm xs).length c, .bool (px (nrm xs))])∧Ints w' A c (nrm xs)∧(∀k,k∈ap A→w.heap.size≤k)∧Fr [] w w'
theorem B5 (W:World) (x:Int):Calls Tryz.prog 78 #[.int .i64 x] W fun e w'=>e= .returned (.bool (x==0))∧Fr [] W w':=by
 go_enter Tryz.func78,Tryz.ntmps78
 go_wp2
 go_ret
 exact ⟨rfl,Fr.refl _ _⟩
theorem Az:∀args w,(callFunc 78 args).run Tryz.prog w= .ok (.enter 78 args) w:=enters_of Tryz.func78 (by kernel_rfl) rfl
theorem EE (w:World) (A:Option Addr) (c:Nat) (xs:List Int) (h:Rd w A xs) (hr:Ra xs) (hl:xs.length≤1048576) (hn:A=none→c=0):
  Calls Tryz.prog 48 #[.slice A xs.length c] w (O1 xs w):=by
 have DL:=ae (rE w A c xs h hn (by omega))
 have HR:=ae hr
 clear h hr hn
 go_enter Tryz.func48,Tryz.ntmps48
 go_wp2_with fail
 refine DL.o.mono ?_
 rintro e w1 ⟨A1,c1,rfl,ho,hb,cU⟩
 have yr:=ae (wJ w1 A1 c1 xs 78 #[] (fun x=>x==0) Az ho HR.o (by omega) (fun W hW x _ _=>B5 W x))
 have HB:=ae hb
 have dy:=ae cU
 clear ho hb cU DL
 go_wp2_with fail
 refine yr.o.mono ?_
 rintro e w2 ⟨rfl,ho,hf⟩
 have RO:=List.length_filter_le (fun x:Int=> !(x==0)) xs
 have HS:=ae (Mw w2 A1 c1 (xs.filter fun x=> !(x==0)) ho (by omega))
 have cH:al (Fr [] w w2):=dy.o.trans hf (fun x hx=> .inr (HB.o x hx))
 have Ai:(jZ (xs.filter fun x=> !(x==0))).length=(xs.filter fun x=> !(x==0)).length:=List.length_mergeSort _
 have Me:=ae Ai
 clear yr dy hf ho Ai
 go_wp2_with fail
 refine HS.o.mono ?_
 rintro e w3 ⟨rfl,ho,hf⟩
 have ZW:Ra (jZ (xs.filter fun x=> !(x==0))):=Ra.sub HR.o (fun y hy=>(cq.1 (List.mem_mergeSort.1 hy)).1)
 have HC:=ae (Di w3 A1 c1 (jZ (xs.filter fun x=> !(x==0))) ho ZW (by rw [Me.o];omega))
 rw [Me.o] at HC
 have cZ:al (Fr [] w w3):=cH.o.trans hf (fun x hx=> .inr (HB.o x hx))
 clear HS cH hf ho ZW RO
 go_wp2_with fail
 refine HC.o.mono ?_
 rintro e w4 ⟨rfl,ho,hf⟩
 have fM:al (Fr [] w w4):=cZ.o.trans hf (fun x hx=> .inr (HB.o x hx))
 obtain ⟨ys,Lu⟩:∃ys,Sd (jZ (xs.filter fun x=> !(x==0)))=ys:=⟨_,rfl⟩
 have hyn:nrm xs=ys:=Lu
 have hyl:ys.length≤xs.length:=by rw [←hyn];exact zZ xs
 have HRY:al (Ra ys):=Ra.sub HR.o (fun y hy=>(lp (by rw [hyn];exact hy)).1)
 rw [Lu] at ho⊢
 have HO:=ae ho
 have pP:al (∀q W,Fr [] w4 W→px ys=q→O1 xs w (.returned (.tuple #[.slice A1 ys.length c1, .bool q])) W):=fun q W hW hq=>by
  unfold O1
  rw [hyn]
  exact ⟨A1,c1,by rw [hq],HO.o.dX hW,HB.o,fM.o.aj hW⟩
 clear HC cZ hf ho Lu hyn
 go_wp2_with fail
 go_loopg [16] ys.length (fun g i wr=>∃k:Nat,k+g=ys.length∧i= .int .i64 k∧al (∀j:Nat,j+1<k→lD ys j=false)∧Fr [] w4 wr)
 case atStart=>exact ⟨0,by omega,rfl,fun j hj=>absurd hj (aI _),Fr.refl _ _⟩
 case round=>
  obtain ⟨k,hk,rfl,Qc,hf⟩:=hrel
  have HK:=ae hk
  have HF:=ae hf
  have ly:k≤ys.length:=by omega
  clear hk hf
  by_cases bM:k<ys.length
  ·obtain ⟨b,o,x,hA,he,cx,ij,ix⟩:=(HO.o.dX HF.o).rd.one HRY.o bM
   subst hA
   cases k with
   |zero=>
    rw [Nat.add_zero] at cx
    go_wp2
    go_roundg (gk-1)
    case measure=>have :=HK.o;omega
    case rel=>exact ⟨1,by have :=HK.o;omega,by go_num,fun j hj=>absurd hj (by omega),HF.o⟩
   |succ j=>
    obtain ⟨b',o',x',Bi,dZ,OL,Vb,ZA⟩:=(HO.o.dX HF.o).rd.one HRY.o (j:=j) (by omega)
    simp only [Option.some.injEq,Addr.mk.injEq,and_true] at Bi
    obtain ⟨rfl,rfl⟩:=Bi
    obtain ⟨q,hq⟩:∃q:Bool,(x'==wrap64 (-x))=q:=⟨(x'==wrap64 (-x)),rfl⟩
    have PU:lD ys j=q:=by
     unfold lD
     rw [he.o,dZ.o]
     exact hq
    have HTA:=ae PU
    clear PU
    cases q with
    |true=>
     have YY:=ae (pP.o true wr HF.o (by
      unfold px
      rw [bI]
      exact ⟨j,df.2 (by omega),HTA.o⟩))
     go_wp2
     go_ret2
     exact YY.o
    |false=>
     have ahv:al (∀i:Nat,i+1<j+1+1→lD ys i=false):=fun i hi=>by
      by_cases e:i=j
      ·rw [e];exact HTA.o
      ·exact Qc.o i (by omega)
     go_wp2
     go_roundg (gk-1)
     case measure=>have :=HK.o;omega
     case rel=>exact ⟨j+1+1,by have :=HK.o;omega,by go_num,ahv.o,HF.o⟩
  ·have YY:=ae (pP.o false wr HF.o (by
    unfold px
    rw [List.any_eq_false]
    intro j hj
    rw [df] at hj
    rw [Qc.o j (by omega)]
    simp))
   clear HK
   go_wp2
   go_ret2
   exact YY.o
end Go.Proofs.YtdgplmgfkliijaaGreat
namespace Go.Proofs.YtdgplmgfkliijaaGreat
open Go.RowKit
namespace Sv
def ge (S:Sv) (out:List Int):Sv:=if out.length=0 then { S with bad:=true } else if out.length=1 then S.put out[0]! 0 else S.attach out false
def leftOf (S:Sv) (out:List Int):List Int:=out.filter fun x=> !decide (S.val x<0)
def lX (S:Sv) (out:List Int):Bool:=px out ||out.any fun x=>decide (0<S.val x)
def fl (S:Sv) (l:List Int):Sv×Int:=
 if fK S.vars l=0 then (if S.lX (nrm l)=true then S.bw else S.bw.ge (S.leftOf (nrm l)),0) else (S,fK S.vars l)
theorem o6 {vars:Nat} {l:List Int} (hr:Ra l) (h:fK vars l=0):l.length≤1024∧∀x∈l,x≠0∧ -(vars:Int)≤x∧x≤vars:=by
 unfold fK at h
 split at h
 ·omega
 ·split at h
  ·omega
  ·rename_i h1 h2
   refine ⟨by omega,fun x hx=> ?_⟩
   have h3:iw vars x=false:=by
    rw [bI] at h2
    cases h4:iw vars x with
    |false=>rfl
    |true=>exact absurd ⟨x,hx,h4⟩ h2
   unfold iw at h3
   simp only [dL,decide_eq_false_iff_not] at h3
   have h5:=Eh ((dW (p:=dY)).1 hr x hx)
   refine ⟨zB (by omega),by omega,by omega⟩
theorem Ok.ge {S:Sv} (ok:S.Ok 0) {out:List Int} (h1:out.length≤1048576) (hl:∀x∈out,x≠0∧ -(S.vars:Int)≤x∧x≤S.vars) (hr:S.list.length<2199023255552):(S.ge out).Ok 0∧(S.ge out).vars=S.vars:=by
 unfold Sv.ge
 split
 ·exact ⟨ok.zP true,rfl⟩
 ·split
  ·exact ⟨ok.put ⟨by omega,by omega⟩,rfl⟩
  ·exact ⟨ok.attach ⟨by omega,h1,hl⟩ false hr,(ch _ out false).2.1⟩
theorem ol {S:Sv} {l:List Int} (hr:Ra l) (h:fK S.vars l=0):(S.leftOf (nrm l)).length≤1024∧∀x∈S.leftOf (nrm l),x≠0∧ -(S.vars:Int)≤x∧x≤S.vars:=by
 obtain ⟨h1,h2⟩:=o6 hr h
 have h3:=zZ l
 have h4:=List.length_filter_le (fun x=> !decide (S.val x<0)) (nrm l)
 refine ⟨by unfold leftOf;omega,fun x hx=> ?_⟩
 unfold leftOf at hx
 exact h2 x (lp (cq.1 hx).1).1
theorem Ok.fl {S:Sv} (ok:S.Ok 0) {l:List Int} (lM:Ra l) (hr:S.list.length<2199023255552):(S.fl l).1.Ok 0∧(S.fl l).1.vars=S.vars:=by
 unfold Sv.fl
 split
 ·rename_i h
  split
  ·exact ⟨ok.bw,rfl⟩
  ·obtain ⟨h1,h2⟩:=ol (S:=S) lM h
   exact Ok.ge (S:=S.bw) ok.bw (by omega) h2 hr
 ·exact ⟨ok,rfl⟩
end Sv
theorem Gb (W:World) (b:Nat) (L:aQ) (S:Sv) (h:bf W L S) (ok:S.Ok 0) (hb:W.cell? ⟨b,0,none⟩=some (.pointer (some ⟨L.a,0,none⟩))) (x:Int) (hx:dY x):
  Calls Tryz.prog 49 #[.int .i64 x, .pointer (some ⟨b,0,none⟩)] W fun e w'=>e= .returned (.bool (decide (0<S.val x)))∧Fr [] W w':=by
 have c0:=h.cells.1
 have KV:=ae (dQ W L.tL S.T h.tr x hx.1 hx.2 ok.small)
 obtain ⟨v,hv⟩:∃v,S.T.kQ x=v:=⟨_,rfl⟩
 rw [hv] at KV
 have e:decide (0<S.val x)=decide (0<v):=by unfold Sv.val;rw [hv]
 rw [e]
 clear h ok hv e
 go_enter Tryz.func49,Tryz.ntmps49
 go_wp2_with fail
 refine KV.o.mono ?_
 rintro e w1 ⟨rfl,rfl⟩
 go_wp2
 go_ret
 exact ⟨rfl,Fr.refl _ _⟩
theorem Ga (W:World) (b:Nat) (L:aQ) (S:Sv) (h:bf W L S) (ok:S.Ok 0) (hb:W.cell? ⟨b,0,none⟩=some (.pointer (some ⟨L.a,0,none⟩))) (x:Int) (hx:dY x):
  Calls Tryz.prog 52 #[.int .i64 x, .pointer (some ⟨b,0,none⟩)] W fun e w'=>e= .returned (.bool (decide (S.val x<0)))∧Fr [] W w':=by
 have c0:=h.cells.1
 have KV:=ae (dQ W L.tL S.T h.tr x hx.1 hx.2 ok.small)
 obtain ⟨v,hv⟩:∃v,S.T.kQ x=v:=⟨_,rfl⟩
 rw [hv] at KV
 have e:decide (S.val x<0)=decide (v<0):=by unfold Sv.val;rw [hv]
 rw [e]
 clear h ok hv e
 go_enter Tryz.func52,Tryz.ntmps52
 go_wp2_with fail
 refine KV.o.mono ?_
 rintro e w1 ⟨rfl,rfl⟩
 go_wp2
 go_ret
 exact ⟨rfl,Fr.refl _ _⟩
theorem Da:∀args w,(callFunc 49 args).run Tryz.prog w= .ok (.enter 49 args) w:=enters_of Tryz.func49 (by kernel_rfl) rfl
theorem C9:∀args w,(callFunc 52 args).run Tryz.prog w= .ok (.enter 52 args) w:=enters_of Tryz.func52 (by kernel_rfl) rfl
theorem Ks (w:World) (L:aQ) (S:Sv) (h:bf w L S) (ok:S.Ok 0) (A:Option Addr) (c:Nat) (l:List Int) (rQ:Bk w L A l) (lM:Ra l) (hn:A=none→c=0) (hr:S.list.length<2199023255552) (hu:S.used≤2199023255552):
  Calls Tryz.prog 27 #[.pointer (some ⟨L.a,0,none⟩), .slice A l.length c] w (oF (.int .i64 (S.fl l).2) (S.fl l).1 L w):=by
 obtain ⟨dC,fh⟩:∃dC,S.fl l=dC:=⟨_,rfl⟩
 rw [fh]
 have eP:=ae fh
 obtain ⟨w1,dO⟩:∃w1,w.alloc (.cells #[.pointer (some ⟨L.a,0,none⟩)] 59)=w1:=⟨_,rfl⟩
 have fE:al (Fr [] w w1):=by rw [←dO];exact aN _ _
 have mR:w1.cell? ⟨w.heap.size,0,none⟩=some (.pointer (some ⟨L.a,0,none⟩)):=by rw [←dO];exact (At.new w _ _).cell 0
 have xq:=ae mR
 obtain ⟨L1,xF⟩:∃L1,L.shut w=L1:=⟨_,rfl⟩
 have H1:al (bf w1 L1 S):=by rw [←xF];exact h.shut.keep fE.o
 have eG:al (L.ext L1 w):=by rw [←xF];exact L.lY w
 have SL:al (∀k,w.heap.size≤k→(L1.cQ k).1≠L1.id):=fun k hk=>by rw [←xF];exact aQ.ju hk
 have dy:al (Fr (L.own w) w w1):=fE.o.mono (fun k hk=>by cases hk)
 have uR:al (Bk w1 L1 A l):=⟨rQ.1.keep fE.o,fun h0=>Ax eG.o (rQ.2 h0) (fun k hk=>rQ.1.blk h0 k hk)⟩
 have kM:=ae ok
 have nv:=ae lM
 have HN:=ae hn
 have rO:=ae hr
 have HU:=ae hu
 have KM:=ae (vt w1 L1 S H1.o)
 have KC:=ae (gX w1 (S.vars:Int) A c l uR.o.1 lM)
 have lO:L1.a=L.a:=eG.o.1
 rw [lO] at KM
 obtain ⟨-,-,c2,-⟩:=H1.o.cells
 rw [lO] at c2
 obtain ⟨ck,D0⟩:∃ck,fK (S.vars:Int) l=ck:=⟨_,rfl⟩
 rw [D0] at KC
 have Uy:=ae D0
 clear h ok rQ lM hn hr hu xF fh D0
 go_enter Tryz.func27,Tryz.ntmps27
 go_upto_region 1 with fail
 clear dO
 go_wp2_with fail
 refine KM.o.mono ?_
 clear KM
 rintro e w2 ⟨rfl,rfl⟩
 go_wp2_with fail
 refine KC.o.mono ?_
 clear KC c2
 rintro e w2 ⟨rfl,bZ⟩
 have cH:=ae bZ
 have H2:=ae (H1.o.keep bZ)
 have uj:=ae (uR.o.keep bZ)
 have mR:=bZ.aT xq.o
 have XC:=ae mR
 have SW:al (Fr (L.own w) w w2):=dy.o.aj (bZ.mono (fun k hk=>by cases hk))
 clear bZ
 by_cases JP:ck=0
 ·have hd:(ck==(0:Int))=true:=by simp [JP]
  have RW:fK (S.vars:Int) l=0:=by rw [Uy.o];exact JP
  have abN:=ae (Sv.o6 nv.o RW)
  have Ut:=ae (Sv.ol (S:=S) nv.o RW)
  have oG:al (dC=(if S.lX (nrm l)=true then S.bw else S.bw.ge (S.leftOf (nrm l)),0)):=by
   rw [←eP.o]
   unfold Sv.fl
   rw [if_pos RW]
   rfl
  have f14:=H2.o.obj.frozen 14
  have f7:=H2.o.obj.frozen 7
  obtain ⟨-,-,-,-,-,-,-,c7,-,-,-,-,-,-,c14⟩:=H2.o.cells
  rw [lO] at f14 f7 c7 c14
  obtain ⟨L3,h3,xD,dD⟩:=H2.o.bw
  rw [lO] at h3 dD
  have Qe:=ae h3
  have SY:=ae xD
  have Pz:=ae dD
  clear h3 xD dD RW
  go_wp2
  go_region
  obtain ⟨w3,rf⟩:∃w3,((w2.setCell ⟨L.a,14,none⟩ (.bool false)).setCell ⟨L.a,7,none⟩ (.slice none 0 0)).drew=w3:=⟨_,rfl⟩
  rw [rf] at Qe Pz⊢
  have H3:=Qe
  have iu:al (L.ext L3 w):=aQ.aX eG.o SY.o SW.o.size
  have cZ:al (Fr (L.own w) w w3):=aQ.aR eG.o SW.o Pz.o
  have Qb:al (Bk w3 L3 A l):=uj.o.step SY.o Pz.o
  have Lc:al (w.heap.size∉L1.own w2):=aQ.mN (SL.o _ (au _))
  have ua:=Pz.o.bD Lc.o XC.o
  have GD:=ae ua
  have abY:al (∀k,w.heap.size≤k→k<w2.heap.size→(L3.cQ k).1≠L3.id):=fun k hk RB e=>SL.o k hk (SY.o.2.2 k RB (e.trans SY.o.2.1))
  have sP:=ae kM.o.bw
  have Cq:w.heap.size<w2.heap.size:=bE XC.o
  have ag8:=ae Cq
  --from here on adS is new is Zb
  obtain ⟨L4,T7⟩:∃L4,L3.shut w3=L4:=⟨_,rfl⟩
  have H4:al (bf w3 L4 S.bw):=by rw [←T7];exact H3.o.shut
  have uS:al (L.ext L4 w):=by rw [←T7];exact aQ.aX iu.o (L3.lY w3) cZ.o.size
  have abX:al (∀k,w3.heap.size≤k→(L4.cQ k).1≠L4.id):=fun k hk=>by rw [←T7];exact aQ.ju hk
  have aor:al ((L4.cQ w.heap.size).1≠L4.id):=by
   show _≠_
   rw [←T7,aQ.qag (bE GD.o)]
   exact abY.o _ (au _) ag8.o
  have KN:=ae (EE w3 A c l Qb.o.1 nv.o (by have :=abN.o.1;omega) HN.o)
  have JN:L4.a=L.a:=uS.o.1
  clear rf mR c7 c14 f7 f14 Qe Pz T7 Cq H2 uj XC SW Lc ua
  go_wp2_with fail
  refine KN.o.mono ?_
  clear KN
  rintro e w4 ⟨A4,c4,rfl,Ak,hA4,eW⟩
  obtain ⟨out,Q5⟩:∃out,nrm l=out:=⟨_,rfl⟩
  rw [Q5] at Ak
  rw [Q5]
  have SH:=ae Q5
  have HRO:al (Ra out):=Ra.sub nv.o (fun y hy=>(lp (by rw [SH.o];exact hy)).1)
  have HOL:al (out.length≤1024):=by
   have h5:=zZ l
   rw [SH.o] at h5
   have :=abN.o.1
   show _≤_
   omega
  have Mg:=ae Ak
  have HA4:=ae hA4
  have fM:=ae eW
  have H5:=ae (H4.o.keep eW)
  have acz:=ae (eW.aT GD.o)
  have ack:al (Fr (L.own w) w w4):=cZ.o.aj (eW.mono (fun k hk=>by cases hk))
  obtain ⟨tb,htb⟩:∃tb,px out=tb:=⟨_,rfl⟩
  rw [htb]
  have HTB:=ae htb
  have iZ:=oG.o
  unfold Sv.lX at iZ
  rw [SH.o,htb] at iZ
  have AT:=ae (gW w4 A4 c4 out 49 #[.pointer (some ⟨w.heap.size,0,none⟩)] (fun x=>decide (0<S.val x)) Da Ak.rd HRO.o (by have :=HOL.o;omega) (fun W hW x _ hx=>Gb W w.heap.size L4 S.bw (H5.o.keep hW) sP.o (by rw [JN];exact hW.aT acz.o) x hx))
  clear Ak hA4 eW Q5 htb
  cases tb with
  |true=>
   rw [Bool.true_or,if_pos rfl] at iZ
   have FF:al (oF (.int .i64 dC.2) dC.1 L w (.returned (.int .i64 0)) w4):=by rw [iZ];exact ⟨rfl,L4,H5.o,uS.o,ack.o⟩
   clear iZ AT
   go_wp2
   go_ret
   exact FF.o
  |false=>
   rw [Bool.false_or] at iZ
   obtain ⟨p,hp⟩:∃p,(out.any fun x=>decide (0<S.val x))=p:=⟨_,rfl⟩
   rw [hp] at AT iZ
   have HRP:=ae iZ
   clear hp iZ
   go_wp2_with fail
   refine AT.o.mono ?_
   clear AT
   rintro e w5 ⟨rfl,eu⟩
   have H6:=ae (H5.o.keep eu)
   have Uu:=ae (Mg.o.dX eu)
   have acy:=ae (eu.aT acz.o)
   have acj:al (Fr (L.own w) w w5):=ack.o.aj (eu.mono (fun k hk=>by cases hk))
   have aoa:al (w3.heap.size≤w5.heap.size):=aF fM.o.size eu.size
   clear eu
   cases p with
   |true=>
    have iZ:=HRP.o
    rw [if_pos rfl] at iZ
    have FF:al (oF (.int .i64 dC.2) dC.1 L w (.returned (.int .i64 0)) w5):=by rw [iZ];exact ⟨rfl,L4,H6.o,uS.o,acj.o⟩
    clear iZ
    go_wp2
    go_ret
    exact FF.o
   |false=>
    have iZ:=HRP.o
    rw [if_neg (by simp)] at iZ
    have ahd:=ae iZ
    clear iZ HRP
    have HBA:al (w.heap.size∉ap A4):=fun hm=>by
     have h5:=HA4.o _ hm
     have h6:w.heap.size<w3.heap.size:=bE GD.o
     omega
    have PD:al (∀k,k∈ap A4→(L4.cQ k).1≠L4.id):=fun k hk=>abX.o k (HA4.o k hk)
    have O7:=ae (wJ w5 A4 c4 out 52 #[.pointer (some ⟨w.heap.size,0,none⟩)] (fun x=>decide (S.val x<0)) C9 Uu.o HRO.o (by have :=HOL.o;omega) (fun W hW x _ hx=>Ga W w.heap.size L4 S.bw (H6.o.fr hW (fun k hk _=>PD.o k hk)) sP.o (by rw [JN];exact hW.bD HBA.o acy.o) x hx))
    go_wp2_with fail
    refine O7.o.mono ?_
    clear O7
    rintro e w6 ⟨rfl,V1,fN⟩
    have NI:S.leftOf out=out.filter fun x=> !decide (S.val x<0):=rfl
    rw [←NI] at V1
    rw [←NI]
    obtain ⟨ys,Lu⟩:∃ys,S.leftOf out=ys:=⟨_,rfl⟩
    have HLY:al (ys.length≤1024∧∀x∈ys,x≠0∧ -(S.vars:Int)≤x∧x≤S.vars):=by
     have h5:=Ut.o
     rw [SH.o,Lu] at h5
     exact h5
    have iZ:=ahd.o
    rw [Lu] at V1 iZ⊢
    have H7:=ae (H6.o.fr fN (fun k hk _=>PD.o k hk))
    have xI:=ae V1
    have acx:=ae (fN.bD HBA.o acy.o)
    have K7:al (∀k,k∈ap A4→w.heap.size≤k):=fun k hk=>aF cZ.o.size (HA4.o k hk)
    have Py:al (Fr (L.own w) w w6):=acj.o.trans fN (fun k hk=> .inr (K7.o k hk))
    have oG:=ae iZ
    have mR:=acx.o
    clear fN V1 Lu NI iZ
    by_cases jJ:ys.length=0
    ·have hd0:((ys.length:Int)==(0:Int))=true:=by simp [jJ]
     have iZ:=oG.o
     unfold Sv.ge at iZ
     rw [if_pos jJ] at iZ
     have f13:=H7.o.obj.frozen 13
     have LX:=H7.o.cells.2.2.2.2.2.2.2.2.2.2.2.2.2.1
     rw [JN] at f13 LX
     obtain ⟨g8,f8⟩:=H7.o.pk 13 (.bool true) { S.bw with bad:=true } (by simp [oQ]) ⟨rfl,rfl,rfl,rfl,rfl,rfl,rfl⟩
     rw [JN] at g8 f8
     have FF:al (oF (.int .i64 dC.2) dC.1 L w (.returned (.int .i64 0)) (w6.setCell ⟨L.a,13,none⟩ (.bool true))):=by rw [iZ];exact ⟨rfl,L4,g8,uS.o,aQ.aR uS.o Py.o f8⟩
     clear iZ g8 f8
     go_wp2
     go_ret
     exact FF.o
    ·have hd0:((ys.length:Int)==(0:Int))=false:=by rw [beq_eq_false_iff_ne];omega
     by_cases im:ys.length=1
     ·have zd:((ys.length:Int)==(1:Int))=true:=by simp [im]
      have iZ:=oG.o
      unfold Sv.ge at iZ
      rw [if_neg jJ,if_pos im] at iZ
      obtain ⟨ga,o3,sE⟩:=xI.o.pos (i:=0) (by omega)
      subst o3
      have s1:=xI.o.cell (i:=0) (by omega)
      have s0:=H7.o.cells.1
      rw [JN] at s0
      obtain ⟨y,hy⟩:∃y,ys[0]! =y:=⟨_,rfl⟩
      rw [hy] at s1 iZ
      have PR:=HLY.o.2 y (by rw [←hy];exact get_mem (l:=ys) (i:=0) (by omega))
      obtain ⟨-,QU,aeD⟩:=PR
      have uT:=ae s0
      have pu:=ae s1
      have KP:=ae (fun W (hW:Fr [] w6 W)=>mc W L4 S.bw (H7.o.keep hW) 0 sP.o y 0 QU aeD)
      have hly:0<ys.length:=by omega
      have abL:=ae iZ
      clear iZ hy s0 s1
      go_wp2_with fail
      go_upto_region 16 with fail
      refine wp_region_noPanic ?_
      refine bp (fun w':World=>Fr [] w6 w') 7 (by kernel_rfl) ((Fr.refl [] w6).drew) (fun db=> ?_)
      refine pf 7 [(0,[0,1,2,3,7]),(1,[]),(2,[]),(3,[3,7]),(4,[]),(5,[]),(6,[6,7])] db (fun w cm=>And.intro (cm.aT acx.o) (And.intro (cm.aT uT.o) (cm.aT pu.o))) ?_;intro db
      refine R2 7 db fun K hK aH=> ?_
      (go_simp;refine (KP.o _ aH).mono ?_;rintro e w8 ⟨⟨x8,rfl⟩,L8,h8,RS,jg⟩;dsimp only)
      refine hK.out _ _ (.inl rfl) (fun Wi=> ?_)
      clear hK K
      try simp only [Act.put,q5,q6,q7]
      refine fo ?_
      clear KP
      have FF:al (oF (.int .i64 dC.2) dC.1 L w (.returned (.int .i64 0)) w8):=by rw [abL.o];exact ⟨rfl,L8,h8,aQ.aX uS.o RS (aF Py.o.size aH.size),aQ.aR uS.o (Py.o.aj (aH.mono (fun k hk=>by cases hk))) jg⟩
      clear h8 RS jg
      go_wp2
      go_ret
      exact FF.o
     ·have zd:((ys.length:Int)==(1:Int))=false:=by rw [beq_eq_false_iff_ne];omega
      have iZ:=oG.o
      unfold Sv.ge at iZ
      rw [if_neg jJ,if_neg im] at iZ
      have ahc:=ae iZ
      clear iZ
      have up:al (S.bw.Fits ys):=⟨by omega,by have :=HLY.o.1;omega,HLY.o.2⟩
      have Bl:=ae (rJ w6 L4 S.bw H7.o 0 sP.o A4 c4 ys false xI.o up.o PD.o rO.o HU.o)
      rw [JN] at Bl
      clear jJ im
      go_wp2_with fail
      refine Bl.o.mono ?_
      clear Bl
      rintro e w8 ⟨rfl,L8,h8,D1,za,hk8,jg,-,-⟩
      have FF:al (oF (.int .i64 dC.2) dC.1 L w (.returned (.int .i64 0)) w8):=by rw [ahc.o];exact ⟨rfl,L8,h8,aQ.OE uS.o D1 za hk8 Py.o.size K7.o,aQ.zY uS.o Py.o jg K7.o⟩
      clear h8 D1 za hk8 jg
      go_wp2
      go_ret
      exact FF.o
 ·have hd:(ck==(0:Int))=false:=by simp [JP]
  have oG:al (dC=(S,ck)):=by
   rw [←eP.o]
   unfold Sv.fl
   rw [Uy.o,if_neg JP]
   rfl
  have FF:al (oF (.int .i64 dC.2) dC.1 L w (.returned (.int .i64 ck)) w2):=by rw [oG.o];exact ⟨rfl,L1,H2.o,eG.o,SW.o⟩
  go_wp2
  go_ret
  exact FF.o
end Go.Proofs.YtdgplmgfkliijaaGreat
namespace Go.Proofs.YtdgplmgfkliijaaGreat
open Go.RowKit Go.Sort
def EU (x:Int):List Int→List Int
 |[]=>[x]
 |y::r=>if ltOf si y x=true then y::EU x r else x::y::r
def isI (xs:List Int):List Int:=xs.foldr EU []
theorem sA (x:Int):∀l,(EU x l).Perm (x::l)
 |[]=>dh _
 |y::r=>by
  rw [EU]
  split
  ·exact ((sA x r).cons y).trans (List.Perm.swap x y r)
  ·exact dh _
theorem Ci:∀xs,(isI xs).Perm xs
 |[]=>dh _
 |x::r=>(sA x _).trans ((Ci r).cons x)
def vB (x y:Int):Bool:= !(ltOf si) y x
theorem yW (x y:Int):(vB x y ||vB y x)=true:=by
 unfold vB
 rw [om,om]
 simp only [Bool.or_eq_true,Bool.not_eq_true',dL,Bool.and_eq_false_iff,decide_eq_false_iff_not]
 omega
theorem yV (x y z:Int) (h1:vB x y=true) (h2:vB y z=true):vB x z=true:=by
 unfold vB at *
 rw [om] at *
 simp only [Bool.not_eq_true',dL,Bool.and_eq_false_iff,decide_eq_false_iff_not] at *
 omega
theorem MZ (x y:Int) (h1:vB x y=true) (h2:vB y x=true):x=y:=by
 unfold vB at *
 simp only [Bool.not_eq_true'] at *
 exact yO x y h2 h1
theorem td (x:Int):∀l:List Int,l.Pairwise (fun a b=>vB a b=true)→(EU x l).Pairwise (fun a b=>vB a b=true)
 |[],_=>by simp [EU]
 |y::r,h=>by
  rw [EU]
  have hy:=List.pairwise_cons.1 h
  split
  ·rename_i hl
   refine List.pairwise_cons.2 ⟨fun b hb=> ?_,td x r hy.2⟩
   rcases av.1 ((sA x r).mem_iff.1 hb) with rfl |hb
   ·have :=yW y b
    unfold vB at this⊢
    rw [hl] at this
    simpa using this
   ·exact hy.1 b hb
  ·rename_i hl
   have Lv:vB x y=true:=by unfold vB;simpa using hl
   refine List.pairwise_cons.2 ⟨fun b hb=> ?_,h⟩
   rcases av.1 hb with rfl |hb
   ·exact Lv
   ·exact yV x y b Lv (hy.1 b hb)
theorem qd:∀xs,(isI xs).Pairwise (fun a b=>vB a b=true)
 |[]=>List.Pairwise.nil
 |x::r=>td x _ (qd r)
theorem yD:∀(a b:List Int),a.Perm b→a.Pairwise (fun a b=>vB a b=true)→b.Pairwise (fun a b=>vB a b=true)→a=b
 |[],b,h,_,_=>(List.nil_perm.1 h).symm▸rfl
 |x::a,[],h,_,_=>absurd h.length_eq (by simp)
 |x::a,y::b,h,ha,hb=>by
  have h1:=List.pairwise_cons.1 ha
  have h2:=List.pairwise_cons.1 hb
  have Lv:x=y:=by
   rcases av.1 (h.mem_iff.1 (aY)) with e |e
   ·exact e
   ·rcases av.1 (h.mem_iff.2 (aY)) with e2 |e2
    ·exact e2.symm
    ·exact MZ x y (h1.1 y e2) (h2.1 x e)
  subst Lv
  rw [yD a b (h.cons_inv) h1.2 h2.2]
theorem B8 (xs:List Int):jZ xs=isI xs:=by
 refine yD _ _ ((List.mergeSort_perm xs _).trans (Ci xs).symm) ?_ (qd xs)
 exact List.pairwise_mergeSort (le:=fun x y=>vB x y) (fun a b c=>yV a b c) (fun a b=>yW a b) xs
def QK (xs:List Int):List Int:=Sd (isI (xs.filter fun x=> !(x==0)))
theorem UY (xs:List Int):nrm xs=QK xs:=by unfold nrm QK;rw [B8]
namespace Sv
def WG (S:Sv) (l:List Int):Sv×Int:=
 if fK S.vars l=0 then (if S.lX (QK l)=true then S.bw else S.bw.ge (S.leftOf (QK l)),0) else (S,fK S.vars l)
theorem Sn (S:Sv) (l:List Int):S.fl l=S.WG l:=by unfold fl WG;rw [UY]
def En (S:Sv):Bool:=decide (S.list.length<2199023255552)&&decide (S.used<2199023255552)&&decide (S.bump≤1073741824)&&decide (-1152921504606846976≤S.many)&&decide (S.many≤1152921504606846976)&&decide (S.bP≤2199023255552)&&decide (S.T.levels.length≤4398046511104)&&S.core.isEmpty
theorem Mx {S:Sv} (h:S.En=true):S.Small:=by
 unfold En at h
 simp only [aD,decide_eq_true_eq,List.isEmpty_iff] at h
 obtain ⟨⟨⟨⟨⟨⟨⟨h1,h2⟩,h3⟩,h4⟩,h5⟩,h6⟩,h7⟩,h8⟩:=h
 exact ⟨h1,h2,h3,h4,h5,h6,h7,h8⟩
def F7 (budget:Int) (n:Nat) (K:Sv→Option (Sv×Int)):Option (Sv×Bool)→Option (Sv×Int)
 |none=>none
 |some (S2,false)=>some (S2,2)
 |some (S2,true)=>if budget<(n+1:Nat) then some (S2,0) else K S2
def zT (budget:Int) (us:List Int) (K:Nat→Nat→Sv→Option (Sv×Int)):Nat→Nat→Nat→Sv→Option (Sv×Int)
 |0,_,_,_=>none
 |d+1,next,n,S=>
  if S.En&&decide (n<2199023255552)&&decide (next <4398046511104) then
   match S.follow with
   | (SF,some c)=>F7 budget n (K next (n+1)) (SF.cE.conflict c)
   | (SF,none)=>
    let SR:=SF.de n next
    if (SR.bP:Int)<SR.many then none
    else
     let q:=SR.aS us
     if q.2=0 then zT budget us K d (if next ≤n then n+64 else next) n q.1 else some q
  else none
def zS (budget:Int) (us:List Int) (D:Nat):Nat→Nat→Nat→Sv→Option (Sv×Int)
 |0,_,_,_=>none
 |c+1,next,n,S=>zT budget us (zS budget us D c) D next n S
def El (budget:Int) (us:List Int) (D C:Nat) (S:Sv):Option (Sv×Int):=
 if (decide (budget<1) ||us.any (iw S.vars))=true then some (S.bw,0)
 else if S.bad=true then some (S.bw.cE,2)
 else (zS budget us D C 64 0 S.bw.cE).map fun q=>(q.1.back 0,q.2)
theorem OW {budget:Int} {n:Nat} {K:Sv→Option (Sv×Int)} {K':Sv→Prop} {Q:Sv→Int→Prop} {P:Sv×Int→Prop} (hK:∀S q,K S=some q→P q→K' S) (hQ:∀S r,P (S,r)→Q S r):
  ∀(o:Option (Sv×Bool)) (q:Sv×Int),F7 budget n K o=some q→P q→F8 budget n Q K' o
 |none,q,h,_=>by cases h
 |some (S2,false),q,h,hp=>by
  have :(S2,(2:Int))=q:=by simpa [F7] using h
  exact hQ S2 2 (by rw [this];exact hp)
 |some (S2,true),q,h,hp=>by
  show if budget<(n+1:Nat) then Q S2 0 else K' S2
  have h':(if budget<(n+1:Nat) then some (S2,0) else K S2)=some q:=h
  split
  ·rename_i hb
   rw [if_pos hb] at h'
   have :(S2,(0:Int))=q:=by simpa using h'
   exact hQ S2 0 (by rw [this];exact hp)
  ·rename_i hb
   rw [if_neg hb] at h'
   exact hK S2 q h' hp
theorem BS {budget:Int} {us:List Int} {K:Nat→Nat→Sv→Option (Sv×Int)} {K':Nat→Nat→Sv→Prop} {Q:Sv→Int→Prop} {P:Sv×Int→Prop} (hK:∀next n S q,K next n S=some q→P q→K' next n S) (hQ:∀S r,P (S,r)→Q S r):
  ∀(d next n:Nat) (S:Sv) (q:Sv×Int),zT budget us K d next n S=some q→P q→ib false budget us Q K' d next n S
 |0,_,_,_,q,h,_=>by cases h
 |d+1,next,n,S,q,h,hp=>by
  rw [zT] at h
  split at h
  ·rename_i hc
   simp only [aD,decide_eq_true_eq] at hc
   rw [ib]
   refine ⟨Mx hc.1.1,hc.1.2,hc.2,?_⟩
   split at h
   ·rename_i SF c hf
    rw [hf]
    exact OW (fun S q=>hK next (n+1) S q) hQ _ q h hp
   ·rename_i SF hf
    rw [hf]
    simp only at h⊢
    unfold yB
    split at h
    ·cases h
    ·rename_i ht
     rw [if_neg ht]
     split at h
     ·rename_i h0
      rw [if_pos h0]
      exact BS hK hQ d _ n _ q h hp
     ·rename_i h0
      rw [if_neg h0]
      refine hQ _ _ ?_
      have :(SF.de n next).aS us=q:=by simpa using h
      rw [this]
      exact hp
  ·cases h
theorem yE {budget:Int} {us:List Int} {D:Nat} {Q:Sv→Int→Prop} {P:Sv×Int→Prop} (hQ:∀S r,P (S,r)→Q S r):
  ∀(c next n:Nat) (S:Sv) (q:Sv×Int),zS budget us D c next n S=some q→P q→eJ false budget us Q D c next n S
 |0,_,_,_,q,h,_=>by cases h
 |c+1,next,n,S,q,h,hp=>BS (fun next n S q=>yE hQ c next n S q) hQ D next n S q h hp
theorem BO {budget:Int} {us:List Int} {D C:Nat} {S:Sv} {q:Sv×Int} (h:El budget us D C S=some q):lE false budget us D C (fun S' r=>(S',r)=q) S:=by
 unfold El at h
 unfold lE
 split at h
 ·rename_i h1
  rw [if_pos h1]
  simpa using h
 ·rename_i h1
  rw [if_neg h1]
  split at h
  ·rename_i h2
   rw [if_pos h2]
   simpa using h
  ·rename_i h2
   rw [if_neg h2]
   rw [Option.map_eq_some_iff] at h
   obtain ⟨q1,h3,h4⟩:=h
   exact yE (P:=fun x=>x=q1) (fun S r e=>by rw [←h4,←e]) C 64 0 _ q1 h3 rfl
end Sv
structure Own (w0 w:World) (L:aQ) (S:Sv):Prop where
 sv:bf w L S
 nw:∀k,k<w0.heap.size→(L.cQ k).1≠L.id
 fr:Fr [] w0 w
theorem Own.keep {w0 w w':World} {L:aQ} {S:Sv} (h:Own w0 w L S) (hf:Fr [] w w'):Own w0 w' L S:=⟨h.sv.keep hf,h.nw,h.fr.aj hf⟩
theorem Own.shut {w0 w:World} {L:aQ} {S:Sv} (h:Own w0 w L S):Own w0 w (L.shut w) S:=
 ⟨h.sv.shut,fun k hk=>by
  simp only [aQ.shut]
  rw [if_pos (aK hk h.fr.size)]
  exact h.nw k hk,h.fr⟩
theorem Own.next {w0 w w':World} {L L':aQ} {S S':Sv} (h:Own w0 w L S) (h':bf w' L' S') (he:L.ext L' w) (hf:Fr (L.own w) w w'):Own w0 w' L' S':=
 ⟨h',fun k hk e=>h.nw k hk (he.2.2 k (aK hk h.fr.size) (e.trans he.2.1)),h.fr.trans hf (fun k hk=>by
  rcases bK k w0.heap.size with h1 |h1
  ·exact absurd (aQ.bQ.1 hk).2 (h.nw k h1)
  ·exact .inr h1)⟩
theorem QE (w:World) (vars:Int) (h0: -9223372036854775808≤vars) (h1:vars≤9223372036854775807):
  Calls Tryz.prog 25 #[.int .i64 vars] w fun e w'=>∃L:aQ,e= .returned (.pointer (some ⟨L.a,0,none⟩))∧Own w w' L (Sv.new vars):=
 (IW w vars h0 h1).mono fun e w' ⟨L,he,h2,h3,h4⟩=>⟨L,he,h2,h3,h4⟩
theorem Sv.Ok.new (vars:Int):(Sv.new vars).Ok 0∧(Sv.new vars).vars=(min (max vars 0) 262143).toNat:=by
 refine ⟨Sv.Ok.grow Sv.Ok.bare _ (by show 0+_≤262143;omega),?_⟩
 show 0+_=_
 omega
end Go.Proofs.YtdgplmgfkliijaaGreat
namespace Go.Proofs.YtdgplmgfkliijaaGreat
open Go.RowKit
theorem j8 (w:World) (xs:List Int) (h:xs.length≤maxLen):Ints (w.alloc (.cells (xs.map (Value.int .i64)).toArray 3)) (some ⟨w.heap.size,0,none⟩) xs.length xs:=by
 have :=World.ownsRow_lit (base:=0) (e:=3) (size:=1) w (xs.map (Value.int .i64)).toArray xs.length (bH _) h (by simp)
 unfold Ints
 simpa using this
def Ky (x y:Int):Prop:=gN x<gN y∨(gN x=gN y∧x<y)
theorem Ky.trans {x y z:Int} (h:Ky x y) (k:Ky y z):Ky x z:=by unfold Ky at *;omega
theorem U5 {x y:Int} (h:vB x y=true) (hn:x≠y):Ky x y:=by
 unfold vB at h
 rw [om] at h
 simp only [Bool.not_eq_true',dL,Bool.and_eq_false_iff,decide_eq_false_iff_not] at h
 unfold Ky
 omega
theorem tx {xs:List Int} (hs:xs.Pairwise (fun a b=>vB a b=true)):∀k,k≤xs.length→(fX xs k).Pairwise Ky∧∀y∈fX xs k,y=xs[k-1]! ∨Ky y xs[k-1]!
 |0,_=>⟨List.Pairwise.nil,fun y hy=>by cases hy⟩
 |k+1,hk=>by
  obtain ⟨h1,h2⟩:=tx hs k (by omega)
  rw [fX,eN]
  by_cases h0:k=0
  ·subst h0
   rw [if_pos (.inl rfl)]
   exact ⟨by simp [fX],fun y hy=> .inl (by simpa [fX] using hy)⟩
  ·have hle:vB xs[k-1]! xs[k]! =true:=by
    rw [kU (by omega),kU (by omega)]
    exact List.pairwise_iff_getElem.1 hs (k-1) k (by omega) (by omega) (by omega)
   by_cases he:xs[k]! ≠xs[k-1]!
   ·rw [if_pos (.inr he)]
    have bM:=U5 hle (fun e=>he e.symm)
    have gV:∀y∈fX xs k,Ky y xs[k]! :=fun y hy=>by
     rcases h2 y hy with h3 |h3
     ·rw [h3];exact bM
     ·exact h3.trans bM
    refine ⟨?_,fun y hy=> ?_⟩
    ·rw [List.pairwise_append]
     exact ⟨h1,List.pairwise_singleton _ _,fun y hy z hz=>by rw [ah.1 hz];exact gV y hy⟩
    ·rcases ag.1 hy with h3 |h3
     ·exact .inr (gV y h3)
     ·exact .inl (ah.1 h3)
   ·rw [if_neg (fun h=>h.elim h0 he)]
    have he:xs[k]! =xs[k-1]! :=jF he
    rw [he]
    exact ⟨h1,h2⟩
theorem Ir {x:Int} {v:Nat} (h1: -(v:Int)≤x) (h2:x≤v) (hv:v≤262143):gN x=tv x∧tv x=if x<0 then -x else x:=by
 have :wrap64 (-x)= -x:=by unfold wrap64;omega
 unfold gN tv
 rw [this,if_neg (by omega:¬x= -9223372036854775808)]
 constructor
 ·split<;>split<;>omega
 ·rfl
theorem vn {l:List Int} {v:Nat} (hr:∀x∈nrm l,-(v:Int)≤x∧x≤v) (hv:v≤262143) (ht:px (nrm l)=false):((nrm l).map tv).Nodup:=by
 have hs:(nrm l).Pairwise Ky:=(tx (by rw [B8];exact qd _) _ (au _)).1
 generalize nrm l=ys at *
 have aa6:∀i,i+1<ys.length→tv ys[i]! <tv ys[i+1]! :=fun i hi=>by
  have h1:Ky ys[i]! ys[i+1]! :=by
   rw [kU (by omega),kU (by omega)]
   exact List.pairwise_iff_getElem.1 hs i (i+1) (by omega) (by omega) (by omega)
  have hx:=hr _ (get_mem (l:=ys) (i:=i) (by omega))
  have hy:=hr _ (get_mem (l:=ys) (i:=i+1) (by omega))
  have PU:lD ys i=false:=by
   unfold px at ht
   cases hq:lD ys i with
   |false=>rfl
   |true=>
    exfalso
    have :(List.range (ys.length-1)).any (lD ys)=true:=bI.2 ⟨i,df.2 (by omega),hq⟩
    rw [this] at ht
    cases ht
  unfold lD at PU
  generalize ys[i]! =x at *
  generalize ys[i+1]! =y at *
  have X2:=Ir hx.1 hx.2 hv
  have hay:=Ir hy.1 hy.2 hv
  have hw:wrap64 (-y)= -y:=by unfold wrap64;omega
  rw [hw] at PU
  have dI:x≠ -y:=by simpa using PU
  unfold Ky at h1
  rw [X2.1,hay.1] at h1
  rw [X2.2,hay.2] at h1⊢
  split at h1<;>split at h1<;>omega
 have Hs:∀d i,i+d+1<ys.length→tv ys[i]! <tv ys[i+d+1]! :=by
  intro d
  induction d with
  |zero=>exact aa6
  |succ d ih=>
   intro i hi
   have h1:=ih i (by omega)
   have h2:=aa6 (i+d+1) (by omega)
   have :i+(d+1)+1=i+d+1+1:=by omega
   rw [this]
   omega
 unfold List.Nodup
 rw [List.pairwise_map,List.pairwise_iff_getElem]
 intro i j hi hj JQ
 have :=Hs (j-i-1) i (by omega)
 rw [show i+(j-i-1)+1=j by omega,kU hi,kU hj] at this
 omega
namespace Sv
theorem Inv.bw {S:Sv} (h:S.Inv):S.bw.Inv:=h.congr h.ok.bw rfl rfl (fun _=>rfl) rfl
theorem Inv.cE {S:Sv} (h:S.Inv):S.cE.Inv:=h.congr h.ok.cE rfl rfl (fun _=>rfl) rfl
theorem Inv.ge {S:Sv} (h:S.Inv) (h0:S.T.levels.length=0) {out:List Int} (h1:out.length≤1048576) (hl:∀x∈out,x≠0∧ -(S.vars:Int)≤x∧x≤S.vars) (hd:(out.map tv).Nodup) (hv:∀x∈out,S.val x=0) (hr:S.list.length<2199023255552):
  (S.ge out).Inv∧(S.ge out).T.levels.length=0:=by
 unfold Sv.ge
 by_cases e0:out.length=0
 ·rw [if_pos e0]
  exact ⟨h.congr (h.ok.zP true) rfl rfl (fun _=>rfl) rfl,h0⟩
 ·rw [if_neg e0]
  have hm:=get_mem (l:=out) (i:=0) (by omega)
  by_cases e1:out.length=1
  ·rw [if_pos e1]
   have ht:=pw (hl _ hm).1 (hl _ hm).2.1 (hl _ hm).2.2 h.ok.vl
   exact ⟨(h.put (r:=0) (iH h.ok ht.1 ht.2 (hv _ hm)) (by omega) (fun h=>absurd rfl h) (fun _=> .inl h0)).1,by rw [dF];exact h0⟩
  ·rw [if_neg e1]
   have vO:=get_mem (l:=out) (i:=1) (by omega)
   obtain ⟨k1,k2,k3⟩:=h.attach ⟨by omega,h1,hl⟩ hd false hr
   have hs:=ch S out false
   refine ⟨k1.whole ?_,by rw [hs.1];exact h0⟩
   intro dI e he
   rw [k2]
   have RR:e∈S.R:=by
    have :=List.mem_of_mem_take he
    rw [dp hs.1] at this
    exact this
   exact ⟨fun hx=>absurd hx (iE h.ok (hv _ hm) e RR).2,fun hx=>absurd hx (iE h.ok (hv _ vO) e RR).2⟩
theorem Inv.fl {S:Sv} (h:S.Inv) (h0:S.T.levels.length=0) {l:List Int} (lM:Ra l) (hr:S.list.length<2199023255552):(S.fl l).1.Inv∧(S.fl l).1.T.levels.length=0:=by
 unfold Sv.fl
 split
 ·rename_i hc
  split
  ·exact ⟨h.bw,h0⟩
  ·rename_i hs
   obtain ⟨h1,h2⟩:=ol (S:=S) lM hc
   have hs:S.lX (nrm l)=false:=by simpa using hs
   unfold lX at hs
   rw [dL] at hs
   have sJ:=o6 lM hc
   have hd:=vn (l:=l) (v:=S.vars) (fun x hx=>(sJ.2 x (lp hx).1).2) h.ok.vl hs.1
   refine h.bw.ge h0 (by omega) h2 ?_ (fun x hx=> ?_) hr
   ·unfold leftOf
    exact hd.sublist (List.Sublist.map tv (List.filter_sublist))
   ·unfold leftOf at hx
    rw [cq] at hx
    have h3:¬S.val x<0:=by simpa using hx.2
    have h4:¬0<S.val x:=fun h5=>by
     have :(nrm l).any (fun x=>decide (0<S.val x))=true:=bI.2 ⟨x,hx.1,by simpa using h5⟩
     rw [this] at hs
     cases hs.2
    show S.val x=0
    omega
 ·exact ⟨h,h0⟩
theorem zn (S:Sv) (l:List Int):(S.fl l).1.used=S.used∧(S.fl l).1.bump=S.bump∧(S.fl l).1.many=S.many∧(S.fl l).1.bP=S.bP∧(S.fl l).1.list.length≤S.list.length+1:=by
 unfold fl
 split
 ·split
  ·exact ⟨rfl,rfl,rfl,rfl,by show S.list.length≤_;omega⟩
  ·unfold ge
   split
   ·exact ⟨rfl,rfl,rfl,rfl,by show S.list.length≤_;omega⟩
   ·split
    ·exact ⟨rfl,rfl,rfl,rfl,by show S.list.length≤_;omega⟩
    ·refine ⟨rfl,rfl,rfl,rfl,?_⟩
     have :=(ch S.bw (S.leftOf (nrm l)) false).2.2.1
     rw [this]
     show S.list.length+1≤_
     omega
 ·exact ⟨rfl,rfl,rfl,rfl,by show S.list.length≤_;omega⟩
theorem Inv.new (vars:Int):(Sv.new vars).Inv∧(Sv.new vars).T.levels.length=0∧(Sv.new vars).many=0∧(Sv.new vars).bP=400∧(Sv.new vars).list=[]∧(Sv.new vars).used=0∧(Sv.new vars).bump=1:=by
 have ok:=(Sv.Ok.new vars).1
 have hR:(Sv.new vars).R=[]:=rfl
 have ed:∀n,(Sv.new vars).rc n=⟨[],false,0⟩:=fun n=>mL (bH _)
 have hw:∀c,(Sv.new vars).fH c=[]:=fun c=>by
  have :(Sv.new vars).watch=List.replicate 2 []++List.replicate (2*(min (max vars 0) 262143).toNat) []:=rfl
  unfold fH
  rw [this,List.replicate_append_replicate,aa,List.getElem?_replicate]
  split<;>rfl
 refine ⟨⟨ok,fun n=>by rw [ed];exact List.nodup_nil,fun A e B h1 h2=> ?_,fun A e B h1 h2=> ?_,fun e he=> ?_,⟨fun c=>by rw [hw];exact List.nodup_nil,fun c n hn=> ?_,fun n hl=> ?_⟩,fun n hl=> ?_⟩,rfl,rfl,rfl,rfl,rfl,rfl⟩
 ·rw [hR] at h1;simp at h1
 ·rw [hR] at h1;simp at h1
 ·rw [hR] at he;simp at he
 ·rw [hw] at hn;cases hn
 ·rw [ed] at hl;exact absurd rfl hl
 ·rw [ed] at hl;exact absurd rfl hl
end Sv
theorem zj (met:List Int):∀(us core:List Int),(Sv.gJ met us core).length≤core.length+us.length
 |[],core=>by simp [Sv.gJ]
 |x::r,core=>by
  rw [Sv.gJ]
  have :=zj met r (if x∈met∧x∉core then core++[x] else core)
  split at this
  ·simp at this⊢;split<;>simp_all<;>omega
  ·simp at this⊢;split<;>simp_all<;>omega
namespace Sv
theorem zl (level:Int):∀(r:List Int) (S:Sv),(dM level r S).has=S.has∧(dM level r S).model=S.model
 |[],S=>⟨rfl,rfl⟩
 |l::r,S=>by
  rw [dM]
  split
  ·exact ⟨rfl,rfl⟩
  ·exact zl level r _
theorem wX (S:Sv) (level:Nat):(S.back level).has=S.has∧(S.back level).model=S.model:=by
 unfold back
 split
 ·exact ⟨rfl,rfl⟩
 ·exact zl _ _ _
theorem EM (S:Sv) (l:List Int):(S.bt l).bX.has=S.has:=by
 unfold bt
 split
 ·rfl
 ·rfl
structure Fin (us:List Int) (S:Sv):Prop where
 inv:S.Inv
 model:S.has=true→S.model.length=S.vars+1
 core:S.core.length≤us.length
theorem wT {S:Sv} {us:List Int} (h:S.Inv) (hf:S.head=S.T.lits.length) (hh:S.has=false) (hc:S.core=[]):Fin us S.choose.1∧(S.choose.2=0→S.choose.1.has=false):=by
 have hI:=(choose_spec h hf).1
 have DZ:=(fZ S).1
 have gI:S.choose.1.core.length≤us.length:=by rw [DZ,hc];exact bH _
 have hph:∀(f:Nat) (S:Sv),(cI f S).1.has=S.has:=by
  intro f
  induction f with
  |zero=>intro S;rfl
  |succ f ih=>
   intro S
   rw [cI]
   split
   ·rfl
   ·simp only
    split
    ·exact ih _
    ·rfl
 have hp:S.pick.1.has=false:=(hph _ S).trans hh
 unfold choose at hI gI⊢
 by_cases h0:S.pick.2=0
 ·rw [if_pos h0] at hI gI⊢
  exact ⟨⟨hI,fun _=>by simp [Sv.keep],gI⟩,fun h=>by cases h⟩
 ·rw [if_neg h0] at hI gI⊢
  have e:(S.pick.1.deep.put S.pick.2 0).has=false:=hp
  exact ⟨⟨hI,fun h=>by
   have h:(S.pick.1.deep.put S.pick.2 0).has=true:=h
   rw [e] at h;exact Bool.noConfusion h,gI⟩,fun _=>e⟩
theorem tw {us:List Int}:∀(f:Nat) (S:Sv),S.Inv→S.head=S.T.lits.length→(∀x∈us,x≠0∧ -(S.vars:Int)≤x∧x≤S.vars)→S.has=false→S.core=[]→Fin us (bv us f S).1∧((bv us f S).2=0→(bv us f S).1.has=false)
 |0,S,h,hf,hu,hh,hc=>wT h hf hh hc
 |f+1,S,h,hf,hu,hh,hc=>by
  rw [bv]
  split
  ·rename_i hd
   have ha:=hu _ (get_mem (l:=us) hd)
   simp only
   split
   ·refine ⟨⟨h.congr (h.ok.oN _) rfl rfl (fun _=>rfl) rfl,fun h=> ?_,?_⟩,fun h=>by cases h⟩
    ·have h:S.has=true:=h
     rw [hh] at h;cases h
    ·show (gJ _ us S.core).length≤us.length
     have :=zj (S.dB S.T.lits.reverse [tv us[S.T.levels.length]!] [us[S.T.levels.length]!]) us S.core
     rw [hc] at this⊢
     simpa using this
   ·split
    ·rename_i h1 h2
     obtain ⟨k1,k2⟩:=h.choice hf ha.1 ha.2.1 ha.2.2 h2
     exact ⟨⟨k1,fun h=>by
      have h:S.has=true:=h
      rw [hh] at h;exact Bool.noConfusion h,by show S.core.length≤_;rw [hc];exact bH _⟩,fun _=>hh⟩
    ·exact tw f S.deep (h.deep hf) hf hu hh hc
  ·exact wT h hf hh hc
theorem BT {S:Sv} (h:S.Inv) (hf:S.head=S.T.lits.length) (n next :Nat):(S.de n next).Inv∧(S.de n next).head=(S.de n next).T.lits.length:=by
 unfold Sv.de
 split
 ·refine ⟨h.back 0,?_⟩
  by_cases hl:0<S.T.levels.length
  ·obtain ⟨b1,b2,b3,b4,B,b5,b6,b7⟩:=fj h.ok hl
   have h1:(S.back 0).R.length≤S.R.length:=by rw [b5];simp
   have h2:=iT S
   have h3:=iT (S.back 0)
   rw [b4]
   omega
  ·have :S.back 0=S:=by
    unfold Sv.back
    rw [if_pos (by omega)]
   rw [this]
   exact hf
 ·exact ⟨h,hf⟩
def mu (S:Sv) (next n:Nat):Nat:=S.vars-S.T.lits.length+(if next ≤n then S.vars+2 else 0)
end Sv
structure Ls where
 A:Option Addr
 c:Nat
 l:List Int
instance:Inhabited Ls:=⟨⟨none,0,[]⟩⟩
def Ls.val (h:Ls):Value:= .slice h.A h.l.length h.c
def uh (w:World) (h:Ls):Prop:=Rd w h.A h.l∧Ra h.l∧h.l.length≤17592186044416∧(h.A=none→h.l.length=0∧h.c=0)
theorem uh.keep {w w':World} {h:Ls} (k:uh w h) (hf:Fr [] w w'):uh w' h:=⟨k.1.keep hf,k.2⟩
def iS (w:World) (A:Option Addr) (hs:List Ls):Prop:=(0<hs.length→∃b o,A=some ⟨b,o,none⟩∧∀j:Nat,j<hs.length→w.cell? ⟨b,o+j,none⟩=some (hs[j]!).val)∧∀j:Nat,j<hs.length→uh w hs[j]!
theorem iS.keep {w w':World} {A:Option Addr} {hs:List Ls} (k:iS w A hs) (hf:Fr [] w w'):iS w' A hs:=by
 refine ⟨fun h0=> ?_,fun j hj=>(k.2 j hj).keep hf⟩
 obtain ⟨b,o,hA,hx⟩:=k.1 h0
 exact ⟨b,o,hA,fun j hj=>hf.aT (hx j hj)⟩
theorem iS.one {w:World} {A:Option Addr} {hs:List Ls} (k:iS w A hs) {j:Nat} (hj:j<hs.length):∃b o B d l,A=some ⟨b,o,none⟩∧al (hs[j]! =⟨B,d,l⟩)∧w.cell? ⟨b,o+j,none⟩=some (.slice B l.length d)∧uh w ⟨B,d,l⟩:=by
 obtain ⟨b,o,hA,hx⟩:=k.1 (by omega)
 exact ⟨b,o,_,_,_,hA,rfl,hx j hj,k.2 j hj⟩
theorem EI {hs:List Ls} {k:Nat} (h:k<hs.length):(hs.map (·.l)).drop k=(hs[k]!).l::(hs.map (·.l)).drop (k+1):=by
 rw [List.drop_eq_getElem_cons (by simpa using h),List.getElem_map]
 simp only [aa,af h,ay]
theorem Kt (S:Sv) (l:List Int):(S.fl l).2=fK S.vars l:=by
 unfold Sv.fl
 split
 ·rename_i h;exact h.symm
 ·rfl
theorem Own.old {w w1 w2:World} {L:aQ} {S:Sv} (h:Own w1 w2 L S) (hf:Fr [] w w1):Own w w2 L S:=
 ⟨h.sv,fun k hk=>h.nw k (aK hk hf.size),hf.aj h.fr⟩
structure OwnX (X:List Nat) (w0 w:World) (L:aQ) (S:Sv):Prop where
 own:Own w0 w L S
 fx:∀k∈X,k<w.heap.size∧(L.cQ k).1≠L.id
def Stay (X:List Nat) (w w':World):Prop:=∃T,Fr T w w'∧∀k∈X,k∉T
namespace Stay
variable {X:List Nat} {w w' w2:World}
theorem of (h:Fr [] w w'):Stay X w w':=⟨[],h,fun _ _ hm=>by cases hm⟩
theorem size (h:Stay X w w'):w.heap.size≤w'.heap.size:=by obtain ⟨T,h1,_⟩:=h;exact h1.size
theorem at_ (h:Stay X w w') {g:Nat} {t:TypeId} {cs:Array Value} (hg:At w g t cs) (hx:g∈X):At w' g t cs:=by
 obtain ⟨T,h1,h2⟩:=h
 exact h1.at_ hg (h2 g hx)
theorem rd (h:Stay X w w') {A:Option Addr} {xs:List Int} (hr:Rd w A xs) (hx:∀k,k∈ap A→k∈X):Rd w' A xs:=by
 obtain ⟨T,h1,h2⟩:=h
 intro h0
 obtain ⟨b,o,rfl,h3⟩:=hr h0
 refine ⟨b,o,rfl,fun j hj=> ?_⟩
 have h4:=h3 j hj
 rw [World.cell?_of_block (h1.block b (bE h4) (h2 b (hx b (by simp [ap]))))]
 exact h4
theorem less (h:Stay X w w') {Y:List Nat} (hY:∀k∈Y,k∈X):Stay Y w w':=by
 obtain ⟨T,h1,h2⟩:=h
 exact ⟨T,h1,fun k hk=>h2 k (hY k hk)⟩
theorem aj (h:Stay X w w') (h':Stay X w' w2) (hX:∀k∈X,k<w.heap.size):Stay X w w2:=by
 obtain ⟨T,h1,h2⟩:=h
 obtain ⟨T',h3,h4⟩:=h'
 refine ⟨T++T',⟨h3.os.trans h1.os,h3.tape.trans h1.tape,h3.output.trans h1.output,aF h1.size h3.size,fun k hk hm=> ?_⟩,fun k hk hm=> ?_⟩
 ·simp only [ag,not_or] at hm
  exact (h3.block k (aK hk h1.size) hm.2).trans (h1.block k hk hm.1)
 ·rcases ag.1 hm with h5 |h5
  ·exact h2 k hk h5
  ·exact h4 k hk h5
end Stay
def OxP (X:List Nat) (v:Value) (S':Sv) (a:Nat) (w0 w:World) (e:Ending) (w':World):Prop:=e= .returned v∧∃L',L'.a=a∧OwnX X w0 w' L' S'∧Stay X w w'
namespace OwnX
variable {X:List Nat} {w0 w w':World} {L L':aQ} {S S':Sv}
theorem next (h:OwnX X w0 w L S) (h':bf w' L' S') (he:L.ext L' w) (hf:Fr (L.own w) w w'):OwnX X w0 w' L' S'∧Stay X w w':=
 ⟨⟨h.own.next h' he hf,fun k hk=>⟨aK (h.fx k hk).1 hf.size,fun e=>(h.fx k hk).2 (he.2.2 k (h.fx k hk).1 (e.trans he.2.1))⟩⟩,
  ⟨L.own w,hf,fun k hk hm=>(h.fx k hk).2 (aQ.bQ.1 hm).2⟩⟩
theorem of {v:Value} {e:Ending} (h:OwnX X w0 w L S) (k:oF v S' L w e w'):OxP X v S' L.a w0 w e w':=by
 obtain ⟨rfl,L',h1,h2,h3⟩:=k
 obtain ⟨h4,h5⟩:=h.next h1 h2 h3
 exact ⟨rfl,L',h2.1,h4,h5⟩
theorem keep (h:OwnX X w0 w L S) (hf:Fr [] w w'):OwnX X w0 w' L S:=⟨h.own.keep hf,fun k hk=>⟨aK (h.fx k hk).1 hf.size,(h.fx k hk).2⟩⟩
theorem more (h:OwnX X w0 w L S) (hf:Fr [] w w') {Y:List Nat} (hY:∀k∈Y,w.heap.size≤k∧k<w'.heap.size):OwnX (X++Y) w0 w' (L.shut w) S:=
 ⟨h.own.shut.keep hf,fun k hk=>by
  rcases ag.1 hk with h1 |h1
  ·exact ⟨aK (h.fx k h1).1 hf.size,by rw [aQ.qag (h.fx k h1).1];exact (h.fx k h1).2⟩
  ·exact ⟨(hY k h1).2,aQ.ju (hY k h1).1⟩⟩
theorem less {Y:List Nat} (h:OwnX X w0 w L S) (hY:∀k∈Y,k∈X):OwnX Y w0 w L S:=⟨h.own,fun k hk=>h.fx k (hY k hk)⟩
theorem Aw (h:OwnX X w0 w L S) {A:Option Addr} {xs:List Int} (hr:Rd w A xs) (hx:∀k,k∈ap A→k∈X):Bk w L A xs:=⟨hr,fun _ k hk=>(h.fx k (hx k hk)).2⟩
theorem add (h:OwnX X w0 w L S) (ok:S.Ok 0) (A:Option Addr) (c:Nat) (l:List Int) (rQ:Bk w L A l) (lM:Ra l) (hn:A=none→c=0) (hr:S.list.length<2199023255552) (hu:S.used≤2199023255552):
  Calls Tryz.prog 27 #[.pointer (some ⟨L.a,0,none⟩), .slice A l.length c] w (OxP X (.int .i64 (S.fl l).2) (S.fl l).1 L.a w0 w):=
 (Ks w L S h.own.sv ok A c l rQ lM hn hr hu).mono fun _ _ k=>h.of k
theorem solve (h:OwnX X w0 w L S) (red:Bool) (qq:red=true→Ge) (ok:S.Ok 0) (A:Option Addr) (c:Nat) (us:List Int) (rQ:Bk w L A us) (lM:Ra us) (sI:us.length≤c) (xS:us.length≤1099511627776) (budget:Int) (D C:Nat) (Q:Sv→Int→Prop) (yZ:S.used<4611686018427387904) (hW:S.lE red budget us D C Q):
  Calls Tryz.prog 56 #[.pointer (some ⟨L.a,0,none⟩), .int .i64 budget, .slice A us.length c] w fun e w'=>∃(S':Sv) (r:Int),Q S' r∧S'.Ok 0∧OxP X (.int .i64 r) S' L.a w0 w e w':=
 (BN red qq w L S h.own.sv ok A c us rQ lM sI xS budget D C Q yZ hW).mono fun _ _ ⟨S',r,hq,ho,k⟩=>⟨S',r,hq,ho,h.of k⟩
end OwnX
theorem Own.mark {w0 w w':World} {L:aQ} {S:Sv} (h:Own w0 w L S) (hf:Fr [] w w') {Y:List Nat} (hY:∀k∈Y,w.heap.size≤k∧k<w'.heap.size):OwnX Y w0 w' (L.shut w) S:=
 (OwnX.mk (X:=[]) h (fun k hk=>by cases hk)).more hf hY
def Dy (A:Option Addr) (c:Nat) (xs:List Int) (w:World) (e:Ending) (w':World):Prop:=e= .returned (.tuple #[])∧∃ys:List Int,ys.Perm xs∧Ints w' A c ys∧Fr (ap A) w w'
theorem Ints.swap {w:World} {g c:Nat} {xs:List Int} (h:Ints w (some ⟨g,0,none⟩) c xs) (i j:Nat):Ints ((w.setCell ⟨g,i,none⟩ (.int .i64 xs[j]!)).setCell ⟨g,j,none⟩ (.int .i64 xs[i]!)).drew (some ⟨g,0,none⟩) c (dg xs i j):=((h.eo i xs[j]!).eo j xs[i]!).drew
theorem Fr.swap (w:World) (g:Nat) (i j:Nat) (u v:Value):Fr (ap (some ⟨g,0,none⟩)) w ((w.setCell ⟨g,i,none⟩ u).setCell ⟨g,j,none⟩ v).drew:=(((Fr.refl [g] w).setCell (.inl (by simp)) _).setCell (.inl (by simp)) _).drew
theorem jO (w:World) (A:Option Addr) (c:Nat) (xs:List Int) (h:Ints w A c xs) (hl:xs.length≤17592186044416) (a b n:Nat) (hab:a<b) (CV:b+n≤xs.length) (g:Nat) (cb:Array Value):
  Calls Tryz.prog 168 #[.slice A xs.length c, .int .i64 a, .int .i64 b, .int .i64 n, .func (.func g) #[] cb] w (Dy A c xs w):=by
 have HH:=ae h
 clear h
 go_enter Tryz.func168,Tryz.ntmps168
 go_wp2_with fail
 go_loopg [10] n (fun g x wr=>∃(k:Nat) (ys:List Int),k+g=n∧x= .int .i64 k∧al (ys.Perm xs)∧al (Ints wr A c ys)∧al (Fr (ap A) w wr))
 case atStart=>exact ⟨0,xs,by omega,rfl,dh _,HH.o,Fr.refl _ _⟩
 case round=>
  obtain ⟨k,ys,hk,rfl,HP,HI,HF⟩:=hrel
  have HK:=ae hk
  have ly:k≤n:=by omega
  have hlen:=HP.o.length_eq
  clear hk
  by_cases bM:k<n
  ·obtain ⟨p,hp⟩:∃p,a+k=p:=⟨_,rfl⟩
   obtain ⟨q,hq⟩:∃q,b+k=q:=⟨_,rfl⟩
   have xy:p<ys.length:=by omega
   have hql:q<ys.length:=by omega
   obtain ⟨gb,hA,sE⟩:=HI.o.pos xy
   subst hA
   have c1:=HI.o.cell xy
   have c2:=HI.o.cell hql
   have f1:=HI.o.frozen p
   have f2:=HI.o.frozen q
   have dI:¬p=q:=by omega
   have w1:IntKind.i64.wrap ((a:Int)+(k:Int))=(p:Int):=by rw [IntWalk.i64_in _ (by omega)];omega
   have w2:IntKind.i64.wrap ((b:Int)+(k:Int))=(q:Int):=by rw [IntWalk.i64_in _ (by omega)];omega
   have hpx:(p:Int)<(xs.length:Int):=by omega
   have hqx:(q:Int)<(xs.length:Int):=by omega
   have HL:=ae hlen
   have Iy:=ae bM
   have Uo:al (dg ys p q |>.Perm xs):=(gz xy hql).trans HP.o
   have Ea:=ae (HI.o.swap p q)
   have nD:=ae (HF.o.aj (Fr.swap wr gb p q (.int .i64 ys[q]!) (.int .i64 ys[p]!)))
   obtain ⟨u,hu⟩:∃u,ys[p]! =u:=⟨_,rfl⟩
   obtain ⟨v,hv⟩:∃v,ys[q]! =v:=⟨_,rfl⟩
   rw [hu] at c1 Ea nD
   rw [hv] at c2 Ea nD
   clear hlen xy hql hu hv hp hq HI HF HP
   go_wp2
   go_region
   clear c1 c2 f1 f2
   go_wp2
   go_roundg (gk-1)
   case measure=>have :=HK.o;omega
   case rel=>exact ⟨k+1,dg ys p q,by have :=HK.o;omega,by go_num,Uo.o,Ea.o,nD.o⟩
  ·have FF:al (Dy A c xs w (.returned (.tuple #[])) wr):=⟨rfl,ys,HP.o,HI.o,HF.o⟩
   go_wp2_with fail
   go_end0
   exact FF.o
def yu (g:Nat) (cb:Array Value) (q:Int→Int→Int) (A:Option Addr) (xs:List Int) (w:World):Prop:=
 ∀W,Fr (ap A) w W→∀x∈xs,∀y∈xs,Calls Tryz.prog g (#[.int .i64 x, .int .i64 y]++cb) W fun e W'=>e= .returned (.int .i64 (q x y))∧Fr [] W W'
theorem yu.aj {g:Nat} {cb:Array Value} {q:Int→Int→Int} {A:Option Addr} {xs ys:List Int} {w w':World} (h:yu g cb q A xs w) (hf:Fr (ap A) w w') (hp:ys.Perm xs):yu g cb q A ys w':=
 fun W hW x hx y hy=>h W (hf.aj hW) x (hp.mem_iff.1 hx) y (hp.mem_iff.1 hy)
theorem tQ (w:World) (A:Option Addr) (c:Nat) (xs:List Int) (h:Ints w A c xs) (hl:xs.length≤17592186044416) (a b:Nat) (hab:a≤b) (CV:b≤xs.length) (g:Nat) (cb:Array Value) (q:Int→Int→Int) (eg:∀args w,(callFunc g args).run Tryz.prog w= .ok (.enter g args) w) (hc:yu g cb q A xs w):
  Calls Tryz.prog 121 #[.slice A xs.length c, .int .i64 a, .int .i64 b, .func (.func g) #[] cb] w (Dy A c xs w):=by
 have HH:=ae h
 have HC:=ae hc
 clear h hc
 have w0:IntKind.i64.wrap ((a:Int)+1)=(a:Int)+1:=IntWalk.i64_in _ (by omega)
 go_enter Tryz.func121,Tryz.ntmps121
 go_wp2_with fail
 clear w0
 go_loopg [8] (b-a) (fun g x wr=>∃(i:Nat) (ys:List Int),b≤i+g∧a+1≤i∧x= .int .i64 i∧al (ys.Perm xs)∧al (Ints wr A c ys)∧al (Fr (ap A) w wr))
 case atStart=>exact ⟨a+1,xs,by omega,by omega,by go_num,dh _,HH.o,Fr.refl _ _⟩
 case round=>
  obtain ⟨i,ys,hi,hai,rfl,HP,HI,HF⟩:=hrel
  have HK:=ae hi
  clear hi
  by_cases bM:i<b
  ·go_wp2_with fail
   go_loopg [9] (i-a) (fun g x wr=>∃(j:Nat) (ys:List Int),j=a+g∧j≤i∧x= .int .i64 j∧al (ys.Perm xs)∧al (Ints wr A c ys)∧al (Fr (ap A) w wr))
   case atStart=>exact ⟨i,ys,by omega,by omega,rfl,HP.o,HI.o,HF.o⟩
   case round=>
    obtain ⟨j,zs,hj,qy,rfl,Bo,mw,cH⟩:=hrel
    have HJ:=ae hj
    clear hj HP HI HF
    have wi:IntKind.i64.wrap ((i:Int)+1)=(i:Int)+1:=IntWalk.i64_in _ (by omega)
    by_cases hja:a<j
    ·have hlen:=Bo.o.length_eq
     obtain ⟨p,hp⟩:∃p,j-1=p:=⟨_,rfl⟩
     have xy:p<zs.length:=by omega
     have DW:j<zs.length:=by omega
     obtain ⟨gb,hA,sE⟩:=mw.o.pos xy
     subst hA
     have c1:=mw.o.cell xy
     have c2:=mw.o.cell DW
     have m1:=bu xy
     have m2:=bu DW
     have wj:IntKind.i64.wrap ((j:Int)-1)=(p:Int):=by rw [IntWalk.i64_in _ (by omega)];omega
     have hpx:(p:Int)<(xs.length:Int):=by omega
     have XU:(j:Int)<(xs.length:Int):=by omega
     have dI:¬j=p:=by omega
     have hpj:p≤i:=by omega
     have Uo:al ((dg zs j p).Perm xs):=(gz DW xy).trans Bo.o
     have HPJ:al (p=a+(gk-1)):=by have :=HJ.o;show _=_;omega
     have Ea:=ae (fun W (hW:Fr [] wr W)=>(mw.o.dX hW).swap j p)
     have nD:=ae (fun W (hW:Fr [] wr W)=>(cH.o.aj (hW.mono (fun k hk=>by cases hk))).aj (Fr.swap W gb j p (.int .i64 zs[p]!) (.int .i64 zs[j]!)))
     have HKC:=ae (fun u:Ext wr=>HC.o u.v (cH.o.aj (u.fr.mono (fun k hk=>by cases hk))) _ (Bo.o.mem_iff.1 m2) _ (Bo.o.mem_iff.1 m1))
     obtain ⟨x,hx⟩:∃x,zs[j]! =x:=⟨_,rfl⟩
     obtain ⟨y,hy⟩:∃y,zs[p]! =y:=⟨_,rfl⟩
     rw [hx] at c2 Ea nD HKC
     rw [hy] at c1 Ea nD HKC
     obtain ⟨r,hr⟩:∃r,q x y=r:=⟨_,rfl⟩
     rw [hr] at HKC
     have e1:=Ext.cell c1
     have e2:=Ext.cell c2
     clear hr hx hy m1 m2 hlen xy DW hp
     have hjj:(a:Int)<(j:Int):=by omega
     have hdj:decide ((a:Int)<(j:Int))=true:=decide_eq_true hjj
     by_cases lN:r<0
     ·have hd:decide (r<0)=true:=decide_eq_true lN
      go_wp2
      refine ax ?_
      repeat (go_big_quiet_step (exact bV (HKC.o _)))
      refine gO ?_
      intro w2 bl
      clear e1 e2
      have c1:=bl.o.aT c1
      have c2:=bl.o.aT c2
      have f1:=(mw.o.dX bl.o).frozen p
      have f2:=(mw.o.dX bl.o).frozen j
      go_wp2
      go_region
      clear c1 c2 f1 f2
      go_wp2
      go_roundg (gk-1)
      case measure=>have :=HJ.o;omega
      case rel=>exact ⟨p,dg zs j p,HPJ.o,hpj,by go_num,Uo.o,Ea.o _ bl.o,nD.o _ bl.o⟩
     ·have Vw:0≤r:=by omega
      have hd:decide (r<0)=false:=decide_eq_false lN
      have Pv:=ae (fun W (hW:Fr [] wr W)=>mw.o.dX hW)
      have uo:=ae (fun W (hW:Fr [] wr W)=>cH.o.aj (hW.mono (fun k hk=>by cases hk)))
      clear Ea nD Uo
      go_wp2
      refine ax ?_
      repeat (go_big_quiet_step (exact bV (HKC.o _)))
      refine gO ?_
      intro w2 bl
      clear e1 e2 c1 c2
      go_wp2
      go_roundg (b-(i+1))
      case measure=>have :=HK.o;omega
      case rel=>exact ⟨i+1,zs,by omega,by omega,by go_num,Bo.o,Pv.o _ bl.o,uo.o _ bl.o⟩
    ·have hjj:(j:Int)≤(a:Int):=by omega
     have hdj:decide ((a:Int)<(j:Int))=false:=decide_eq_false (by omega)
     go_wp2
     refine ax ?_
     repeat (go_big_quiet_step (fail))
     refine gO ?_
     intro w2 bl
     go_wp2
     go_roundg (b-(i+1))
     case measure=>have :=HK.o;omega
     case rel=>exact ⟨i+1,zs,by omega,by omega,by go_num,Bo.o,mw.o.dX bl.o,cH.o.aj (bl.o.mono (fun k hk=>by cases hk))⟩
  ·have FF:al (Dy A c xs w (.returned (.tuple #[])) wr):=⟨rfl,ys,HP.o,HI.o,HF.o⟩
   go_wp2_with fail
   go_end0
   exact FF.o
theorem zU (w:World) (A:Option Addr) (c:Nat) (xs:List Int) (h:Ints w A c xs) (hl:xs.length≤17592186044416) (a m b:Nat) (tq:a<m) (LJ:m<b) (CV:b≤xs.length) (g:Nat) (cb:Array Value):
  Calls Tryz.prog 167 #[.slice A xs.length c, .int .i64 a, .int .i64 m, .int .i64 b, .func (.func g) #[] cb] w (Dy A c xs w):=by
 have HH:=ae h
 clear h
 obtain ⟨i0,LN⟩:∃i0,m-a=i0:=⟨_,rfl⟩
 obtain ⟨j0,jB⟩:∃j0,b-m=j0:=⟨_,rfl⟩
 have w0:IntKind.i64.wrap ((m:Int)-(a:Int))=(i0:Int):=by rw [IntWalk.i64_in _ (by omega)];omega
 have w1:IntKind.i64.wrap ((b:Int)-(m:Int))=(j0:Int):=by rw [IntWalk.i64_in _ (by omega)];omega
 go_enter Tryz.func167,Tryz.ntmps167
 go_wp2_with fail
 clear w0 w1
 go_loopg [10,11] (i0+j0) (fun g IF IE wr=>∃(i j:Nat) (ys:List Int),i+j=g∧0<i∧0<j∧i≤m-a∧j≤b-m∧IF= .int .i64 i∧IE= .int .i64 j∧al (ys.Perm xs)∧al (Ints wr A c ys)∧al (Fr (ap A) w wr))
 case atStart=>exact ⟨i0,j0,xs,rfl,by omega,by omega,by omega,by omega,rfl,rfl,dh _,HH.o,Fr.refl _ _⟩
 case round=>
  obtain ⟨i,j,ys,hg,hi,hj,hia,hjb,rfl,rfl,HP,HI,HF⟩:=hrel
  have HG:=ae hg
  have hlen:=HP.o.length_eq
  clear hg LN jB
  obtain ⟨p,hp⟩:∃p,m-i=p:=⟨_,rfl⟩
  have w1:IntKind.i64.wrap ((m:Int)-(i:Int))=(p:Int):=by rw [IntWalk.i64_in _ (by omega)];omega
  rcases Nat.lt_trichotomy i j with JQ |JQ |JQ
  ·obtain ⟨q,hq⟩:∃q,m+j=q:=⟨_,rfl⟩
   obtain ⟨r,hr⟩:∃r,q-i=r:=⟨_,rfl⟩
   obtain ⟨j1,hj1⟩:∃j1,j-i=j1:=⟨_,rfl⟩
   have w2:IntKind.i64.wrap ((m:Int)+(j:Int))=(q:Int):=by rw [IntWalk.i64_in _ (by omega)];omega
   have w3:IntKind.i64.wrap ((q:Int)-(i:Int))=(r:Int):=by rw [IntWalk.i64_in _ (by omega)];omega
   have w4:IntKind.i64.wrap ((j:Int)-(i:Int))=(j1:Int):=by rw [IntWalk.i64_in _ (by omega)];omega
   have KS:=ae (jO wr A c ys HI.o (by omega) p r i (by omega) (by omega) g cb)
   rw [hlen] at KS
   have dI:¬(i:Int)=(j:Int):=by omega
   have hle:(i:Int)≤(j:Int):=by omega
   have HJ:al (0<j1∧j1≤b-m∧i+j1<gk):=⟨by omega,by omega,by have :=HG.o;omega⟩
   clear hlen hp hq hr hj1 HI
   go_wp2_with fail
   refine KS.o.mono ?_
   clear KS
   rintro e w2 ⟨rfl,zs,z1,z2,z3⟩
   have Bo:=ae (z1.trans HP.o)
   have mw:=ae z2
   have cH:=ae (HF.o.aj z3)
   clear z1 z2 z3 HP HF
   go_wp2
   go_roundg (i+j1)
   case measure=>have :=HJ.o;omega
   case rel=>exact ⟨i,j1,zs,rfl,hi,HJ.o.1,hia,HJ.o.2.1,rfl,rfl,Bo.o,mw.o,cH.o⟩
  ·subst JQ
   have KS:=ae (jO wr A c ys HI.o (by omega) p m i (by omega) (by omega) g cb)
   rw [hlen] at KS
   clear hlen hp HI
   go_wp2_with fail
   refine KS.o.mono ?_
   clear KS
   rintro e w2 ⟨rfl,zs,z1,z2,z3⟩
   have FF:al (Dy A c xs w (.returned (.tuple #[])) w2):=⟨rfl,zs,z1.trans HP.o,z2,HF.o.aj z3⟩
   clear z1 z2 z3 HP HF
   go_wp2_with fail
   go_end0
   exact FF.o
  ·obtain ⟨i1,PX⟩:∃i1,i-j=i1:=⟨_,rfl⟩
   have w4:IntKind.i64.wrap ((i:Int)-(j:Int))=(i1:Int):=by rw [IntWalk.i64_in _ (by omega)];omega
   have KS:=ae (jO wr A c ys HI.o (by omega) p m j (by omega) (by omega) g cb)
   rw [hlen] at KS
   have dI:¬(i:Int)=(j:Int):=by omega
   have hle:(j:Int)<(i:Int):=by omega
   have HJ:al (0<i1∧i1≤m-a∧i1+j<gk):=⟨by omega,by omega,by have :=HG.o;omega⟩
   clear hlen hp PX HI
   go_wp2_with fail
   refine KS.o.mono ?_
   clear KS
   rintro e w2 ⟨rfl,zs,z1,z2,z3⟩
   have Bo:=ae (z1.trans HP.o)
   have mw:=ae z2
   have cH:=ae (HF.o.aj z3)
   clear z1 z2 z3 HP HF
   go_wp2
   go_roundg (i1+j)
   case measure=>have :=HJ.o;omega
   case rel=>exact ⟨i1,j,zs,rfl,HJ.o.1,hj,HJ.o.2.1,hjb,rfl,rfl,Bo.o,mw.o,cH.o⟩
def UD (w:World) (g:Nat) (cb:Array Value) (p:List Int→Bool) (hs:List Ls):Prop:=∀W,Fr [] w W→∀h,h∈hs→uh W h→
 Calls Tryz.prog g (#[h.val]++cb) W fun e w'=>e= .returned (.bool (p h.l))∧Fr [] W w'
theorem Ck (w:World) (A:Option Addr) (c:Nat) (hs:List Ls) (g:Nat) (cb:Array Value) (p:List Int→Bool) (eg:∀args w,(callFunc g args).run Tryz.prog w= .ok (.enter g args) w) (h:iS w A hs) (hl:hs.length≤17592186044416) (hp:UD w g cb p hs):
  Calls Tryz.prog 39 #[.slice A hs.length c, .func (.func g) #[] cb] w (LZ (hs.any fun h=>p h.l) w):=by
 have HH:=ae h
 have HP:=ae hp
 have pP:al (∀(n:Nat) W,n≤17592186044416→(hs.any fun h=>p h.l)=true→Fr [] w W→LZ (hs.any fun h=>p h.l) w (.returned (.int .i64 (n:Int))) W):=fun n W h1 h2 h3=>⟨n,rfl,by omega,by omega,by rw [h2];exact decide_eq_true (by omega),h3⟩
 have NO:al (∀W,(hs.any fun h=>p h.l)=false→Fr [] w W→LZ (hs.any fun h=>p h.l) w (.returned (.int .i64 (-1))) W):=fun W h2 h3=>⟨-1,rfl,by omega,by omega,by rw [h2];rfl,h3⟩
 clear h hp
 go_enter Tryz.func39,Tryz.ntmps39
 go_wp2_with fail
 go_loopg [8] hs.length (fun g i wr=>∃k:Nat,k+g=hs.length∧i= .int .i64 k∧Fr [] w wr∧eC hs (fun h=>p h.l) k)
 case atStart=>exact ⟨0,by omega,rfl,Fr.refl _ _,eC.zero _ _⟩
 case round=>
  obtain ⟨k,hk,rfl,hx,hn⟩:=hrel
  have HK:=ae hk
  have HX:=ae hx
  have HN:=ae hn
  have ly:k≤hs.length:=by omega
  clear hk hx hn
  by_cases bM:k<hs.length
  ·obtain ⟨b,o,B,d,l,hA,he,cx,ok⟩:=(HH.o.keep HX.o).one bM
   subst hA
   obtain ⟨q,HQ⟩:∃q,al (p l=q):=⟨_,rfl⟩
   have KC:=HP.o wr HX.o ⟨B,d,l⟩ (by rw [←he.o];exact bu bM) ok
   have HC:al (Calls Tryz.prog g (#[.slice B l.length d]++cb) wr fun e w'=>e= .returned (.bool (p l))∧Fr [] wr w'):=KC
   clear ok KC
   go_wp2_with fail
   refine HC.o.mono ?_
   rw [HQ.o]
   rintro e w2 ⟨rfl,hf⟩
   have HF:=ae (HX.o.aj hf)
   clear hf
   cases q with
   |true=>
    go_wp2
    go_ret
    exact pP.o k _ (by omega) (rK _ _ k bM (by rw [he.o];exact HQ.o)) HF.o
   |false=>
    go_wp2
    go_roundg (gk-1)
    case measure=>have :=HK.o;omega
    case rel=>exact ⟨k+1,by have :=HK.o;omega,by go_num,HF.o,HN.o.step (by rw [he.o];exact HQ.o)⟩
  ·have HT:=ae (HN.o.all bM)
   clear HN HK
   go_wp2
   go_ret
   exact NO.o _ HT.o HX.o
theorem kK (w:World) (A:Option Addr) (c:Nat) (hs:List Ls) (g:Nat) (cb:Array Value) (p:List Int→Bool) (eg:∀args w,(callFunc g args).run Tryz.prog w= .ok (.enter g args) w) (h:iS w A hs) (hl:hs.length≤17592186044416) (hp:UD w g cb p hs):
  Calls Tryz.prog 22 #[.slice A hs.length c, .func (.func g) #[] cb] w fun e w'=>e= .returned (.bool (hs.any fun h=>p h.l))∧Fr [] w w':=by
 have HC:=ae (Ck w A c hs g cb p eg h hl hp)
 clear h hp
 go_enter Tryz.func22,Tryz.ntmps22
 go_wp2_with fail
 refine HC.o.mono ?_
 rintro e w2 ⟨n,rfl,h1,h2,h3,hf⟩
 have H3:=ae h3
 have HF:=ae hf
 clear h3 hf
 go_wp2
 go_ret
 exact ⟨by rw [←H3.o];rfl,HF.o⟩
def dv (b l:Int):Int:=if l%2=1 then -(b+l/2+1) else b+l/2+1
theorem yP (w:World) (b v:Int) (hb:0≤b∧b≤1000000) (hv:0≤v∧v≤1000000):
  Calls Tryz.prog 89 #[.int .i64 b, .int .i64 v] w fun e w'=>e= .returned (.int .i64 (b+v+1))∧w=w':=by
 have h1:IntKind.i64.wrap (b+v)=b+v:=IntWalk.i64_in _ (by omega)
 have h2:IntKind.i64.wrap (b+v+1)=b+v+1:=IntWalk.i64_in _ (by omega)
 go_enter Tryz.func89,Tryz.ntmps89
 go_wp2
 go_ret
 exact ⟨rfl,rfl⟩
theorem mP (w:World) (b l:Int) (hb:0≤b∧b≤1000000) (hl:0≤l∧l≤1000000):
  Calls Tryz.prog 65 #[.int .i64 b, .int .i64 l] w fun e w'=>e= .returned (.int .i64 (dv b l))∧w=w':=by
 have KN:=ae (qW w l hl.1 (by omega))
 have KV:=ae (kb w l hl.1 (by omega))
 have KO:=ae (yP w b (l/2) hb (by omega))
 by_cases h1:l%2=1
 ·have d1:(l%2==1)=true:=by rw [h1];rfl
  have HT:al (dv b l= -(b+l/2+1)):=if_pos h1
  rw [HT.o]
  have hw:IntKind.i64.wrap (-(b+l/2+1))= -(b+l/2+1):=IntWalk.i64_in _ (by omega)
  clear h1
  go_enter Tryz.func65,Tryz.ntmps65
  go_wp2_with fail
  refine KN.o.mono ?_
  rintro e w1 ⟨rfl,rfl⟩
  go_wp2_with fail
  refine KV.o.mono ?_
  rintro e w1 ⟨rfl,rfl⟩
  go_wp2_with fail
  refine KO.o.mono ?_
  rintro e w1 ⟨rfl,rfl⟩
  go_wp2
  go_ret
  exact ⟨rfl,rfl⟩
 ·have d1:(l%2==1)=false:=by rw [beq_eq_false_iff_ne];exact h1
  have HT:al (dv b l=b+l/2+1):=if_neg h1
  rw [HT.o]
  clear h1
  go_enter Tryz.func65,Tryz.ntmps65
  go_wp2_with fail
  refine KN.o.mono ?_
  rintro e w1 ⟨rfl,rfl⟩
  go_wp2_with fail
  refine KV.o.mono ?_
  rintro e w1 ⟨rfl,rfl⟩
  go_wp2_with fail
  refine KO.o.mono ?_
  rintro e w1 ⟨rfl,rfl⟩
  go_wp2
  go_ret
  exact ⟨rfl,rfl⟩
theorem zm (w:World) (b:Int) (hb:0≤b∧b≤262144):
  Calls Tryz.prog 64 #[.int .i64 b] w fun e w'=>e= .returned (.int .i64 b)∧w=w':=by
 have h1:decide (b<0)=false:=decide_eq_false (by omega)
 have h2:decide (262144<b)=false:=decide_eq_false (by omega)
 go_enter Tryz.func64,Tryz.ntmps64
 go_wp2
 go_ret
 exact ⟨rfl,rfl⟩
theorem ss (w:World) (b l:Int) (hb:0≤b∧b≤262144) (hl:0≤l∧l≤4097):
  Calls Tryz.prog 35 #[.int .i64 b, .int .i64 l] w fun e w'=>e= .returned (.int .i64 (dv b l))∧w=w':=by
 have KA:=ae (zm w b hb)
 have KL:=ae (mP w b l (by omega) (by omega))
 have hm:min l 4097=l:=by omega
 go_enter Tryz.func35,Tryz.ntmps35
 go_wp2_with fail
 refine KA.o.mono ?_
 rintro e w1 ⟨rfl,rfl⟩
 go_wp2_with fail
 refine KL.o.mono ?_
 rintro e w1 ⟨rfl,rfl⟩
 go_wp2
 go_ret
 exact ⟨rfl,rfl⟩
theorem eh {C:Pc} (h:Valid C):∀x∈cD C,2≤x∧x≤2*C.mx∧x%2=0:=by
 intro x hx
 obtain ⟨j,hj,hg⟩:=List.getElem_of_mem hx
 have :=h.own j hj
 simp only [kR,aD,decide_eq_true_eq] at this
 rw [aa,af hj,ay,hg] at this
 exact ⟨this.1.1.1,this.1.2,this.1.1.2⟩
theorem gv {C:Pc} (h:Valid C) (j:Nat) (hj:j<C.bi.length):2≤(C.bi[j]!).a∧(C.bi[j]!).a≤2*C.mx∧(C.bi[j]!).a%2=0:=by
 refine eh h _ ?_
 rw [aa,af hj]
 simp only [cD,ag,az,ay]
 exact .inl (.inr ⟨_,List.getElem_mem hj,rfl⟩)
def eZ (C:Pc) (f:Int):Int:=f*(C.mx+1)
theorem pb {C:Pc} (h0:0≤C.mx) (h1:C.mx≤2048) {f:Int} (hf:0≤f∧f≤81):0≤eZ C f∧eZ C f≤165969:=by
 unfold eZ
 have h2:f*(C.mx+1)≤81*2049:=by
  have h3:f*(C.mx+1)≤81*(C.mx+1):=Int.mul_le_mul_of_nonneg_right hf.2 (by omega)
  omega
 exact ⟨Int.mul_nonneg hf.1 (by omega),by omega⟩
theorem ld (w:World) (H:Hd) (C:Pc) (h0:0≤C.mx) (h1:C.mx≤2048) (f:Int) (hf:0≤f∧f≤81):
  Calls Tryz.prog 59 #[eX H C, .int .i64 f] w fun e w'=>e= .returned (.int .i64 (eZ C f))∧Fr [] w w':=by
 have HX:=ae (Cx.start w H C)
 have hb:=pb h0 h1 hf
 have dO:IntKind.i64.wrap (C.mx+1)=C.mx+1:=IntWalk.i64_in _ (by omega)
 have mD:IntKind.i64.wrap (f*(C.mx+1))=f*(C.mx+1):=IntWalk.i64_in _ (by unfold eZ at hb;omega)
 have HB:al (eZ C f=f*(C.mx+1)):=(rfl :eZ C f=f*(C.mx+1))
 rw [HB.o]
 clear hb HB
 obtain ⟨mx,ins,bi,outs,a8,aZ,aG,b8⟩:=C
 obtain ⟨iA,iC,lA,lC,oA,oC,bA,bC,vA,vC,gA,gC,nA,nC⟩:=H
 simp only [eX,kj] at *
 obtain ⟨c0,c1,c2,c3,c4,c5,c6,c7⟩:=HX.o.cells
 go_enter Tryz.func59,Tryz.ntmps59
 go_wp2
 go_ret
 exact ⟨rfl,HX.o.fr⟩
theorem iF (w:World) (H:Hd) (C:Pc) (h:iy w H C) (hv:Valid C) (f:Int) (hf:0≤f∧f≤80):
  Calls Tryz.prog 57 #[eX H C, .int .i64 f] w fun e w'=>e= .returned (.bool true)∧Fr [] w w':=by
 have HX:=ae (Cx.start w H C)
 have KC:al (Calls Tryz.prog 36 #[eX H C] (w.alloc (.cells (kj H C) 27)) fun e w'=>e= .returned (.int .i64 0)∧Fr [] (w.alloc (.cells (kj H C) 27)) w'):=(oE _ H C (h.keep HX.o.fr)).mono fun e w' ⟨h1,h2⟩=>by
  rcases h1 with ⟨h3,_⟩ |⟨_,h3⟩
  ·exact ⟨h3,h2⟩
  ·exact absurd hv h3
 have d0:decide (0≤f)=true:=decide_eq_true hf.1
 have d1:decide (f≤80)=true:=decide_eq_true hf.2
 clear h hv
 obtain ⟨mx,ins,bi,outs,a8,aZ,aG,b8⟩:=C
 obtain ⟨iA,iC,lA,lC,oA,oC,bA,bC,vA,vC,gA,gC,nA,nC⟩:=H
 simp only [eX,kj] at *
 obtain ⟨c0,c1,c2,c3,c4,c5,c6,c7⟩:=HX.o.cells
 go_enter Tryz.func57,Tryz.ntmps57
 go_wp2_with fail
 refine KC.o.mono ?_
 rintro e w1 ⟨rfl,cU⟩
 have HF:=ae (HX.o.fr.aj cU)
 clear cU
 go_wp2
 go_ret
 exact ⟨rfl,HF.o⟩
theorem BE (w:World) (H:Hd) (C:Pc) (h:iy w H C) (hv:Valid C) (f:Int) (hf:0≤f∧f≤80):
  Calls Tryz.prog 46 #[eX H C, .int .i64 f] w fun e w'=>e= .returned (.int .i64 (eZ C f))∧Fr [] w w':=by
 have HX:=ae (Cx.start w H C)
 have KR:=ae (iF _ H C (h.keep HX.o.fr) hv f hf)
 have KB:=ae (fun W=>ld W H C hv.m0 hv.m1 f (by omega))
 obtain ⟨B,hB⟩:∃B,eZ C f=B:=⟨_,rfl⟩
 simp only [hB] at KB⊢
 clear h hv hB
 obtain ⟨mx,ins,bi,outs,a8,aZ,aG,b8⟩:=C
 obtain ⟨iA,iC,lA,lC,oA,oC,bA,bC,vA,vC,gA,gC,nA,nC⟩:=H
 simp only [eX,kj] at *
 obtain ⟨c0,c1,c2,c3,c4,c5,c6,c7⟩:=HX.o.cells
 go_enter Tryz.func46,Tryz.ntmps46
 go_wp2_with fail
 refine KR.o.mono ?_
 rintro e w1 ⟨rfl,cU⟩
 have lP:=ae (HX.o.keep cU)
 obtain ⟨d0,d1,d2,d3,d4,d5,d6,d7⟩:=lP.o.cells
 clear cU c0 c1 c2 c3 c4 c5 c6 c7
 go_wp2_with fail
 refine (KB.o w1).mono ?_
 rintro e w2 ⟨rfl,bZ⟩
 have HF:=ae (lP.o.fr.aj bZ)
 clear bZ
 go_wp2
 go_ret
 exact ⟨rfl,HF.o⟩
theorem BC (w:World) (H:Hd) (C:Pc) (h:iy w H C) (hv:Valid C) (f:Int) (hf:0≤f∧f≤80):
  Calls Tryz.prog 26 #[eX H C, .int .i64 f] w fun e w'=>e= .returned (.int .i64 (eZ C f))∧Fr [] w w':=by
 have HX:=ae (Cx.start w H C)
 have KB:=ae (BE _ H C (h.keep HX.o.fr) hv f hf)
 clear h hv
 obtain ⟨mx,ins,bi,outs,a8,aZ,aG,b8⟩:=C
 obtain ⟨iA,iC,lA,lC,oA,oC,bA,bC,vA,vC,gA,gC,nA,nC⟩:=H
 simp only [eX,kj] at *
 obtain ⟨c0,c1,c2,c3,c4,c5,c6,c7⟩:=HX.o.cells
 go_enter Tryz.func26,Tryz.ntmps26
 go_wp2_with fail
 refine KB.o.mono ?_
 rintro e w2 ⟨rfl,bZ⟩
 have HF:=ae (HX.o.fr.aj bZ)
 clear bZ
 go_wp2
 go_ret
 exact ⟨rfl,HF.o⟩
def iN (C:Pc) (f n:Int):Int:=if n<0 then -(dv (eZ C f) (C.bi[(-n-1).toNat]!).a) else dv (eZ C f) (C.bi[(n-1).toNat]!).a
theorem mG (w:World) (H:Hd) (C:Pc) (h:iy w H C) (hv:Valid C) (f:Int) (hf:0≤f∧f≤80) (n:Int) (hn:n≠0∧ -(C.bi.length:Int)≤n∧n≤C.bi.length):
  Calls Tryz.prog 58 #[eX H C, .int .i64 f, .int .i64 n] w fun e w'=>e= .returned (.int .i64 (iN C f n))∧Fr [] w w':=by
 obtain ⟨wb,eR⟩:∃W,w.alloc (.cells (kj H C) 27)=W:=⟨_,rfl⟩
 have hx:=Cx.start w H C
 rw [eR] at hx
 have HX:=ae hx
 have NL:=hv.l
 obtain ⟨j,hj,RD⟩:∃j:Nat,j<C.bi.length∧(n=(j:Int)+1∨n= -((j:Int)+1)):=by
  by_cases h0:n<0
  ·exact ⟨(-n-1).toNat,by omega, .inr (by omega)⟩
  ·exact ⟨(n-1).toNat,by omega, .inl (by omega)⟩
 obtain ⟨b,o,x,y,z,hA,he,cx,-⟩:=(h.keep hx.fr).l.one h.lr hj
 have dA:=gv hv j hj
 rw [he.o] at dA
 have hb:=pb hv.m0 hv.m1 (f:=f) (by omega)
 have KB:=ae (fun W=>ld W H C hv.m0 hv.m1 f (by omega))
 have vO:=hv.m1
 have KL:=ae (fun W=>ss W (eZ C f) x (by omega) (by simp only at dA;omega))
 obtain ⟨B,hB⟩:∃B,eZ C f=B:=⟨_,rfl⟩
 have xB:1≤dv B x∧dv B x≤1000000:=by
  unfold dv
  rw [hB] at hb
  simp only at dA
  rw [if_neg (by omega)]
  omega
 obtain ⟨t,ht⟩:∃t,dv B x=t:=⟨_,rfl⟩
 have yq:al (iN C f n=if n<0 then -t else t):=by
  show _=_
  unfold iN
  rw [hB]
  rcases RD with rfl |rfl
  ·rw [if_neg (by omega),if_neg (by omega),show ((j:Int)+1-1).toNat=j by omega,he.o,ht]
  ·rw [if_pos (by omega),if_pos (by omega),show (-(-((j:Int)+1))-1).toNat=j by omega,he.o,ht]
 rw [yq.o]
 simp only [hB,ht] at KB KL
 rw [ht] at xB
 have DW:(j:Int)<(C.bi.length:Int):=by omega
 have Pa:=ae eR
 clear h hv hx dA hb hB ht yq he eR
 obtain ⟨mx,ins,bi,outs,a8,aZ,aG,b8⟩:=C
 obtain ⟨iA,iC,lA,lC,oA,oC,bA,bC,vA,vC,gA,gC,nA,nC⟩:=H
 simp only [eX,kj] at *
 try simp only at hA
 subst hA
 obtain ⟨c0,c1,c2,c3,c4,c5,c6,c7⟩:=HX.o.cells
 obtain ⟨e0,e1,e2,e3,e4,e5,e6,e7⟩:=HX.o.ext
 have ex:=Ext.cell cx
 have eR:=Pa.o
 try simp only [kj] at eR
 rcases RD with rfl |rfl
 ·have d0:decide ((j:Int)+1<0)=false:=decide_eq_false (by omega)
  rw [if_neg (by omega)]
  have dO:IntKind.i64.wrap (-((j:Int)+1))= -((j:Int)+1):=IntWalk.i64_in _ (by omega)
  have qx:max ((j:Int)+1) (-((j:Int)+1))=(j:Int)+1:=by omega
  have mD:IntKind.i64.wrap ((j:Int)+1-1)=(j:Int):=by rw [show (j:Int)+1-1=(j:Int) by omega];exact IntWalk.i64_in _ (by omega)
  go_enter Tryz.func58,Tryz.ntmps58
  go_upto_region 1 with fail
  refine ax ?_
  repeat (go_big_quiet_step (first |exact bV (KB.o _) |exact bk (KL.o _)))
  refine gO ?_
  intro w2 bl
  go_wp2
  go_ret
  exact ⟨rfl,HX.o.fr.aj bl.o⟩
 ·have d0:decide (-((j:Int)+1)<0)=true:=decide_eq_true (by omega)
  rw [if_pos (by omega)]
  have dO:IntKind.i64.wrap (- -((j:Int)+1))=(j:Int)+1:=by rw [Int.neg_neg];exact IntWalk.i64_in _ (by omega)
  have qx:max (-((j:Int)+1)) ((j:Int)+1)=(j:Int)+1:=by omega
  have mD:IntKind.i64.wrap ((j:Int)+1-1)=(j:Int):=by rw [show (j:Int)+1-1=(j:Int) by omega];exact IntWalk.i64_in _ (by omega)
  have rf:IntKind.i64.wrap (-t)= -t:=IntWalk.i64_in _ (by omega)
  go_enter Tryz.func58,Tryz.ntmps58
  go_upto_region 1 with fail
  refine ax ?_
  repeat (go_big_quiet_step (first |exact bV (KB.o _) |exact bk (KL.o _)))
  refine gO ?_
  intro w2 bl
  go_wp2
  go_ret
  exact ⟨rfl,HX.o.fr.aj bl.o⟩
theorem zy (w:World) (H:Hd) (C:Pc) (h:iy w H C) (hv:Valid C) (f:Int) (hf:0≤f∧f≤80) (n:Int) (hn:n≠0∧ -(C.bi.length:Int)≤n∧n≤C.bi.length):
  Calls Tryz.prog 55 #[eX H C, .int .i64 f, .int .i64 n] w fun e w'=>e= .returned (.int .i64 (iN C f n))∧Fr [] w w':=by
 have HX:=ae (Cx.start w H C)
 have KR:=ae (iF _ H C (h.keep HX.o.fr) hv f hf)
 have KL:=ae (fun W (hW:Fr [] w W)=>mG W H C (h.keep hW) hv f hf n hn)
 have NL:=hv.l
 obtain ⟨B,hB⟩:∃B,iN C f n=B:=⟨_,rfl⟩
 simp only [hB] at KL⊢
 have d0:(n==(0:Int))=false:=by rw [beq_eq_false_iff_ne];exact hn.1
 have d1:decide ((C.bi.length:Int)<n)=false:=decide_eq_false (by omega)
 have d2:decide (n< -(C.bi.length:Int))=false:=decide_eq_false (by omega)
 have hw:IntKind.i64.wrap (-(C.bi.length:Int))= -(C.bi.length:Int):=IntWalk.i64_in _ (by omega)
 clear h hv hB hn
 obtain ⟨mx,ins,bi,outs,a8,aZ,aG,b8⟩:=C
 obtain ⟨iA,iC,lA,lC,oA,oC,bA,bC,vA,vC,gA,gC,nA,nC⟩:=H
 simp only [eX,kj] at *
 obtain ⟨c0,c1,c2,c3,c4,c5,c6,c7⟩:=HX.o.cells
 go_enter Tryz.func55,Tryz.ntmps55
 go_wp2_with fail
 refine KR.o.mono ?_
 rintro e w1 ⟨rfl,cU⟩
 have lP:=ae (HX.o.keep cU)
 obtain ⟨e0,e1,e2,e3,e4,e5,e6,e7⟩:=lP.o.cells
 clear cU c0 c1 c2 c3 c4 c5 c6 c7
 go_wp2_with fail
 refine (KL.o w1 lP.o.fr).mono ?_
 rintro e w2 ⟨rfl,bZ⟩
 have HF:=ae (lP.o.fr.aj bZ)
 clear bZ
 go_wp2
 go_ret
 exact ⟨rfl,HF.o⟩
structure Qn where
 C:Pc
 am:List Ls
 ls:List Ls
 ks:List Ls
 bad:Int
 dep:Int
 xG:Int
structure Qh where
 H:Hd
 aA:Option Addr
 aC:Nat
 lA:Option Addr
 lC:Nat
 kA:Option Addr
 kC:Nat
def jR (H:Qh) (q:Qn):Array Value:=
 #[.int .i64 q.C.mx, .slice H.H.iA q.C.ins.length H.H.iC, .slice H.H.lA q.C.bi.length H.H.lC, .slice H.H.oA q.C.outs.length H.H.oC, .slice H.H.bA q.C.a8.length H.H.bC, .slice H.H.vA q.C.aZ.length H.H.vC, .slice H.H.gA q.C.aG.length H.H.gC, .slice H.H.nA q.C.b8.length H.H.nC,
  .slice H.aA q.am.length H.aC, .slice H.lA q.ls.length H.lC, .slice H.kA q.ks.length H.kC, .int .i64 q.bad, .int .i64 q.dep, .int .i64 q.xG]
def jv (H:Qh) (q:Qn):Value:= .agg (jR H q)
structure m8 (w:World) (H:Qh) (q:Qn):Prop where
 c:iy w H.H q.C
 a:iS w H.aA q.am
 l:iS w H.lA q.ls
 k:iS w H.kA q.ks
 aL:q.am.length≤5864062014805
 lL:q.ls.length≤5864062014805
 kL:q.ks.length≤5864062014805
 br:dY q.bad
 dr:dY q.dep
 ur:dY q.xG
theorem m8.keep {w w':World} {H:Qh} {q:Qn} (h:m8 w H q) (hf:Fr [] w w'):m8 w' H q:=⟨h.c.keep hf,h.a.keep hf,h.l.keep hf,h.k.keep hf,h.aL,h.lL,h.kL,h.br,h.dr,h.ur⟩
def pj (mx:Int) (l:List Int):Bool:=decide (1024<(l.length:Int)) || !QS mx l
theorem Mv (W:World) (g:Nat) (mx:Int) (hc:W.cell? ⟨g,0,none⟩=some (.int .i64 mx)) (h0:0≤mx) (h1:mx≤2048) (h:Ls) (hk:uh W h):
  Calls Tryz.prog 72 #[h.val, .pointer (some ⟨g,0,none⟩)] W fun e w'=>e= .returned (.bool (pj mx h.l))∧Fr [] W w':=by
 obtain ⟨A,c,l⟩:=h
 have KL:=ae (Ad W mx A c l h0 h1 hk.1 hk.2.1 hk.2.2.1)
 show Calls Tryz.prog 72 #[.slice A l.length c, .pointer (some ⟨g,0,none⟩)] W fun e w'=>e= .returned (.bool (pj mx l))∧Fr [] W w'
 obtain ⟨Y,hY⟩:∃Y,pj mx l=Y:=⟨_,rfl⟩
 rw [hY]
 have HY:=ae hY
 clear hk hY
 by_cases hl:1024<(l.length:Int)
 ·have d0:decide (1024<(l.length:Int))=true:=decide_eq_true hl
  have hf:Y=true:=by rw [←HY.o];unfold pj;rw [d0];rfl
  subst hf
  go_enter Tryz.func72,Tryz.ntmps72
  go_wp2
  go_ret
  exact ⟨rfl,Fr.refl _ _⟩
 ·have d0:decide (1024<(l.length:Int))=false:=decide_eq_false hl
  obtain ⟨b,hb⟩:∃b,QS mx l=b:=⟨_,rfl⟩
  rw [hb] at KL
  have hf:Y= !b:=by rw [←HY.o];unfold pj;rw [d0,hb];rfl
  subst hf
  clear hb HY hl
  cases b with
  |true=>
   go_enter Tryz.func72,Tryz.ntmps72
   go_wp2_with fail
   refine KL.o.mono ?_
   rintro e w2 ⟨rfl,hf⟩
   have HF:=ae hf
   clear hf
   simp only [Zi]
   go_wp2
   go_ret
   exact ⟨rfl,HF.o⟩
  |false=>
   go_enter Tryz.func72,Tryz.ntmps72
   go_wp2_with fail
   refine KL.o.mono ?_
   rintro e w2 ⟨rfl,hf⟩
   have HF:=ae hf
   clear hf
   simp only [Zi]
   go_wp2
   go_ret
   exact ⟨rfl,HF.o⟩
theorem ub:∀args w,(callFunc 72 args).run Tryz.prog w= .ok (.enter 72 args) w:=enters_of Tryz.func72 (by kernel_rfl) rfl
theorem xL (w:World) (H:Hd) (C:Pc):
  Calls Tryz.prog 37 #[eX H C] w fun e w'=>e= .returned (.func (.func 72) #[] #[.pointer (some ⟨w.heap.size,0,none⟩)])∧w'=w.alloc (.cells (kj H C) 27):=by
 obtain ⟨mx,ins,bi,outs,a8,aZ,aG,b8⟩:=C
 obtain ⟨iA,iC,lA,lC,oA,oC,bA,bC,vA,vC,gA,gC,nA,nC⟩:=H
 simp only [eX,kj] at *
 go_enter Tryz.func37,Tryz.ntmps37
 go_wp2
 go_ret
 exact ⟨rfl,rfl⟩
theorem zL (w:World) (H:Hd) (C:Pc):
  Calls Tryz.prog 37 #[eX H C] w fun e w'=>∃g,e= .returned (.func (.func 72) #[] #[.pointer (some ⟨g,0,none⟩)])∧w'.cell? ⟨g,0,none⟩=some (.int .i64 C.mx)∧Fr [] w w':=
 (xL w H C).mono fun e w' ⟨h1,h2⟩=>⟨w.heap.size,h1,by rw [h2];exact (OT w H C).cell 0,h2▸eE _ _⟩
end Go.Proofs.YtdgplmgfkliijaaGreat
