/- Parts of a proof. -/
import Derived.Test.YtjmmpfjcpdepjaaGreatDoorGAK
import Derived.Shelf.SlSortCmp.NoneTotal
set_option linter.unusedVariables false
set_option linter.unusedSimpArgs false
set_option maxHeartbeats 16000000
namespace Go.Proofs.YtjmmpfjcpdepjaaGreatDoor
open Go.Shelf
def sortL_ren:Go.Shelf.Ren:=⟨fun |6=>121 |15=>150 |14=>149 |28=>186 |29=>187 |20=>178 |21=>179 |22=>180 |23=>181 |24=>182 |25=>183 |26=>184 |27=>185 |46=>205 |47=>206 |48=>207 |49=>208 |50=>209 |57=>220 |n=>n,fun |22=>22 |24=>3 |25=>77 |3=>3 |39=>159 |0=>0 |53=>191 |55=>194 |4=>4 |46=>206 |45=>205 |50=>210 |5=>5 |9=>9 |66=>227 |70=>231 |76=>236 |77=>237 |n=>n,fun |n=>n⟩
theorem sortL:Go.Proofs.SlLaysF.n6 Tryz.prog sortL_ren:={
 mixed:=by kernel_rfl
 f6:=⟨Tryz.f121.name,by decide,Tryz.func121.trans (congrArg some (by kernel_rfl))⟩
 f14:=⟨Tryz.f149.name,by decide,Tryz.func149.trans (congrArg some (by kernel_rfl))⟩
 f15:=Tryz.func150.trans (congrArg some (by kernel_rfl))
 f20:=⟨Tryz.f178.name,by decide,Tryz.func178.trans (congrArg some (by kernel_rfl))⟩
 f21:=⟨Tryz.f179.name,by decide,Tryz.func179.trans (congrArg some (by kernel_rfl))⟩
 f22:=⟨Tryz.f180.name,by decide,Tryz.func180.trans (congrArg some (by kernel_rfl))⟩
 f23:=⟨Tryz.f181.name,by decide,Tryz.func181.trans (congrArg some (by kernel_rfl))⟩
 f24:=⟨Tryz.f182.name,by decide,Tryz.func182.trans (congrArg some (by kernel_rfl))⟩
 f25:=⟨Tryz.f183.name,by decide,Tryz.func183.trans (congrArg some (by kernel_rfl))⟩
 f26:=⟨Tryz.f184.name,by decide,Tryz.func184.trans (congrArg some (by kernel_rfl))⟩
 f27:=⟨Tryz.f185.name,by decide,Tryz.func185.trans (congrArg some (by kernel_rfl))⟩
 f28:=Tryz.func186.trans (congrArg some (by kernel_rfl))
 f29:=Tryz.func187.trans (congrArg some (by kernel_rfl))
 f46:=⟨Tryz.f205.name,by decide,Tryz.func205.trans (congrArg some (by kernel_rfl))⟩
 f47:=Tryz.func206.trans (congrArg some (by kernel_rfl))
 f48:=Tryz.func207.trans (congrArg some (by kernel_rfl))
 f49:=⟨Tryz.f208.name,by decide,Tryz.func208.trans (congrArg some (by kernel_rfl))⟩
 f50:=⟨Tryz.f209.name,by decide,Tryz.func209.trans (congrArg some (by kernel_rfl))⟩
 f57:=⟨Tryz.f220.name,by decide,Tryz.func220.trans (congrArg some (by kernel_rfl))⟩
 t0:=Tryz.underlying0
 a0:=Tryz.isAgg0
 z0:=Tryz.sizeOf0
 v0:=Tryz.zeroValue0
 t3:=Tryz.underlying3
 a3:=Tryz.isAgg3
 z3:=Tryz.sizeOf3
 v3:=Tryz.zeroValue3
 t4:=Tryz.underlying4
 a4:=Tryz.isAgg4
 z4:=Tryz.sizeOf4
 v4:=Tryz.zeroValue4
 t5:=Tryz.underlying5
 a5:=Tryz.isAgg5
 z5:=Tryz.sizeOf5
 v5:=Tryz.zeroValue5
 t9:=Tryz.underlying9
 a9:=Tryz.isAgg9
 z9:=Tryz.sizeOf9
 v9:=Tryz.zeroValue9
 t22:=Tryz.underlying22
 a22:=Tryz.isAgg22
 z22:=Tryz.sizeOf22
 v22:=Tryz.zeroValue22
 a24:=Tryz.isAgg3
 z24:=Tryz.sizeOf3
 t25:=Tryz.underlying77
 a25:=Tryz.isAgg77
 z25:=Tryz.sizeOf77
 v25:=Tryz.zeroValue77
 t39:=Tryz.underlying159
 a39:=Tryz.isAgg159
 z39:=Tryz.sizeOf159
 v39:=Tryz.zeroValue159
 t45:=Tryz.underlying205
 a45:=Tryz.isAgg205
 z45:=Tryz.sizeOf205
 v45:=Tryz.zeroValue205
 t46:=Tryz.underlying206
 a46:=Tryz.isAgg206
 z46:=Tryz.sizeOf206
 v46:=Tryz.zeroValue206
 t50:=Tryz.underlying210
 a50:=Tryz.isAgg210
 z50:=Tryz.sizeOf210
 v50:=Tryz.zeroValue210
 t53:=Tryz.underlying191
 a53:=Tryz.isAgg191
 z53:=Tryz.sizeOf191
 v53:=Tryz.zeroValue191
 t55:=Tryz.underlying194
 a55:=Tryz.isAgg194
 z55:=Tryz.sizeOf194
 v55:=Tryz.zeroValue194
 t66:=Tryz.underlying227
 a66:=Tryz.isAgg227
 z66:=Tryz.sizeOf227
 v66:=Tryz.zeroValue227
 t70:=Tryz.underlying231
 a70:=Tryz.isAgg231
 z70:=Tryz.sizeOf231
 v70:=Tryz.zeroValue231
 t76:=Tryz.underlying236
 a76:=Tryz.isAgg236
 z76:=Tryz.sizeOf236
 v76:=Tryz.zeroValue236
 t77:=Tryz.underlying237
 a77:=Tryz.isAgg237
 z77:=Tryz.sizeOf237
 v77:=Tryz.zeroValue237 }
open Go.RowKit Go.Sort
theorem key_lt (x y:Int):ltOf ordF x y=(decide (absF x<absF y) || (decide (absF x=absF y)&&decide (x<y))):=by
 unfold ltOf ordF orI cmpI
 by_cases h1:absF x<absF y
 ·simp [h1]
 ·by_cases h2:absF y<absF x
  ·simp [h1,h2]
   omega
  ·have h3:absF x=absF y:=by omega
   by_cases h4:x<y
   ·simp [h3,h4]
   ·by_cases h5:y<x<;>simp [h3,h4,h5]
theorem swoO:SWO (ltOf ordF) where
 irrefl x:=by rw [key_lt];simp
 trans x y z h1 h2:=by
  rw [key_lt] at *
  simp only [Bool.or_eq_true,Bool.and_eq_true,decide_eq_true_eq] at *
  omega
 ntrans x y z h1 h2:=by
  rw [key_lt] at *
  simp only [Bool.or_eq_false_iff,Bool.and_eq_false_iff,decide_eq_false_iff_not] at *
  omega
theorem cmpLays (g off size:Nat) (w:World):CmpLays1 Tryz.prog 122 #[] (Value.int .i64) ordF g off size w:=
 fun m os dk _ x y=>(order_calls _ x y).mono fun e w' ⟨he,hw⟩=>⟨he,0,#[.cells #[.int .i64 (cmpI (absF x) (absF y)), .int .i64 (cmpI x y)] 3],by rw [hw,alloc_eq_grow];rfl⟩
end Go.Proofs.YtjmmpfjcpdepjaaGreatDoor
namespace Go.Proofs.YtjmmpfjcpdepjaaGreatDoor
open Go.RowKit Go.Shelf Go.Sort
set_option maxRecDepth 100000 in
theorem clone_rd (w:World) (A:Option Addr) (c:Nat) (xs:List Int) (h:Rd w A xs) (hn:A=none→c=0) (hlen:xs.length<17592186044416):
  Calls Tryz.prog 98 #[.slice A xs.length c] w fun e w'=>∃A' c',e= .returned (.slice A' xs.length c')∧Ints w' A' c' xs∧(∀k,k∈blks A'→w.heap.size≤k)∧Fr [] w w':=by
 cases A with
 |none=>
  have h0:xs.length=0:=by
   rcases Nat.eq_zero_or_pos xs.length with h5 |h5
   ·exact h5
   ·obtain ⟨b,o,hA,_⟩:=h h5
    cases hA
  obtain rfl :xs=[]:=List.eq_nil_of_length_eq_zero h0
  obtain rfl :=hn rfl
  have he:∀w:World,(binOp .eql 22 (.slice none 0 0) (.slice none 0 0)).run Tryz.prog w= .ok (.bool true) w:=fun w=>Lib.run_eql_slice_nil w _ _ _ _ _ _ _ Tryz.underlying22
  have e0:([]:List Int).length=0:=rfl
  rw [e0]
  clear h hn h0
  go_enter Tryz.func98,Tryz.ntmps98
  go_wp2_with fail
  go_ret
  exact ⟨none,0,rfl,Ints.nil _,by simp [blks],Fr.refl _ _⟩
 |some ad=>
  have he:∀w:World,(binOp .eql 22 (.slice (some ad) xs.length c) (.slice none 0 0)).run Tryz.prog w= .ok (.bool false) w:=fun w=>Lib.run_eql_slice_nil w _ _ _ _ _ _ _ Tryz.underlying22
  have HC:Hid (∀j:Nat,∀y,xs[j]? =some y→(w.alloc (.cells #[] 3)).cell? (ad.add j)=some (.int .i64 y)):=fun j y hy=>by
   have hj:=(List.getElem?_eq_some_iff.1 hy).1
   obtain ⟨b,o,hA,hx⟩:=h (by omega)
   cases hA
   have :=(box_fr' w (.cells #[] 3)).cellS (hx j hj)
   rw [List.getElem!_eq_getElem?_getD,hy] at this
   rw [addr_add]
   simpa using this
  clear h hn
  go_enter Tryz.func98,Tryz.ntmps98
  go_wp2_with (at_builtin;(refine wpList_append_row _ rfl _ _ 22 rfl 3 (.int .i64 0) 1 8 Tryz.underlying22 infoInt rfl (by decide) (some ⟨w.heap.size,0,none⟩) 0 0 rfl [] ?hown ad xs.length c rfl (xs.map (Value.int .i64)) (by simp) ?hnews (by simp [Value.oneCell']) (by unfold maxLen;omega) (by omega) ?_;(case hown=>exact World.ownsRow_lit w #[] 0 (Nat.zero_le _) (by simp [maxLen]) (by simp));(case hnews=>intro jj u hu;simp only [List.getElem?_map,Option.map_eq_some_iff] at hu;obtain ⟨y,hy,rfl⟩:=hu;exact HC.out jj y hy);intro A2 cap w2 hi2 hf2 hg2 hs2 hnn hff;have HI:=Lib.hid hi2;have HF2:=Lib.hid hf2;have HG2:=Lib.hid hg2;have HNN:=Lib.hid hnn;clear hi2 hf2 hg2 hs2 hnn hff))
  go_ret
  refine ⟨A2,cap,by simp,?_,fun k hk=> ?_,?_⟩
  ·have :=HI.out
   unfold Ints
   simpa using this
  ·rcases HG2.out k hk with h |h
   ·simp [blks] at h;omega
   ·rw [h];simp
  ·exact ((Fr.refl [] w).alloc _).trans HF2.out (fun k hk=> .inr (by simp [blks] at hk;omega))
def msort (xs:List Int):List Int:=xs.mergeSort fun x y=> !(ltOf ordF) y x
theorem ord_total (x y:Int) (h1:ltOf ordF x y=false) (h2:ltOf ordF y x=false):x=y:=by
 rw [key_lt] at *
 simp only [Bool.or_eq_false_iff,Bool.and_eq_false_iff,decide_eq_false_iff_not] at *
 omega
theorem sortWorld_row (w:World) (g n:Nat) (d:Array Int) (os:Array Obj) (cur:Array Value) (hg:w.heap[g]? =some (.cells cur 3 (0,0))):(sortWorld (Value.int .i64) w g 0 n d os).heap[g]? =some (.cells (putCells (Value.int .i64) 0 d cur) 3 (0,0)):=by
 have hlt:=(Array.getElem?_eq_some_iff.1 hg).1
 unfold sortWorld grow putRow mapBlock Sort.ahead
 simp only
 rw [Array.getElem?_append_left (by simpa using hlt),Array.getElem?_modify,if_pos rfl,hg]
 rfl
theorem sortWorld_fr (w:World) (g n:Nat) (d:Array Int) (os:Array Obj):Fr [g] w (sortWorld (Value.int .i64) w g 0 n d os):=by
 unfold sortWorld grow putRow mapBlock Sort.ahead
 refine ⟨rfl,rfl,rfl,by simp,fun k hk hn=> ?_⟩
 simp only
 rw [Array.getElem?_append_left (by simpa using hk),Array.getElem?_modify,if_neg (fun e=>hn (by simp [e]))]
theorem enters_ord:∀args w,(callFunc 122 args).run Tryz.prog w= .ok (.enter 122 args) w:=enters_of Tryz.func122 (by kernel_rfl) rfl
theorem sort_calls (w:World) (g c:Nat) (xs:List Int) (h:Ints w (some ⟨g,0,none⟩) c xs) (hl:xs.length≤17592186044416):
  Calls Tryz.prog 121 #[.slice (some ⟨g,0,none⟩) xs.length c, .func (.func 122) #[] #[]] w fun e w'=>e= .returned (.tuple #[])∧Ints w' (some ⟨g,0,none⟩) c (msort xs)∧Fr [g] w w':=by
 have hlt:g<w.heap.size:=(World.ownsRow.lt h g rfl).2
 have hH:Holds (Value.int .i64) w g 0 xs.toArray:=fun j hj=>by
  have hj':j<xs.length:=by simpa using hj
  rw [Nat.zero_add]
  refine ⟨?_,h.frozen j⟩
  rw [h.cell hj']
  simp [hj']
 have hcon:=Any.slices_SortFunc_total sortL (Value.int .i64) (fun _=>rfl) ordF swoO 122 #[] g 0 c xs.toArray w enters_ord (cmpLays g 0 xs.toArray.size w) hH hlt (by simp;omega) ord_total
 change Calls Tryz.prog 121 _ _ _ at hcon
 have hsz:xs.toArray.size=xs.length:=by simp
 rw [hsz] at hcon
 refine hcon.mono ?_
 rintro e w' ⟨rfl,n,os,rfl⟩
 have hm:(xs.toArray.toList.mergeSort fun x y=> !(ltOf ordF) y x)=msort xs:=rfl
 rw [hm]
 have hdl:(msort xs).length=xs.length:=List.length_mergeSort _
 refine ⟨rfl,?_,sortWorld_fr w g n _ os⟩
 rcases h.2 with ⟨h1,_⟩ |⟨g',cap,cur,hv,hb,hg,hn,hm,hsc,ht⟩
 ·cases h1
 ·simp only [Value.slice.injEq,Option.some.injEq,Addr.mk.injEq,and_true,true_and] at hv
  obtain ⟨rfl,rfl⟩:=hv
  refine ⟨by simp, .inr ⟨g,c,_,rfl,hb,sortWorld_row w g n _ os cur hg,by rw [hdl];exact hn,hm,by simp [putCells,hsc],?_⟩⟩
  apply List.ext_getElem?
  intro k
  rw [Nat.mul_one,hdl]
  have hcs:cur.size=c:=by omega
  by_cases hk:k<xs.length
  ·rw [List.getElem?_take,if_pos hk]
   have hkc:k<cur.size:=by omega
   have hkd:k<(msort xs).length:=by omega
   simp [putCells,hkc,hkd]
  ·rw [List.getElem?_take,if_neg hk,List.getElem?_eq_none (by rw [List.length_map,hdl];omega)]
theorem sort_any (w:World) (A:Option Addr) (c:Nat) (xs:List Int) (h:Ints w A c xs) (hl:xs.length≤17592186044416):
  Calls Tryz.prog 121 #[.slice A xs.length c, .func (.func 122) #[] #[]] w fun e w'=>e= .returned (.tuple #[])∧Ints w' A c (msort xs)∧Fr (blks A) w w':=by
 rcases h.form with ⟨rfl,rfl,rfl⟩ |⟨g,rfl,_⟩
 ·have hcon:=AnyF.slices_SortFunc_none { sortL with } none 0 (.func (.func 122) #[] #[]) w
  change Calls Tryz.prog 121 _ _ _ at hcon
  refine hcon.mono ?_
  rintro e w' ⟨rfl,rfl⟩
  refine ⟨rfl,?_,Fr.refl _ _⟩
  have :msort []=[]:=List.eq_nil_of_length_eq_zero (List.length_mergeSort _)
  rw [this]
  exact h
 ·exact (sort_calls w g c xs h hl).mono fun e w' ⟨he,h1,h2⟩=>⟨he,h1,by simpa [blks] using h2⟩
theorem ddpN_len (xs:List Int):∀k,(ddpN xs k).length≤k
 |0=>by simp [ddpN]
 |k+1=>by
  have :=ddpN_len xs k
  rw [ddpN]
  split
  ·simp;omega
  ·omega
def nrm (xs:List Int):List Int:=ddp (msort (xs.filter fun x=> !(x==0)))
theorem nrm_len (xs:List Int):(nrm xs).length≤xs.length:=by
 have h1:(nrm xs).length≤(msort (xs.filter fun x=> !(x==0))).length:=ddpN_len _ _
 have h2:(msort (xs.filter fun x=> !(x==0))).length=(xs.filter fun x=> !(x==0)).length:=List.length_mergeSort _
 have h3:=List.length_filter_le (fun x=> !(x==0)) xs
 omega
theorem ddpN_mem (xs:List Int):∀k,k≤xs.length→∀x∈ddpN xs k,x∈xs
 |0,_,x,h=>by simp [ddpN] at h
 |k+1,hk,x,h=>by
  rw [ddpN] at h
  split at h
  ·rcases List.mem_append.1 h with h |h
   ·exact ddpN_mem xs k (by omega) x h
   ·rw [List.mem_singleton.1 h]
    exact mem_get (l:=xs) (k:=k) (by omega)
  ·exact ddpN_mem xs k (by omega) x h
theorem nrm_mem {xs:List Int} {x:Int} (h:x∈nrm xs):x∈xs∧x≠0:=by
 have h1:=ddpN_mem _ _ (Nat.le_refl _) x h
 have h2:x∈xs.filter fun x=> !(x==0):=List.mem_mergeSort.1 h1
 rw [List.mem_filter] at h2
 exact ⟨h2.1,by simpa using h2.2⟩
def tautAt (ys:List Int) (j:Nat):Bool:=ys[j]! ==wrap64 (-(ys[j+1]!))
def tautB (ys:List Int):Bool:=(List.range (ys.length-1)).any (tautAt ys)
def NmPCi (xs:List Int) (w:World) (e:Ending) (w':World):Prop:=∃(A:Option Addr) (c:Nat),e= .returned (.tuple #[.slice A (nrm xs).length c, .bool (tautB (nrm xs))])∧Ints w' A c (nrm xs)∧(∀k,k∈blks A→w.heap.size≤k)∧Fr [] w w'
theorem norm1_calls (W:World) (x:Int):Calls Tryz.prog 120 #[.int .i64 x] W fun e w'=>e= .returned (.bool (x==0))∧Fr [] W w':=by
 go_enter Tryz.func120,Tryz.ntmps120
 go_wp2_with fail
 go_ret
 exact ⟨rfl,Fr.refl _ _⟩
theorem enters_norm1:∀args w,(callFunc 120 args).run Tryz.prog w= .ok (.enter 120 args) w:=enters_of Tryz.func120 (by kernel_rfl) rfl
theorem norm_calls (w:World) (A:Option Addr) (c:Nat) (xs:List Int) (h:Rd w A xs) (hr:Ra xs) (hl:xs.length≤1048576) (hn:A=none→c=0):
  Calls Tryz.prog 82 #[.slice A xs.length c] w (NmPCi xs w):=by
 have HCL:=Lib.hid (clone_rd w A c xs h hn (by omega))
 have HR:=Lib.hid hr
 clear h hr hn
 go_enter Tryz.func82,Tryz.ntmps82
 go_wp2_with fail
 refine HCL.out.mono ?_
 rintro e w1 ⟨A1,c1,rfl,ho,hb,hf1⟩
 have HD1:=Lib.hid (delete_any w1 A1 c1 xs 120 #[] (fun x=>x==0) enters_norm1 ho HR.out (by omega) (fun W hW x _ _=>norm1_calls W x))
 have HB:=Lib.hid hb
 have HF1:=Lib.hid hf1
 clear ho hb hf1 HCL
 go_wp2_with fail
 refine HD1.out.mono ?_
 rintro e w2 ⟨rfl,ho,hf⟩
 have hfl:=List.length_filter_le (fun x:Int=> !(x==0)) xs
 have HS:=Lib.hid (sort_any w2 A1 c1 (xs.filter fun x=> !(x==0)) ho (by omega))
 have HF2:Hid (Fr [] w w2):=HF1.out.trans hf (fun x hx=> .inr (HB.out x hx))
 have hml:(msort (xs.filter fun x=> !(x==0))).length=(xs.filter fun x=> !(x==0)).length:=List.length_mergeSort _
 have HML:=Lib.hid hml
 clear HD1 HF1 hf ho hml
 go_wp2_with fail
 refine HS.out.mono ?_
 rintro e w3 ⟨rfl,ho,hf⟩
 have hra3:Ra (msort (xs.filter fun x=> !(x==0))):=Ra.sub HR.out (fun y hy=>(List.mem_filter.1 (List.mem_mergeSort.1 hy)).1)
 have HC:=Lib.hid (compact_any w3 A1 c1 (msort (xs.filter fun x=> !(x==0))) ho hra3 (by rw [HML.out];omega))
 rw [HML.out] at HC
 have HF3:Hid (Fr [] w w3):=HF2.out.trans hf (fun x hx=> .inr (HB.out x hx))
 clear HS HF2 hf ho hra3 hfl
 go_wp2_with fail
 refine HC.out.mono ?_
 rintro e w4 ⟨rfl,ho,hf⟩
 have HF4:Hid (Fr [] w w4):=HF3.out.trans hf (fun x hx=> .inr (HB.out x hx))
 obtain ⟨ys,hys⟩:∃ys,ddp (msort (xs.filter fun x=> !(x==0)))=ys:=⟨_,rfl⟩
 have hyn:nrm xs=ys:=hys
 have hyl:ys.length≤xs.length:=by rw [←hyn];exact nrm_len xs
 have HRY:Hid (Ra ys):=Ra.sub HR.out (fun y hy=>(nrm_mem (by rw [hyn];exact hy)).1)
 rw [hys] at ho⊢
 have HO:=Lib.hid ho
 have YES:Hid (∀q W,Fr [] w4 W→tautB ys=q→NmPCi xs w (.returned (.tuple #[.slice A1 ys.length c1, .bool q])) W):=fun q W hW hq=>by
  unfold NmPCi
  rw [hyn]
  exact ⟨A1,c1,by rw [hq],HO.out.keep' hW,HB.out,HF4.out.then_ hW⟩
 clear HC HF3 hf ho hys hyn
 go_wp2_with fail
 go_loopg [16] ys.length (fun g i wr=>∃k:Nat,k+g=ys.length∧i= .int .i64 k∧Hid (∀j:Nat,j+1<k→tautAt ys j=false)∧Fr [] w4 wr)
 case atStart=>exact ⟨0,by omega,rfl,fun j hj=>absurd hj (Nat.not_lt_zero _),Fr.refl _ _⟩
 case round=>
  obtain ⟨k,hk,rfl,HNO,hf⟩:=hrel
  have HK:=Lib.hid hk
  have HF:=Lib.hid hf
  have hkn:k≤ys.length:=by omega
  clear hk hf
  by_cases hlt:k<ys.length
  ·obtain ⟨b,o,x,hA,he,cx,hx1,hx2⟩:=(HO.out.keep' HF.out).rd.one HRY.out hlt
   subst hA
   cases k with
   |zero=>
    rw [Nat.add_zero] at cx
    go_wp2_with fail
    go_roundg (gk-1)
    case measure=>have :=HK.out;omega
    case rel=>exact ⟨1,by have :=HK.out;omega,by go_num,fun j hj=>absurd hj (by omega),HF.out⟩
   |succ j=>
    obtain ⟨b',o',x',hA',he',cx',hx1',hx2'⟩:=(HO.out.keep' HF.out).rd.one HRY.out (j:=j) (by omega)
    simp only [Option.some.injEq,Addr.mk.injEq,and_true] at hA'
    obtain ⟨rfl,rfl⟩:=hA'
    obtain ⟨q,hq⟩:∃q:Bool,(x'==wrap64 (-x))=q:=⟨(x'==wrap64 (-x)),rfl⟩
    have hta:tautAt ys j=q:=by
     unfold tautAt
     rw [he.out,he'.out]
     exact hq
    have HTA:=Lib.hid hta
    clear hta
    cases q with
    |true=>
     have YY:=Lib.hid (YES.out true wr HF.out (by
      unfold tautB
      rw [List.any_eq_true]
      exact ⟨j,List.mem_range.2 (by omega),HTA.out⟩))
     go_wp2_with fail
     go_ret2
     exact YY.out
    |false=>
     have HNO2:Hid (∀i:Nat,i+1<j+1+1→tautAt ys i=false):=fun i hi=>by
      by_cases e:i=j
      ·rw [e];exact HTA.out
      ·exact HNO.out i (by omega)
     go_wp2_with fail
     go_roundg (gk-1)
     case measure=>have :=HK.out;omega
     case rel=>exact ⟨j+1+1,by have :=HK.out;omega,by go_num,HNO2.out,HF.out⟩
  ·have YY:=Lib.hid (YES.out false wr HF.out (by
    unfold tautB
    rw [List.any_eq_false]
    intro j hj
    rw [List.mem_range] at hj
    rw [HNO.out j (by omega)]
    simp))
   clear HK
   go_wp2_with fail
   go_ret2
   exact YY.out
end Go.Proofs.YtjmmpfjcpdepjaaGreatDoor
namespace Go.Proofs.YtjmmpfjcpdepjaaGreatDoor
open Go.RowKit
namespace Sv
def addTo (S:Sv) (out:List Int):Sv:=if out.length=0 then { S with bad:=true } else if out.length=1 then S.put out[0]! 0 else S.attach out false
def leftOf (S:Sv) (out:List Int):List Int:=out.filter fun x=> !decide (S.val x<0)
def skipB (S:Sv) (out:List Int):Bool:=tautB out ||out.any fun x=>decide (0<S.val x)
def addF (S:Sv) (l:List Int):Sv×Int:=
 if chkF S.vars l=0 then (if S.skipB (nrm l)=true then S.fresh0 else S.fresh0.addTo (S.leftOf (nrm l)),0) else (S,chkF S.vars l)
theorem chk_rng {vars:Nat} {l:List Int} (hr:Ra l) (h:chkF vars l=0):l.length≤1024∧∀x∈l,x≠0∧ -(vars:Int)≤x∧x≤vars:=by
 unfold chkF at h
 split at h
 ·omega
 ·split at h
  ·omega
  ·rename_i h1 h2
   refine ⟨by omega,fun x hx=> ?_⟩
   have h3:offB vars x=false:=by
    rw [List.any_eq_true] at h2
    cases h4:offB vars x with
    |false=>rfl
    |true=>exact absurd ⟨x,hx,h4⟩ h2
   unfold offB at h3
   simp only [Bool.or_eq_false_iff,decide_eq_false_iff_not] at h3
   have h5:=tv_rng ((mem_idx (p:=R64)).1 hr x hx)
   refine ⟨tv_pos (by omega),by omega,by omega⟩
theorem Ok.addTo {S:Sv} (ok:S.Ok 0) {out:List Int} (h1:out.length≤1048576) (hl:∀x∈out,x≠0∧ -(S.vars:Int)≤x∧x≤S.vars) (hr:S.list.length<2199023255552):(S.addTo out).Ok 0∧(S.addTo out).vars=S.vars:=by
 unfold Sv.addTo
 split
 ·exact ⟨ok.setbad true,rfl⟩
 ·split
  ·exact ⟨ok.put ⟨by omega,by omega⟩,rfl⟩
  ·exact ⟨ok.attach ⟨by omega,h1,hl⟩ false hr,(attach_same _ out false).2.1⟩
theorem left_rng {S:Sv} {l:List Int} (hr:Ra l) (h:chkF S.vars l=0):(S.leftOf (nrm l)).length≤1024∧∀x∈S.leftOf (nrm l),x≠0∧ -(S.vars:Int)≤x∧x≤S.vars:=by
 obtain ⟨h1,h2⟩:=chk_rng hr h
 have h3:=nrm_len l
 have h4:=List.length_filter_le (fun x=> !decide (S.val x<0)) (nrm l)
 refine ⟨by unfold leftOf;omega,fun x hx=> ?_⟩
 unfold leftOf at hx
 exact h2 x (nrm_mem (List.mem_filter.1 hx).1).1
theorem Ok.addF {S:Sv} (ok:S.Ok 0) {l:List Int} (hra:Ra l) (hr:S.list.length<2199023255552):(S.addF l).1.Ok 0∧(S.addF l).1.vars=S.vars:=by
 unfold Sv.addF
 split
 ·rename_i h
  split
  ·exact ⟨ok.fresh0,rfl⟩
  ·obtain ⟨h1,h2⟩:=left_rng (S:=S) hra h
   exact Ok.addTo (S:=S.fresh0) ok.fresh0 (by omega) h2 hr
 ·exact ⟨ok,rfl⟩
end Sv
theorem add1_calls (W:World) (b:Nat) (L:SvL) (S:Sv) (h:SvAt W L S) (ok:S.Ok 0) (hb:W.cell? ⟨b,0,none⟩=some (.pointer (some ⟨L.a,0,none⟩))) (x:Int) (hx:R64 x):
  Calls Tryz.prog 83 #[.int .i64 x, .pointer (some ⟨b,0,none⟩)] W fun e w'=>e= .returned (.bool (decide (0<S.val x)))∧Fr [] W w':=by
 have c0:=h.cells.1
 have KV:=Lib.hid (trail_value W L.tL S.T h.tr x hx.1 hx.2 ok.small)
 obtain ⟨v,hv⟩:∃v,S.T.valF x=v:=⟨_,rfl⟩
 rw [hv] at KV
 have e:decide (0<S.val x)=decide (0<v):=by unfold Sv.val;rw [hv]
 rw [e]
 clear h ok hv e
 go_enter Tryz.func83,Tryz.ntmps83
 go_wp2_with fail
 refine KV.out.mono ?_
 rintro e w1 ⟨rfl,rfl⟩
 go_wp2_with fail
 go_ret
 exact ⟨rfl,Fr.refl _ _⟩
theorem add2_calls (W:World) (b:Nat) (L:SvL) (S:Sv) (h:SvAt W L S) (ok:S.Ok 0) (hb:W.cell? ⟨b,0,none⟩=some (.pointer (some ⟨L.a,0,none⟩))) (x:Int) (hx:R64 x):
  Calls Tryz.prog 86 #[.int .i64 x, .pointer (some ⟨b,0,none⟩)] W fun e w'=>e= .returned (.bool (decide (S.val x<0)))∧Fr [] W w':=by
 have c0:=h.cells.1
 have KV:=Lib.hid (trail_value W L.tL S.T h.tr x hx.1 hx.2 ok.small)
 obtain ⟨v,hv⟩:∃v,S.T.valF x=v:=⟨_,rfl⟩
 rw [hv] at KV
 have e:decide (S.val x<0)=decide (v<0):=by unfold Sv.val;rw [hv]
 rw [e]
 clear h ok hv e
 go_enter Tryz.func86,Tryz.ntmps86
 go_wp2_with fail
 refine KV.out.mono ?_
 rintro e w1 ⟨rfl,rfl⟩
 go_wp2_with fail
 go_ret
 exact ⟨rfl,Fr.refl _ _⟩
theorem enters_add1:∀args w,(callFunc 83 args).run Tryz.prog w= .ok (.enter 83 args) w:=enters_of Tryz.func83 (by kernel_rfl) rfl
theorem enters_add2:∀args w,(callFunc 86 args).run Tryz.prog w= .ok (.enter 86 args) w:=enters_of Tryz.func86 (by kernel_rfl) rfl
set_option maxRecDepth 100000 in
theorem add_calls (w:World) (L:SvL) (S:Sv) (h:SvAt w L S) (ok:S.Ok 0) (A:Option Addr) (c:Nat) (l:List Int) (hrd:Rdx w L A l) (hra:Ra l) (hn:A=none→c=0) (hr:S.list.length<2199023255552) (hu:S.used≤2199023255552):
  Calls Tryz.prog 41 #[.pointer (some ⟨L.a,0,none⟩), .slice A l.length c] w (SvP (.int .i64 (S.addF l).2) (S.addF l).1 L w):=by
 obtain ⟨RES,hRES⟩:∃RES,S.addF l=RES:=⟨_,rfl⟩
 rw [hRES]
 have HRES:=Lib.hid hRES
 obtain ⟨w1,hw1⟩:∃w1,w.alloc (.cells #[.pointer (some ⟨L.a,0,none⟩)] 79)=w1:=⟨_,rfl⟩
 have HFB:Hid (Fr [] w w1):=by rw [←hw1];exact box_fr' _ _
 have hcb:w1.cell? ⟨w.heap.size,0,none⟩=some (.pointer (some ⟨L.a,0,none⟩)):=by rw [←hw1];exact (At.new w _ _).cell 0
 have HCB:=Lib.hid hcb
 obtain ⟨L1,hL1⟩:∃L1,L.shut w=L1:=⟨_,rfl⟩
 have H1:Hid (SvAt w1 L1 S):=by rw [←hL1];exact h.shut.keep HFB.out
 have HE1:Hid (L.ext L1 w):=by rw [←hL1];exact L.seal_ext w
 have HNEW:Hid (∀k,w.heap.size≤k→(L1.lab k).1≠L1.id):=fun k hk=>by rw [←hL1];exact SvL.seal_new hk
 have HF1:Hid (Fr (L.own w) w w1):=HFB.out.mono (fun k hk=>by cases hk)
 have HR1:Hid (Rdx w1 L1 A l):=⟨hrd.1.keep HFB.out,fun h0=>far_ext HE1.out (hrd.2 h0) (fun k hk=>hrd.1.blk h0 k hk)⟩
 have HOK:=Lib.hid ok
 have HRA:=Lib.hid hra
 have HN:=Lib.hid hn
 have HLR:=Lib.hid hr
 have HU:=Lib.hid hu
 have KM:=Lib.hid (made_calls w1 L1 S H1.out)
 have KC:=Lib.hid (check_callsCi w1 (S.vars:Int) A c l HR1.out.1 hra)
 have hea:L1.a=L.a:=HE1.out.1
 rw [hea] at KM
 obtain ⟨-,-,c2,-⟩:=H1.out.cells
 rw [hea] at c2
 obtain ⟨ck,hck⟩:∃ck,chkF (S.vars:Int) l=ck:=⟨_,rfl⟩
 rw [hck] at KC
 have HCK:=Lib.hid hck
 clear h ok hrd hra hn hr hu hL1 hRES hck
 go_enter Tryz.func41,Tryz.ntmps41
 go_upto_region 1 with fail
 clear hw1
 go_wp2_with fail
 refine KM.out.mono ?_
 clear KM
 rintro e w2 ⟨rfl,rfl⟩
 go_wp2_with fail
 refine KC.out.mono ?_
 clear KC c2
 rintro e w2 ⟨rfl,hf2⟩
 have HF2:=Lib.hid hf2
 have H2:=Lib.hid (H1.out.keep hf2)
 have HR2:=Lib.hid (HR1.out.keep hf2)
 have hcb:=hf2.cellS HCB.out
 have HCB2:=Lib.hid hcb
 have HFW2:Hid (Fr (L.own w) w w2):=HF1.out.then_ (hf2.mono (fun k hk=>by cases hk))
 clear hf2
 by_cases hk0:ck=0
 ·have hd:(ck==(0:Int))=true:=by simp [hk0]
  have hck2:chkF (S.vars:Int) l=0:=by rw [HCK.out];exact hk0
  have HRNG:=Lib.hid (Sv.chk_rng HRA.out hck2)
  have HLF:=Lib.hid (Sv.left_rng (S:=S) HRA.out hck2)
  have HRS:Hid (RES=(if S.skipB (nrm l)=true then S.fresh0 else S.fresh0.addTo (S.leftOf (nrm l)),0)):=by
   rw [←HRES.out]
   unfold Sv.addF
   rw [if_pos hck2]
   rfl
  have f14:=H2.out.obj.frozen 14
  have f7:=H2.out.obj.frozen 7
  obtain ⟨-,-,-,-,-,-,-,c7,-,-,-,-,-,-,c14⟩:=H2.out.cells
  rw [hea] at f14 f7 c7 c14
  obtain ⟨L3,h3,he3,hf3⟩:=H2.out.fresh0
  rw [hea] at h3 hf3
  have HH3:=Lib.hid h3
  have HEE3:=Lib.hid he3
  have HFF3:=Lib.hid hf3
  clear h3 he3 hf3 hck2
  go_wp2_with fail
  go_region
  obtain ⟨w3,hw3⟩:∃w3,((w2.setCell ⟨L.a,14,none⟩ (.bool false)).setCell ⟨L.a,7,none⟩ (.slice none 0 0)).drew=w3:=⟨_,rfl⟩
  rw [hw3] at HH3 HFF3⊢
  have H3:=HH3
  have HE3:Hid (L.ext L3 w):=SvL.ext_trans HE1.out HEE3.out HFW2.out.size
  have HF3:Hid (Fr (L.own w) w w3):=SvL.own_then HE1.out HFW2.out HFF3.out
  have HR3:Hid (Rdx w3 L3 A l):=HR2.out.step HEE3.out HFF3.out
  have HNB:Hid (w.heap.size∉L1.own w2):=SvL.not_own (HNEW.out _ (Nat.le_refl _))
  have hcb3:=HFF3.out.cellN HNB.out HCB2.out
  have HCB3:=Lib.hid hcb3
  have HNEW3:Hid (∀k,w.heap.size≤k→k<w2.heap.size→(L3.lab k).1≠L3.id):=fun k hk hk2 e=>HNEW.out k hk (HEE3.out.2.2 k hk2 (e.trans HEE3.out.2.1))
  have HO3:=Lib.hid HOK.out.fresh0
  have hsz2:w.heap.size<w2.heap.size:=lt_of_cell HCB2.out
  have HSZ2:=Lib.hid hsz2
  --from here on what is new is nobody's
  obtain ⟨L4,hL4⟩:∃L4,L3.shut w3=L4:=⟨_,rfl⟩
  have H4:Hid (SvAt w3 L4 S.fresh0):=by rw [←hL4];exact H3.out.shut
  have HE4:Hid (L.ext L4 w):=by rw [←hL4];exact SvL.ext_trans HE3.out (L3.seal_ext w3) HF3.out.size
  have HNEW4:Hid (∀k,w3.heap.size≤k→(L4.lab k).1≠L4.id):=fun k hk=>by rw [←hL4];exact SvL.seal_new hk
  have HNB4:Hid ((L4.lab w.heap.size).1≠L4.id):=by
   show _≠_
   rw [←hL4,SvL.seal_old (lt_of_cell HCB3.out)]
   exact HNEW3.out _ (Nat.le_refl _) HSZ2.out
  have KN:=Lib.hid (norm_calls w3 A c l HR3.out.1 HRA.out (by have :=HRNG.out.1;omega) HN.out)
  have hl4:L4.a=L.a:=HE4.out.1
  clear hw3 hcb c7 c14 f7 f14 HH3 HFF3 hL4 hsz2 H2 HR2 HCB2 HFW2 HNB hcb3
  go_wp2_with fail
  refine KN.out.mono ?_
  clear KN
  rintro e w4 ⟨A4,c4,rfl,hi4,hA4,hf4⟩
  obtain ⟨out,hout⟩:∃out,nrm l=out:=⟨_,rfl⟩
  rw [hout] at hi4
  rw [hout]
  have HOUT:=Lib.hid hout
  have HRO:Hid (Ra out):=Ra.sub HRA.out (fun y hy=>(nrm_mem (by rw [HOUT.out];exact hy)).1)
  have HOL:Hid (out.length≤1024):=by
   have h5:=nrm_len l
   rw [HOUT.out] at h5
   have :=HRNG.out.1
   show _≤_
   omega
  have HI4:=Lib.hid hi4
  have HA4:=Lib.hid hA4
  have HF4:=Lib.hid hf4
  have H5:=Lib.hid (H4.out.keep hf4)
  have HCB4:=Lib.hid (hf4.cellS HCB3.out)
  have HFW4:Hid (Fr (L.own w) w w4):=HF3.out.then_ (hf4.mono (fun k hk=>by cases hk))
  obtain ⟨tb,htb⟩:∃tb,tautB out=tb:=⟨_,rfl⟩
  rw [htb]
  have HTB:=Lib.hid htb
  have hrs:=HRS.out
  unfold Sv.skipB at hrs
  rw [HOUT.out,htb] at hrs
  have KCO:=Lib.hid (contains_ints w4 A4 c4 out 83 #[.pointer (some ⟨w.heap.size,0,none⟩)] (fun x=>decide (0<S.val x)) enters_add1 hi4.rd HRO.out (by have :=HOL.out;omega) (fun W hW x _ hx=>add1_calls W w.heap.size L4 S.fresh0 (H5.out.keep hW) HO3.out (by rw [hl4];exact hW.cellS HCB4.out) x hx))
  clear hi4 hA4 hf4 hout htb
  cases tb with
  |true=>
   rw [Bool.true_or,if_pos rfl] at hrs
   have FF:Hid (SvP (.int .i64 RES.2) RES.1 L w (.returned (.int .i64 0)) w4):=by rw [hrs];exact ⟨rfl,L4,H5.out,HE4.out,HFW4.out⟩
   clear hrs KCO
   go_wp2_with fail
   go_ret
   exact FF.out
  |false=>
   rw [Bool.false_or] at hrs
   obtain ⟨p,hp⟩:∃p,(out.any fun x=>decide (0<S.val x))=p:=⟨_,rfl⟩
   rw [hp] at KCO hrs
   have HRP:=Lib.hid hrs
   clear hp hrs
   go_wp2_with fail
   refine KCO.out.mono ?_
   clear KCO
   rintro e w5 ⟨rfl,hf5⟩
   have H6:=Lib.hid (H5.out.keep hf5)
   have HI6:=Lib.hid (HI4.out.keep' hf5)
   have HCB6:=Lib.hid (hf5.cellS HCB4.out)
   have HFW6:Hid (Fr (L.own w) w w5):=HFW4.out.then_ (hf5.mono (fun k hk=>by cases hk))
   have HSZ6:Hid (w3.heap.size≤w5.heap.size):=Nat.le_trans HF4.out.size hf5.size
   clear hf5
   cases p with
   |true=>
    have hrs:=HRP.out
    rw [if_pos rfl] at hrs
    have FF:Hid (SvP (.int .i64 RES.2) RES.1 L w (.returned (.int .i64 0)) w5):=by rw [hrs];exact ⟨rfl,L4,H6.out,HE4.out,HFW6.out⟩
    clear hrs
    go_wp2_with fail
    go_ret
    exact FF.out
   |false=>
    have hrs:=HRP.out
    rw [if_neg (by simp)] at hrs
    have HRP2:=Lib.hid hrs
    clear hrs HRP
    have HBA:Hid (w.heap.size∉blks A4):=fun hm=>by
     have h5:=HA4.out _ hm
     have h6:w.heap.size<w3.heap.size:=lt_of_cell HCB3.out
     omega
    have HFAR4:Hid (∀k,k∈blks A4→(L4.lab k).1≠L4.id):=fun k hk=>HNEW4.out k (HA4.out k hk)
    have KDE:=Lib.hid (delete_any w5 A4 c4 out 86 #[.pointer (some ⟨w.heap.size,0,none⟩)] (fun x=>decide (S.val x<0)) enters_add2 HI6.out HRO.out (by have :=HOL.out;omega) (fun W hW x _ hx=>add2_calls W w.heap.size L4 S.fresh0 (H6.out.fr hW (fun k hk _=>HFAR4.out k hk)) HO3.out (by rw [hl4];exact hW.cellN HBA.out HCB6.out) x hx))
    go_wp2_with fail
    refine KDE.out.mono ?_
    clear KDE
    rintro e w6 ⟨rfl,hi6,hf6⟩
    have hlf:S.leftOf out=out.filter fun x=> !decide (S.val x<0):=rfl
    rw [←hlf] at hi6
    rw [←hlf]
    obtain ⟨ys,hys⟩:∃ys,S.leftOf out=ys:=⟨_,rfl⟩
    have HLY:Hid (ys.length≤1024∧∀x∈ys,x≠0∧ -(S.vars:Int)≤x∧x≤S.vars):=by
     have h5:=HLF.out
     rw [HOUT.out,hys] at h5
     exact h5
    have hrs:=HRP2.out
    rw [hys] at hi6 hrs⊢
    have H7:=Lib.hid (H6.out.fr hf6 (fun k hk _=>HFAR4.out k hk))
    have HI7:=Lib.hid hi6
    have HCB7:=Lib.hid (hf6.cellN HBA.out HCB6.out)
    have HSA:Hid (∀k,k∈blks A4→w.heap.size≤k):=fun k hk=>Nat.le_trans HF3.out.size (HA4.out k hk)
    have HFW7:Hid (Fr (L.own w) w w6):=HFW6.out.trans hf6 (fun k hk=> .inr (HSA.out k hk))
    have HRS:=Lib.hid hrs
    have hcb:=HCB7.out
    clear hf6 hi6 hys hlf hrs
    by_cases hy0:ys.length=0
    ·have hd0:((ys.length:Int)==(0:Int))=true:=by simp [hy0]
     have hrs:=HRS.out
     unfold Sv.addTo at hrs
     rw [if_pos hy0] at hrs
     have f13:=H7.out.obj.frozen 13
     have c13:=H7.out.cells.2.2.2.2.2.2.2.2.2.2.2.2.2.1
     rw [hl4] at f13 c13
     obtain ⟨g8,f8⟩:=H7.out.setc 13 (.bool true) { S.fresh0 with bad:=true } (by simp [scs]) ⟨rfl,rfl,rfl,rfl,rfl,rfl,rfl⟩
     rw [hl4] at g8 f8
     have FF:Hid (SvP (.int .i64 RES.2) RES.1 L w (.returned (.int .i64 0)) (w6.setCell ⟨L.a,13,none⟩ (.bool true))):=by rw [hrs];exact ⟨rfl,L4,g8,HE4.out,SvL.own_then HE4.out HFW7.out f8⟩
     clear hrs g8 f8
     go_wp2_with fail
     go_ret
     exact FF.out
    ·have hd0:((ys.length:Int)==(0:Int))=false:=by rw [beq_eq_false_iff_ne];omega
     by_cases hy1:ys.length=1
     ·have hd1:((ys.length:Int)==(1:Int))=true:=by simp [hy1]
      have hrs:=HRS.out
      unfold Sv.addTo at hrs
      rw [if_neg hy0,if_pos hy1] at hrs
      obtain ⟨ga,hga,hgl⟩:=HI7.out.pos (i:=0) (by omega)
      subst hga
      have s1:=HI7.out.cell (i:=0) (by omega)
      have s0:=H7.out.cells.1
      rw [hl4] at s0
      obtain ⟨y,hy⟩:∃y,ys[0]! =y:=⟨_,rfl⟩
      rw [hy] at s1 hrs
      have hyb:=HLY.out.2 y (by rw [←hy];exact get_mem (l:=ys) (i:=0) (by omega))
      obtain ⟨-,hyb1,hyb2⟩:=hyb
      have HC0:=Lib.hid s0
      have HC1:=Lib.hid s1
      have KP:=Lib.hid (fun W (hW:Fr [] w6 W)=>put_calls W L4 S.fresh0 (H7.out.keep hW) 0 HO3.out y 0 hyb1 hyb2)
      have hly:0<ys.length:=by omega
      have HRS2:=Lib.hid hrs
      clear hrs hy s0 s1
      go_wp2_with fail
      go_upto_region 16 with fail
      refine wp_region_noPanic ?_
      refine wp_region_C (fun w':World=>Fr [] w6 w') 7 (by kernel_rfl) ((Fr.refl [] w6).drew) (fun hT0=> ?_)
      apply TB 7 [(0,[0,1,2,3,7]),(1,[]),(2,[]),(3,[3,7]),(4,[]),(5,[]),(6,[6,7])];kernel_rfl;rfl;· (repeat (apply TBc;rfl;rfl;(· intro w hSw;(try (have hSw:=hSw.resolve_left (List.cons_ne_nil _ _);(have sb:=hSw.cellS HCB7.out;have s0:=hSw.cellS HC0.out;have s1:=hSw.cellS HC1.out)));go_simp<;>with_reducible rfl);try simp only [Act.put,q5,q6,q7]));exact TBn
      exact hT0;intro hT0
      refine R2 7 (by kernel_rfl) (by rfl) hT0 fun K hK hSx=> ?_
      (go_simp;refine (KP.out _ hSx).mono ?_;rintro e w8 ⟨⟨x8,rfl⟩,L8,h8,he8,hf8⟩;dsimp only)
      refine hK.out _ _ (.inl rfl) (fun hT8=> ?_)
      clear hK K
      try simp only [Act.put,q5,q6,q7]
      refine wpAnyC_done (by kernel_rfl) ?_ _
      refine NoPanic.normal ?_
      clear KP
      have FF:Hid (SvP (.int .i64 RES.2) RES.1 L w (.returned (.int .i64 0)) w8):=by rw [HRS2.out];exact ⟨rfl,L8,h8,SvL.ext_trans HE4.out he8 (Nat.le_trans HFW7.out.size hSx.size),SvL.own_then HE4.out (HFW7.out.then_ (hSx.mono (fun k hk=>by cases hk))) hf8⟩
      clear h8 he8 hf8
      go_wp2_with fail
      go_ret
      exact FF.out
     ·have hd1:((ys.length:Int)==(1:Int))=false:=by rw [beq_eq_false_iff_ne];omega
      have hrs:=HRS.out
      unfold Sv.addTo at hrs
      rw [if_neg hy0,if_neg hy1] at hrs
      have HRS3:=Lib.hid hrs
      clear hrs
      have HFIT:Hid (S.fresh0.Fits ys):=⟨by omega,by have :=HLY.out.1;omega,HLY.out.2⟩
      have KAT:=Lib.hid (attach_calls w6 L4 S.fresh0 H7.out 0 HO3.out A4 c4 ys false HI7.out HFIT.out HFAR4.out HLR.out HU.out)
      rw [hl4] at KAT
      clear hy0 hy1
      go_wp2_with fail
      refine KAT.out.mono ?_
      clear KAT
      rintro e w8 ⟨rfl,L8,h8,ha8,hi8,hk8,hf8,-,-⟩
      have FF:Hid (SvP (.int .i64 RES.2) RES.1 L w (.returned (.int .i64 0)) w8):=by rw [HRS3.out];exact ⟨rfl,L8,h8,SvL.ext_in HE4.out ha8 hi8 hk8 HFW7.out.size HSA.out,SvL.own_in HE4.out HFW7.out hf8 HSA.out⟩
      clear h8 ha8 hi8 hk8 hf8
      go_wp2_with fail
      go_ret
      exact FF.out
 ·have hd:(ck==(0:Int))=false:=by simp [hk0]
  have HRS:Hid (RES=(S,ck)):=by
   rw [←HRES.out]
   unfold Sv.addF
   rw [HCK.out,if_neg hk0]
   rfl
  have FF:Hid (SvP (.int .i64 RES.2) RES.1 L w (.returned (.int .i64 ck)) w2):=by rw [HRS.out];exact ⟨rfl,L1,H2.out,HE1.out,HFW2.out⟩
  go_wp2_with fail
  go_ret
  exact FF.out
end Go.Proofs.YtjmmpfjcpdepjaaGreatDoor
namespace Go.Proofs.YtjmmpfjcpdepjaaGreatDoor
open Go.RowKit Go.Sort
def insO (x:Int):List Int→List Int
 |[]=>[x]
 |y::r=>if ltOf ordF y x=true then y::insO x r else x::y::r
def isI (xs:List Int):List Int:=xs.foldr insO []
theorem insO_perm (x:Int):∀l,(insO x l).Perm (x::l)
 |[]=>List.Perm.refl _
 |y::r=>by
  rw [insO]
  split
  ·exact ((insO_perm x r).cons y).trans (List.Perm.swap x y r)
  ·exact List.Perm.refl _
theorem isI_perm:∀xs,(isI xs).Perm xs
 |[]=>List.Perm.refl _
 |x::r=>(insO_perm x _).trans ((isI_perm r).cons x)
def leO (x y:Int):Bool:= !(ltOf ordF) y x
theorem leO_total (x y:Int):(leO x y ||leO y x)=true:=by
 unfold leO
 rw [key_lt,key_lt]
 simp only [Bool.or_eq_true,Bool.not_eq_true',Bool.or_eq_false_iff,Bool.and_eq_false_iff,decide_eq_false_iff_not]
 omega
theorem leO_trans (x y z:Int) (h1:leO x y=true) (h2:leO y z=true):leO x z=true:=by
 unfold leO at *
 rw [key_lt] at *
 simp only [Bool.not_eq_true',Bool.or_eq_false_iff,Bool.and_eq_false_iff,decide_eq_false_iff_not] at *
 omega
theorem leO_anti (x y:Int) (h1:leO x y=true) (h2:leO y x=true):x=y:=by
 unfold leO at *
 simp only [Bool.not_eq_true'] at *
 exact ord_total x y h2 h1
theorem insO_sorted (x:Int):∀l:List Int,l.Pairwise (fun a b=>leO a b=true)→(insO x l).Pairwise (fun a b=>leO a b=true)
 |[],_=>by simp [insO]
 |y::r,h=>by
  rw [insO]
  have hy:=List.pairwise_cons.1 h
  split
  ·rename_i hl
   refine List.pairwise_cons.2 ⟨fun b hb=> ?_,insO_sorted x r hy.2⟩
   rcases List.mem_cons.1 ((insO_perm x r).mem_iff.1 hb) with rfl |hb
   ·have :=leO_total y b
    unfold leO at this⊢
    rw [hl] at this
    simpa using this
   ·exact hy.1 b hb
  ·rename_i hl
   have hxy:leO x y=true:=by unfold leO;simpa using hl
   refine List.pairwise_cons.2 ⟨fun b hb=> ?_,h⟩
   rcases List.mem_cons.1 hb with rfl |hb
   ·exact hxy
   ·exact leO_trans x y b hxy (hy.1 b hb)
theorem isI_sorted:∀xs,(isI xs).Pairwise (fun a b=>leO a b=true)
 |[]=>List.Pairwise.nil
 |x::r=>insO_sorted x _ (isI_sorted r)
theorem sorted_eq:∀(a b:List Int),a.Perm b→a.Pairwise (fun a b=>leO a b=true)→b.Pairwise (fun a b=>leO a b=true)→a=b
 |[],b,h,_,_=>(List.nil_perm.1 h).symm▸rfl
 |x::a,[],h,_,_=>absurd h.length_eq (by simp)
 |x::a,y::b,h,ha,hb=>by
  have h1:=List.pairwise_cons.1 ha
  have h2:=List.pairwise_cons.1 hb
  have hxy:x=y:=by
   rcases List.mem_cons.1 (h.mem_iff.1 (List.mem_cons_self)) with e |e
   ·exact e
   ·rcases List.mem_cons.1 (h.mem_iff.2 (List.mem_cons_self)) with e2 |e2
    ·exact e2.symm
    ·exact leO_anti x y (h1.1 y e2) (h2.1 x e)
  subst hxy
  rw [sorted_eq a b (h.cons_inv) h1.2 h2.2]
theorem msort_eq (xs:List Int):msort xs=isI xs:=by
 refine sorted_eq _ _ ((List.mergeSort_perm xs _).trans (isI_perm xs).symm) ?_ (isI_sorted xs)
 exact List.pairwise_mergeSort (le:=fun x y=>leO x y) (fun a b c=>leO_trans a b c) (fun a b=>leO_total a b) xs
def nrmI (xs:List Int):List Int:=ddp (isI (xs.filter fun x=> !(x==0)))
theorem nrm_eq (xs:List Int):nrm xs=nrmI xs:=by unfold nrm nrmI;rw [msort_eq]
namespace Sv
def addI (S:Sv) (l:List Int):Sv×Int:=
 if chkF S.vars l=0 then (if S.skipB (nrmI l)=true then S.fresh0 else S.fresh0.addTo (S.leftOf (nrmI l)),0) else (S,chkF S.vars l)
theorem addI_eq (S:Sv) (l:List Int):S.addF l=S.addI l:=by unfold addF addI;rw [nrm_eq]
def smallB (S:Sv):Bool:=decide (S.list.length<2199023255552)&&decide (S.used<2199023255552)&&decide (S.bump≤1073741824)&&decide (-1152921504606846976≤S.many)&&decide (S.many≤1152921504606846976)&&decide (S.limit≤2199023255552)&&decide (S.T.levels.length≤4398046511104)&&S.core.isEmpty
theorem small_of {S:Sv} (h:S.smallB=true):S.Small:=by
 unfold smallB at h
 simp only [Bool.and_eq_true,decide_eq_true_eq,List.isEmpty_iff] at h
 obtain ⟨⟨⟨⟨⟨⟨⟨h1,h2⟩,h3⟩,h4⟩,h5⟩,h6⟩,h7⟩,h8⟩:=h
 exact ⟨h1,h2,h3,h4,h5,h6,h7,h8⟩
def afterN (budget:Int) (n:Nat) (K:Sv→Option (Sv×Int)):Option (Sv×Bool)→Option (Sv×Int)
 |none=>none
 |some (S2,false)=>some (S2,2)
 |some (S2,true)=>if budget<(n+1:Nat) then some (S2,0) else K S2
def roundN (budget:Int) (us:List Int) (K:Nat→Nat→Sv→Option (Sv×Int)):Nat→Nat→Nat→Sv→Option (Sv×Int)
 |0,_,_,_=>none
 |d+1,next,n,S=>
  if S.smallB&&decide (n<2199023255552)&&decide (next <4398046511104) then
   match S.follow with
   | (SF,some c)=>afterN budget n (K next (n+1)) (SF.used1.conflict c)
   | (SF,none)=>
    let SR:=SF.rested n next
    if (SR.limit:Int)<SR.many then none
    else
     let q:=SR.decide_ us
     if q.2=0 then roundN budget us K d (if next ≤n then n+64 else next) n q.1 else some q
  else none
def searchN (budget:Int) (us:List Int) (D:Nat):Nat→Nat→Nat→Sv→Option (Sv×Int)
 |0,_,_,_=>none
 |c+1,next,n,S=>roundN budget us (searchN budget us D c) D next n S
def solveN (budget:Int) (us:List Int) (D C:Nat) (S:Sv):Option (Sv×Int):=
 if (decide (budget<1) ||us.any (offB S.vars))=true then some (S.fresh0,0)
 else if S.bad=true then some (S.fresh0.used1,2)
 else (searchN budget us D C 64 0 S.fresh0.used1).map fun q=>(q.1.back 0,q.2)
theorem afterN_W {budget:Int} {n:Nat} {K:Sv→Option (Sv×Int)} {K':Sv→Prop} {Q:Sv→Int→Prop} {P:Sv×Int→Prop} (hK:∀S q,K S=some q→P q→K' S) (hQ:∀S r,P (S,r)→Q S r):
  ∀(o:Option (Sv×Bool)) (q:Sv×Int),afterN budget n K o=some q→P q→afterC budget n Q K' o
 |none,q,h,_=>by cases h
 |some (S2,false),q,h,hp=>by
  have :(S2,(2:Int))=q:=by simpa [afterN] using h
  exact hQ S2 2 (by rw [this];exact hp)
 |some (S2,true),q,h,hp=>by
  show if budget<(n+1:Nat) then Q S2 0 else K' S2
  have h':(if budget<(n+1:Nat) then some (S2,0) else K S2)=some q:=h
  split
  ·rename_i hb
   rw [if_pos hb] at h'
   have :(S2,(0:Int))=q:=by simpa using h'
   exact hQ S2 0 (by rw [this];exact hp)
  ·rename_i hb
   rw [if_neg hb] at h'
   exact hK S2 q h' hp
theorem roundN_W {budget:Int} {us:List Int} {K:Nat→Nat→Sv→Option (Sv×Int)} {K':Nat→Nat→Sv→Prop} {Q:Sv→Int→Prop} {P:Sv×Int→Prop} (hK:∀next n S q,K next n S=some q→P q→K' next n S) (hQ:∀S r,P (S,r)→Q S r):
  ∀(d next n:Nat) (S:Sv) (q:Sv×Int),roundN budget us K d next n S=some q→P q→roundW false budget us Q K' d next n S
 |0,_,_,_,q,h,_=>by cases h
 |d+1,next,n,S,q,h,hp=>by
  rw [roundN] at h
  split at h
  ·rename_i hc
   simp only [Bool.and_eq_true,decide_eq_true_eq] at hc
   rw [roundW]
   refine ⟨small_of hc.1.1,hc.1.2,hc.2,?_⟩
   split at h
   ·rename_i SF c hf
    rw [hf]
    exact afterN_W (fun S q=>hK next (n+1) S q) hQ _ q h hp
   ·rename_i SF hf
    rw [hf]
    simp only at h⊢
    unfold thinW
    split at h
    ·cases h
    ·rename_i ht
     rw [if_neg ht]
     split at h
     ·rename_i h0
      rw [if_pos h0]
      exact roundN_W hK hQ d _ n _ q h hp
     ·rename_i h0
      rw [if_neg h0]
      refine hQ _ _ ?_
      have :(SF.rested n next).decide_ us=q:=by simpa using h
      rw [this]
      exact hp
  ·cases h
theorem searchN_W {budget:Int} {us:List Int} {D:Nat} {Q:Sv→Int→Prop} {P:Sv×Int→Prop} (hQ:∀S r,P (S,r)→Q S r):
  ∀(c next n:Nat) (S:Sv) (q:Sv×Int),searchN budget us D c next n S=some q→P q→searchW false budget us Q D c next n S
 |0,_,_,_,q,h,_=>by cases h
 |c+1,next,n,S,q,h,hp=>roundN_W (fun next n S q=>searchN_W hQ c next n S q) hQ D next n S q h hp
theorem solveN_W {budget:Int} {us:List Int} {D C:Nat} {S:Sv} {q:Sv×Int} (h:solveN budget us D C S=some q):solveW false budget us D C (fun S' r=>(S',r)=q) S:=by
 unfold solveN at h
 unfold solveW
 split at h
 ·rename_i h1
  rw [if_pos h1]
  simpa using h
 ·rename_i h1
  rw [if_neg h1]
  split at h
  ·rename_i h2
   rw [if_pos h2]
   simpa using h
  ·rename_i h2
   rw [if_neg h2]
   rw [Option.map_eq_some_iff] at h
   obtain ⟨q1,h3,h4⟩:=h
   exact searchN_W (P:=fun x=>x=q1) (fun S r e=>by rw [←h4,←e]) C 64 0 _ q1 h3 rfl
end Sv
structure Own (w0 w:World) (L:SvL) (S:Sv):Prop where
 sv:SvAt w L S
 nw:∀k,k<w0.heap.size→(L.lab k).1≠L.id
 fr:Fr [] w0 w
theorem Own.keep {w0 w w':World} {L:SvL} {S:Sv} (h:Own w0 w L S) (hf:Fr [] w w'):Own w0 w' L S:=⟨h.sv.keep hf,h.nw,h.fr.then_ hf⟩
theorem Own.shut {w0 w:World} {L:SvL} {S:Sv} (h:Own w0 w L S):Own w0 w (L.shut w) S:=
 ⟨h.sv.shut,fun k hk=>by
  simp only [SvL.shut]
  rw [if_pos (Nat.lt_of_lt_of_le hk h.fr.size)]
  exact h.nw k hk,h.fr⟩
theorem Own.next {w0 w w':World} {L L':SvL} {S S':Sv} (h:Own w0 w L S) (h':SvAt w' L' S') (he:L.ext L' w) (hf:Fr (L.own w) w w'):Own w0 w' L' S':=
 ⟨h',fun k hk e=>h.nw k hk (he.2.2 k (Nat.lt_of_lt_of_le hk h.fr.size) (e.trans he.2.1)),h.fr.trans hf (fun k hk=>by
  rcases Nat.lt_or_ge k w0.heap.size with h1 |h1
  ·exact absurd (SvL.mem_own.1 hk).2 (h.nw k h1)
  ·exact .inr h1)⟩
theorem own_new (w:World) (vars:Int) (h0: -9223372036854775808≤vars) (h1:vars≤9223372036854775807):
  Calls Tryz.prog 39 #[.int .i64 vars] w fun e w'=>∃L:SvL,e= .returned (.pointer (some ⟨L.a,0,none⟩))∧Own w w' L (Sv.new vars):=
 (new_calls w vars h0 h1).mono fun e w' ⟨L,he,h2,h3,h4⟩=>⟨L,he,h2,h3,h4⟩
theorem Sv.Ok.new (vars:Int):(Sv.new vars).Ok 0∧(Sv.new vars).vars=(min (max vars 0) 262143).toNat:=by
 refine ⟨Sv.Ok.grow Sv.Ok.bare _ (by show 0+_≤262143;omega),?_⟩
 show 0+_=_
 omega
end Go.Proofs.YtjmmpfjcpdepjaaGreatDoor
namespace Go.Proofs.YtjmmpfjcpdepjaaGreatDoor
open Go.RowKit
theorem row_new (w:World) (xs:List Int) (h:xs.length≤maxLen):Ints (w.alloc (.cells (xs.map (Value.int .i64)).toArray 3)) (some ⟨w.heap.size,0,none⟩) xs.length xs:=by
 have :=World.ownsRow_lit (base:=0) (e:=3) (size:=1) w (xs.map (Value.int .i64)).toArray xs.length (Nat.zero_le _) h (by simp)
 unfold Ints
 simpa using this
namespace Sv
theorem addF_more (S:Sv) (l:List Int):(S.addF l).1.used=S.used∧(S.addF l).1.bump=S.bump∧(S.addF l).1.many=S.many∧(S.addF l).1.limit=S.limit∧(S.addF l).1.list.length≤S.list.length+1:=by
 unfold addF
 split
 ·split
  ·exact ⟨rfl,rfl,rfl,rfl,by show S.list.length≤_;omega⟩
  ·unfold addTo
   split
   ·exact ⟨rfl,rfl,rfl,rfl,by show S.list.length≤_;omega⟩
   ·split
    ·exact ⟨rfl,rfl,rfl,rfl,by show S.list.length≤_;omega⟩
    ·refine ⟨rfl,rfl,rfl,rfl,?_⟩
     have :=(attach_same S.fresh0 (S.leftOf (nrm l)) false).2.2.1
     rw [this]
     show S.list.length+1≤_
     omega
 ·exact ⟨rfl,rfl,rfl,rfl,by show S.list.length≤_;omega⟩
theorem Inv.new (vars:Int):(Sv.new vars).Inv∧(Sv.new vars).T.levels.length=0∧(Sv.new vars).many=0∧(Sv.new vars).limit=400∧(Sv.new vars).list=[]∧(Sv.new vars).used=0∧(Sv.new vars).bump=1:=by
 have ok:=(Sv.Ok.new vars).1
 have hR:(Sv.new vars).R=[]:=rfl
 have hrc:∀n,(Sv.new vars).rc n=⟨[],false,0⟩:=fun n=>rc_out (Nat.zero_le _)
 have hw:∀c,(Sv.new vars).wat c=[]:=fun c=>by
  have :(Sv.new vars).watch=List.replicate 2 []++List.replicate (2*(min (max vars 0) 262143).toNat) []:=rfl
  unfold wat
  rw [this,List.replicate_append_replicate,List.getElem!_eq_getElem?_getD,List.getElem?_replicate]
  split<;>rfl
 refine ⟨⟨ok,fun n=>by rw [hrc];exact List.nodup_nil,fun A e B h1 h2=> ?_,fun A e B h1 h2=> ?_,fun e he=> ?_,⟨fun c=>by rw [hw];exact List.nodup_nil,fun c n hn=> ?_,fun n hl=> ?_⟩,fun n hl=> ?_⟩,rfl,rfl,rfl,rfl,rfl,rfl⟩
 ·rw [hR] at h1;simp at h1
 ·rw [hR] at h1;simp at h1
 ·rw [hR] at he;simp at he
 ·rw [hw] at hn;cases hn
 ·rw [hrc] at hl;exact absurd rfl hl
 ·rw [hrc] at hl;exact absurd rfl hl
end Sv
structure Ls where
 A:Option Addr
 c:Nat
 l:List Int
instance:Inhabited Ls:=⟨⟨none,0,[]⟩⟩
def Ls.val (h:Ls):Value:= .slice h.A h.l.length h.c
def OkL (w:World) (h:Ls):Prop:=Rd w h.A h.l∧Ra h.l∧h.l.length≤17592186044416∧(h.A=none→h.l.length=0∧h.c=0)
theorem OkL.keep {w w':World} {h:Ls} (k:OkL w h) (hf:Fr [] w w'):OkL w' h:=⟨k.1.keep hf,k.2⟩
def RdL (w:World) (A:Option Addr) (hs:List Ls):Prop:=(0<hs.length→∃b o,A=some ⟨b,o,none⟩∧∀j:Nat,j<hs.length→w.cell? ⟨b,o+j,none⟩=some (hs[j]!).val)∧∀j:Nat,j<hs.length→OkL w hs[j]!
theorem RdL.keep {w w':World} {A:Option Addr} {hs:List Ls} (k:RdL w A hs) (hf:Fr [] w w'):RdL w' A hs:=by
 refine ⟨fun h0=> ?_,fun j hj=>(k.2 j hj).keep hf⟩
 obtain ⟨b,o,hA,hx⟩:=k.1 h0
 exact ⟨b,o,hA,fun j hj=>hf.cellS (hx j hj)⟩
theorem RdL.one {w:World} {A:Option Addr} {hs:List Ls} (k:RdL w A hs) {j:Nat} (hj:j<hs.length):∃b o B d l,A=some ⟨b,o,none⟩∧Hid (hs[j]! =⟨B,d,l⟩)∧w.cell? ⟨b,o+j,none⟩=some (.slice B l.length d)∧OkL w ⟨B,d,l⟩:=by
 obtain ⟨b,o,hA,hx⟩:=k.1 (by omega)
 exact ⟨b,o,_,_,_,hA,rfl,hx j hj,k.2 j hj⟩
theorem lists_drop {hs:List Ls} {k:Nat} (h:k<hs.length):(hs.map (·.l)).drop k=(hs[k]!).l::(hs.map (·.l)).drop (k+1):=by
 rw [List.drop_eq_getElem_cons (by simpa using h),List.getElem_map]
 simp only [List.getElem!_eq_getElem?_getD,List.getElem?_eq_getElem h,Option.getD_some]
theorem addF_snd2 (S:Sv) (l:List Int):(S.addF l).2=chkF S.vars l:=by
 unfold Sv.addF
 split
 ·rename_i h;exact h.symm
 ·rfl
theorem Own.old {w w1 w2:World} {L:SvL} {S:Sv} (h:Own w1 w2 L S) (hf:Fr [] w w1):Own w w2 L S:=
 ⟨h.sv,fun k hk=>h.nw k (Nat.lt_of_lt_of_le hk hf.size),hf.then_ h.fr⟩
structure OwnX (X:List Nat) (w0 w:World) (L:SvL) (S:Sv):Prop where
 own:Own w0 w L S
 fx:∀k∈X,k<w.heap.size∧(L.lab k).1≠L.id
def Stay (X:List Nat) (w w':World):Prop:=∃T,Fr T w w'∧∀k∈X,k∉T
namespace Stay
variable {X:List Nat} {w w' w2:World}
theorem of (h:Fr [] w w'):Stay X w w':=⟨[],h,fun _ _ hm=>by cases hm⟩
theorem size (h:Stay X w w'):w.heap.size≤w'.heap.size:=by obtain ⟨T,h1,_⟩:=h;exact h1.size
theorem at_ (h:Stay X w w') {g:Nat} {t:TypeId} {cs:Array Value} (hg:At w g t cs) (hx:g∈X):At w' g t cs:=by
 obtain ⟨T,h1,h2⟩:=h
 exact h1.at_ hg (h2 g hx)
theorem rd (h:Stay X w w') {A:Option Addr} {xs:List Int} (hr:Rd w A xs) (hx:∀k,k∈blks A→k∈X):Rd w' A xs:=by
 obtain ⟨T,h1,h2⟩:=h
 intro h0
 obtain ⟨b,o,rfl,h3⟩:=hr h0
 refine ⟨b,o,rfl,fun j hj=> ?_⟩
 have h4:=h3 j hj
 rw [World.cell?_of_block (h1.block b (lt_of_cell h4) (h2 b (hx b (by simp [blks]))))]
 exact h4
theorem less (h:Stay X w w') {Y:List Nat} (hY:∀k∈Y,k∈X):Stay Y w w':=by
 obtain ⟨T,h1,h2⟩:=h
 exact ⟨T,h1,fun k hk=>h2 k (hY k hk)⟩
theorem then_ (h:Stay X w w') (h':Stay X w' w2) (hX:∀k∈X,k<w.heap.size):Stay X w w2:=by
 obtain ⟨T,h1,h2⟩:=h
 obtain ⟨T',h3,h4⟩:=h'
 refine ⟨T++T',⟨h3.os.trans h1.os,h3.tape.trans h1.tape,h3.output.trans h1.output,Nat.le_trans h1.size h3.size,fun k hk hm=> ?_⟩,fun k hk hm=> ?_⟩
 ·simp only [List.mem_append,not_or] at hm
  exact (h3.block k (Nat.lt_of_lt_of_le hk h1.size) hm.2).trans (h1.block k hk hm.1)
 ·rcases List.mem_append.1 hm with h5 |h5
  ·exact h2 k hk h5
  ·exact h4 k hk h5
end Stay
def OxP (X:List Nat) (v:Value) (S':Sv) (a:Nat) (w0 w:World) (e:Ending) (w':World):Prop:=e= .returned v∧∃L',L'.a=a∧OwnX X w0 w' L' S'∧Stay X w w'
namespace OwnX
variable {X:List Nat} {w0 w w':World} {L L':SvL} {S S':Sv}
theorem next (h:OwnX X w0 w L S) (h':SvAt w' L' S') (he:L.ext L' w) (hf:Fr (L.own w) w w'):OwnX X w0 w' L' S'∧Stay X w w':=
 ⟨⟨h.own.next h' he hf,fun k hk=>⟨Nat.lt_of_lt_of_le (h.fx k hk).1 hf.size,fun e=>(h.fx k hk).2 (he.2.2 k (h.fx k hk).1 (e.trans he.2.1))⟩⟩,
  ⟨L.own w,hf,fun k hk hm=>(h.fx k hk).2 (SvL.mem_own.1 hm).2⟩⟩
theorem of {v:Value} {e:Ending} (h:OwnX X w0 w L S) (k:SvP v S' L w e w'):OxP X v S' L.a w0 w e w':=by
 obtain ⟨rfl,L',h1,h2,h3⟩:=k
 obtain ⟨h4,h5⟩:=h.next h1 h2 h3
 exact ⟨rfl,L',h2.1,h4,h5⟩
theorem more (h:OwnX X w0 w L S) (hf:Fr [] w w') {Y:List Nat} (hY:∀k∈Y,w.heap.size≤k∧k<w'.heap.size):OwnX (X++Y) w0 w' (L.shut w) S:=
 ⟨h.own.shut.keep hf,fun k hk=>by
  rcases List.mem_append.1 hk with h1 |h1
  ·exact ⟨Nat.lt_of_lt_of_le (h.fx k h1).1 hf.size,by rw [SvL.seal_old (h.fx k h1).1];exact (h.fx k h1).2⟩
  ·exact ⟨(hY k h1).2,SvL.seal_new (hY k h1).1⟩⟩
theorem less {Y:List Nat} (h:OwnX X w0 w L S) (hY:∀k∈Y,k∈X):OwnX Y w0 w L S:=⟨h.own,fun k hk=>h.fx k (hY k hk)⟩
theorem far_own (h:OwnX X w0 w L S) {A:Option Addr} {xs:List Int} (hr:Rd w A xs) (hx:∀k,k∈blks A→k∈X):Rdx w L A xs:=⟨hr,fun _ k hk=>(h.fx k (hx k hk)).2⟩
theorem add (h:OwnX X w0 w L S) (ok:S.Ok 0) (A:Option Addr) (c:Nat) (l:List Int) (hrd:Rdx w L A l) (hra:Ra l) (hn:A=none→c=0) (hr:S.list.length<2199023255552) (hu:S.used≤2199023255552):
  Calls Tryz.prog 41 #[.pointer (some ⟨L.a,0,none⟩), .slice A l.length c] w (OxP X (.int .i64 (S.addF l).2) (S.addF l).1 L.a w0 w):=
 (add_calls w L S h.own.sv ok A c l hrd hra hn hr hu).mono fun _ _ k=>h.of k
theorem solve (h:OwnX X w0 w L S) (red:Bool) (KRED:red=true→RedC) (ok:S.Ok 0) (A:Option Addr) (c:Nat) (us:List Int) (hrd:Rdx w L A us) (hra:Ra us) (hcap:us.length≤c) (hul:us.length≤1099511627776) (budget:Int) (D C:Nat) (Q:Sv→Int→Prop) (hus:S.used<4611686018427387904) (hW:S.solveW red budget us D C Q):
  Calls Tryz.prog 74 #[.pointer (some ⟨L.a,0,none⟩), .int .i64 budget, .slice A us.length c] w fun e w'=>∃(S':Sv) (r:Int),Q S' r∧S'.Ok 0∧OxP X (.int .i64 r) S' L.a w0 w e w':=
 (solve_calls red KRED w L S h.own.sv ok A c us hrd hra hcap hul budget D C Q hus hW).mono fun _ _ ⟨S',r,hq,ho,k⟩=>⟨S',r,hq,ho,h.of k⟩
end OwnX
theorem Own.mark {w0 w w':World} {L:SvL} {S:Sv} (h:Own w0 w L S) (hf:Fr [] w w') {Y:List Nat} (hY:∀k∈Y,w.heap.size≤k∧k<w'.heap.size):OwnX Y w0 w' (L.shut w) S:=
 (OwnX.mk (X:=[]) h (fun k hk=>by cases hk)).more hf hY
def AsksL (w:World) (g:Nat) (cb:Array Value) (p:List Int→Bool) (hs:List Ls):Prop:=∀W,Fr [] w W→∀h,h∈hs→OkL W h→
 Calls Tryz.prog g (#[h.val]++cb) W fun e w'=>e= .returned (.bool (p h.l))∧Fr [] W w'
theorem index_lists (w:World) (A:Option Addr) (c:Nat) (hs:List Ls) (g:Nat) (cb:Array Value) (p:List Int→Bool) (eg:∀args w,(callFunc g args).run Tryz.prog w= .ok (.enter g args) w) (h:RdL w A hs) (hl:hs.length≤17592186044416) (hp:AsksL w g cb p hs):
  Calls Tryz.prog 51 #[.slice A hs.length c, .func (.func g) #[] cb] w (IxP (hs.any fun h=>p h.l) w):=by
 have HH:=Lib.hid h
 have HP:=Lib.hid hp
 have YES:Hid (∀(n:Nat) W,n≤17592186044416→(hs.any fun h=>p h.l)=true→Fr [] w W→IxP (hs.any fun h=>p h.l) w (.returned (.int .i64 (n:Int))) W):=fun n W h1 h2 h3=>⟨n,rfl,by omega,by omega,by rw [h2];exact decide_eq_true (by omega),h3⟩
 have NO:Hid (∀W,(hs.any fun h=>p h.l)=false→Fr [] w W→IxP (hs.any fun h=>p h.l) w (.returned (.int .i64 (-1))) W):=fun W h2 h3=>⟨-1,rfl,by omega,by omega,by rw [h2];rfl,h3⟩
 clear h hp
 go_enter Tryz.func51,Tryz.ntmps51
 go_wp2_with fail
 go_loopg [8] hs.length (fun g i wr=>∃k:Nat,k+g=hs.length∧i= .int .i64 k∧Fr [] w wr∧NoneTo hs (fun h=>p h.l) k)
 case atStart=>exact ⟨0,by omega,rfl,Fr.refl _ _,NoneTo.zero _ _⟩
 case round=>
  obtain ⟨k,hk,rfl,hx,hn⟩:=hrel
  have HK:=Lib.hid hk
  have HX:=Lib.hid hx
  have HN:=Lib.hid hn
  have hkn:k≤hs.length:=by omega
  clear hk hx hn
  by_cases hlt:k<hs.length
  ·obtain ⟨b,o,B,d,l,hA,he,cx,ok⟩:=(HH.out.keep HX.out).one hlt
   subst hA
   obtain ⟨q,HQ⟩:∃q,Hid (p l=q):=⟨_,rfl⟩
   have KC:=HP.out wr HX.out ⟨B,d,l⟩ (by rw [←he.out];exact mem_get hlt) ok
   have HC:Hid (Calls Tryz.prog g (#[.slice B l.length d]++cb) wr fun e w'=>e= .returned (.bool (p l))∧Fr [] wr w'):=KC
   clear ok KC
   go_wp2_with fail
   refine HC.out.mono ?_
   rw [HQ.out]
   rintro e w2 ⟨rfl,hf⟩
   have HF:=Lib.hid (HX.out.then_ hf)
   clear hf
   cases q with
   |true=>
    go_wp2_with fail
    go_ret
    exact YES.out k _ (by omega) (any_yes _ _ k hlt (by rw [he.out];exact HQ.out)) HF.out
   |false=>
    go_wp2_with fail
    go_roundg (gk-1)
    case measure=>have :=HK.out;omega
    case rel=>exact ⟨k+1,by have :=HK.out;omega,by go_num,HF.out,HN.out.step (by rw [he.out];exact HQ.out)⟩
  ·have HT:=Lib.hid (HN.out.all hlt)
   clear HN HK
   go_wp2_with fail
   go_ret
   exact NO.out _ HT.out HX.out
theorem contains_lists (w:World) (A:Option Addr) (c:Nat) (hs:List Ls) (g:Nat) (cb:Array Value) (p:List Int→Bool) (eg:∀args w,(callFunc g args).run Tryz.prog w= .ok (.enter g args) w) (h:RdL w A hs) (hl:hs.length≤17592186044416) (hp:AsksL w g cb p hs):
  Calls Tryz.prog 24 #[.slice A hs.length c, .func (.func g) #[] cb] w fun e w'=>e= .returned (.bool (hs.any fun h=>p h.l))∧Fr [] w w':=by
 have HC:=Lib.hid (index_lists w A c hs g cb p eg h hl hp)
 clear h hp
 go_enter Tryz.func24,Tryz.ntmps24
 go_wp2_with fail
 refine HC.out.mono ?_
 rintro e w2 ⟨n,rfl,h1,h2,h3,hf⟩
 have H3:=Lib.hid h3
 have HF:=Lib.hid hf
 clear h3 hf
 go_wp2_with fail
 go_ret
 exact ⟨by rw [←H3.out];rfl,HF.out⟩
structure Qn where
 C:Pc
 am:List Ls
 ls:List Ls
 ks:List Ls
 bad:Int
 dep:Int
 bud:Int
structure Qh where
 H:Hd
 aA:Option Addr
 aC:Nat
 lA:Option Addr
 lC:Nat
 kA:Option Addr
 kC:Nat
def qvs (H:Qh) (q:Qn):Array Value:=
 #[.int .i64 q.C.mx, .slice H.H.iA q.C.ins.length H.H.iC, .slice H.H.lA q.C.lat.length H.H.lC, .slice H.H.oA q.C.outs.length H.H.oC, .slice H.H.bA q.C.bads.length H.H.bC, .slice H.H.vA q.C.invs.length H.H.vC, .slice H.H.gA q.C.ands.length H.H.gC, .slice H.H.nA q.C.nms.length H.H.nC,
  .slice H.aA q.am.length H.aC, .slice H.lA q.ls.length H.lC, .slice H.kA q.ks.length H.kC, .int .i64 q.bad, .int .i64 q.dep, .int .i64 q.bud]
def qval (H:Qh) (q:Qn):Value:= .agg (qvs H q)
structure QuAt (w:World) (H:Qh) (q:Qn):Prop where
 c:CiAt w H.H q.C
 a:RdL w H.aA q.am
 l:RdL w H.lA q.ls
 k:RdL w H.kA q.ks
 aL:q.am.length≤5864062014805
 lL:q.ls.length≤5864062014805
 kL:q.ks.length≤5864062014805
 br:R64 q.bad
 dr:R64 q.dep
 ur:R64 q.bud
theorem QuAt.keep {w w':World} {H:Qh} {q:Qn} (h:QuAt w H q) (hf:Fr [] w w'):QuAt w' H q:=⟨h.c.keep hf,h.a.keep hf,h.l.keep hf,h.k.keep hf,h.aL,h.lL,h.kL,h.br,h.dr,h.ur⟩
def strB (mx:Int) (l:List Int):Bool:=decide (1024<(l.length:Int)) || !inB mx l
theorem strange1 (W:World) (g:Nat) (mx:Int) (hc:W.cell? ⟨g,0,none⟩=some (.int .i64 mx)) (h0:0≤mx) (h1:mx≤2048) (h:Ls) (hk:OkL W h):
  Calls Tryz.prog 52 #[h.val, .pointer (some ⟨g,0,none⟩)] W fun e w'=>e= .returned (.bool (strB mx h.l))∧Fr [] W w':=by
 obtain ⟨A,c,l⟩:=h
 have KL:=Lib.hid (lcheck_calls W mx A c l h0 h1 hk.1 hk.2.1 hk.2.2.1)
 show Calls Tryz.prog 52 #[.slice A l.length c, .pointer (some ⟨g,0,none⟩)] W fun e w'=>e= .returned (.bool (strB mx l))∧Fr [] W w'
 obtain ⟨Y,hY⟩:∃Y,strB mx l=Y:=⟨_,rfl⟩
 rw [hY]
 have HY:=Lib.hid hY
 clear hk hY
 by_cases hl:1024<(l.length:Int)
 ·have d0:decide (1024<(l.length:Int))=true:=decide_eq_true hl
  have hf:Y=true:=by rw [←HY.out];unfold strB;rw [d0];rfl
  subst hf
  go_enter Tryz.func52,Tryz.ntmps52
  go_wp2_with fail
  go_ret
  exact ⟨rfl,Fr.refl _ _⟩
 ·have d0:decide (1024<(l.length:Int))=false:=decide_eq_false hl
  obtain ⟨b,hb⟩:∃b,inB mx l=b:=⟨_,rfl⟩
  rw [hb] at KL
  have hf:Y= !b:=by rw [←HY.out];unfold strB;rw [d0,hb];rfl
  subst hf
  clear hb HY hl
  cases b with
  |true=>
   go_enter Tryz.func52,Tryz.ntmps52
   go_wp2_with fail
   refine KL.out.mono ?_
   rintro e w2 ⟨rfl,hf⟩
   have HF:=Lib.hid hf
   clear hf
   simp only [lcI]
   go_wp2_with fail
   go_ret
   exact ⟨rfl,HF.out⟩
  |false=>
   go_enter Tryz.func52,Tryz.ntmps52
   go_wp2_with fail
   refine KL.out.mono ?_
   rintro e w2 ⟨rfl,hf⟩
   have HF:=Lib.hid hf
   clear hf
   simp only [lcI]
   go_wp2_with fail
   go_ret
   exact ⟨rfl,HF.out⟩
theorem enters_strange1:∀args w,(callFunc 52 args).run Tryz.prog w= .ok (.enter 52 args) w:=enters_of Tryz.func52 (by kernel_rfl) rfl
theorem strange_calls (w:World) (H:Hd) (C:Pc):
  Calls Tryz.prog 25 #[cval H C] w fun e w'=>e= .returned (.func (.func 52) #[] #[.pointer (some ⟨w.heap.size,0,none⟩)])∧w'=w.alloc (.cells (cvs H C) 27):=by
 obtain ⟨mx,ins,lat,outs,bads,invs,ands,nms⟩:=C
 obtain ⟨iA,iC,lA,lC,oA,oC,bA,bC,vA,vC,gA,gC,nA,nC⟩:=H
 simp only [cval,cvs] at *
 go_enter Tryz.func25,Tryz.ntmps25
 go_wp2_with fail
 go_ret
 exact ⟨rfl,rfl⟩
theorem strange_gets (w:World) (H:Hd) (C:Pc):
  Calls Tryz.prog 25 #[cval H C] w fun e w'=>∃g,e= .returned (.func (.func 52) #[] #[.pointer (some ⟨g,0,none⟩)])∧w'.cell? ⟨g,0,none⟩=some (.int .i64 C.mx)∧Fr [] w w':=
 (strange_calls w H C).mono fun e w' ⟨h1,h2⟩=>⟨w.heap.size,h1,by rw [h2];exact (box_at w H C).cell 0,h2▸box_fr _ _⟩
theorem infoIntsU:(Tryz.prog.info? 22).map (fun i=>(i.zero,i.size,i.bytes))=some (some (.slice none 0 0),1,24):=by kernel_rfl
theorem rows_far {w:World} {e e':TypeId} {size size' n n' c c':Nat} {A A':Option Addr} {vs vs':List Value} (h:w.ownsRow 0 e size (.slice A n c) n vs) (h':w.ownsRow 0 e' size' (.slice A' n' c') n' vs') (hne:e≠e'):∀k,k∈blks A→k∉blks A':=by
 intro k hk hk'
 rcases h.2 with ⟨h1,_⟩ |⟨g,cap,cur,hv,_,hg,_⟩
 ·simp only [Value.slice.injEq] at h1
  rw [h1.1] at hk
  simp [blks] at hk
 ·rcases h'.2 with ⟨h1,_⟩ |⟨g',cap',cur',hv',_,hg',_⟩
  ·simp only [Value.slice.injEq] at h1
   rw [h1.1] at hk'
   simp [blks] at hk'
  ·simp only [Value.slice.injEq,true_and] at hv hv'
   obtain ⟨rfl,rfl⟩:=hv
   obtain ⟨rfl,rfl⟩:=hv'
   simp [blks] at hk hk'
   subst hk hk'
   rw [hg] at hg'
   simp only [Option.some.injEq,Obj.cells.injEq] at hg'
   exact hne hg'.2.1
structure NwLs (w:World) (B:Nat) (A:Option Addr) (c:Nat) (hs:List Ls):Prop where
 row:w.ownsRow 0 22 1 (.slice A hs.length c) hs.length (hs.map Ls.val)
 new:∀k,k∈blks A→B≤k
 each:∀h∈hs,Ints w h.A h.c h.l∧Ra h.l∧h.l.length≤1048576∧∀k,k∈blks h.A→B≤k
namespace NwLs
variable {w w':World} {B:Nat} {A:Option Addr} {c:Nat} {hs:List Ls}
theorem keep (k:NwLs w B A c hs) (hf:Fr [] w w'):NwLs w' B A c hs:=⟨hf.own k.row (by simp),k.new,fun h hh=>⟨(k.each h hh).1.fr hf (fun _ _ hm=>by cases hm),(k.each h hh).2⟩⟩
theorem low {B':Nat} (k:NwLs w B A c hs) (h:B'≤B):NwLs w B' A c hs:=⟨k.row,fun j hj=>Nat.le_trans h (k.new j hj),fun x hx=>⟨(k.each x hx).1,(k.each x hx).2.1,(k.each x hx).2.2.1,fun j hj=>Nat.le_trans h ((k.each x hx).2.2.2 j hj)⟩⟩
theorem nil (w:World) (B:Nat):NwLs w B none 0 []:=⟨World.ownsRow_nil _ 0 _ 1,by simp [blks],fun h hh=>by cases hh⟩
theorem okl (k:NwLs w B A c hs):∀h∈hs,OkL w h:=fun h hh=>⟨(k.each h hh).1.rd,(k.each h hh).2.1,by have :=(k.each h hh).2.2.1;omega,fun e=>by
 rcases (k.each h hh).1.form with ⟨_,h1,h2⟩ |⟨g,h1,_⟩
 ·exact ⟨by rw [h2];rfl,h1⟩
 ·rw [e] at h1;cases h1⟩
theorem more {wa:World} {A':Option Addr} {c':Nat} {ms:List Ls} (k:NwLs w B A c hs) (hwa:Fr [] w wa) (hm:∀h∈ms,Ints wa h.A h.c h.l∧Ra h.l∧h.l.length≤1048576∧∀k,k∈blks h.A→B≤k) (hf:Fr (blks A) wa w')
  (hrow:w'.ownsRow 0 22 1 (.slice A' (hs.length+ms.length) c') (hs.length+ms.length) (hs.map Ls.val++ms.map Ls.val)) (hnew:∀k,k∈blks A'→k∈blks A∨k=wa.heap.size) (hB:B≤wa.heap.size):NwLs w' B A' c' (hs++ms):=by
 have ka:=k.keep hwa
 have far:∀x:Ls,Ints wa x.A x.c x.l→Ints w' x.A x.c x.l:=fun x hx=>hx.fr hf (fun j hj hm=>rows_far hx ka.row (by decide) j hj hm)
 refine ⟨by simpa using hrow,fun j hj=> ?_,fun x hx=> ?_⟩
 ·rcases hnew j hj with h1 |h1
  ·exact k.new j h1
  ·omega
 ·rcases List.mem_append.1 hx with h1 |h1
  ·have :=ka.each x h1
   exact ⟨far x this.1,this.2⟩
  ·have :=hm x h1
   exact ⟨far x this.1,this.2⟩
end NwLs
theorem run_append_listsU (w:World) (ty:TypeId) (A:Option Addr) (c:Nat) (hs:List Ls) (hown:w.ownsRow 0 22 1 (.slice A hs.length c) hs.length (hs.map Ls.val)) (ad:Addr) (m d:Nat) (ms:List Ls) (hm:m=ms.length)
  (hr:∀j:Nat,j<ms.length→w.cell? (ad.add j)=some (ms[j]!).val) (hlen:hs.length+ms.length≤4194304):
  ∃A' cap w',(Builtin.append_ #[28,28] ty #[.slice A hs.length c, .slice (some ad) m d]).run Tryz.prog w= .ok (.slice A' (hs.length+m) cap) w'∧w'.ownsRow 0 22 1 (.slice A' (hs.length+ms.length) cap) (hs.length+ms.length) (hs.map Ls.val++ms.map Ls.val)∧Fr (blks A) w w'∧(∀k,k∈blks A'→k∈blks A∨k=w.heap.size)∧w.heap.size≤w'.heap.size:=by
 subst hm
 obtain ⟨A',cap,w',hrun,h2,h3,h4,h5,h6,h7⟩:=run_append_row w 28 ty 22 (.slice none 0 0) 1 24 Tryz.underlying28 infoIntsU rfl (by decide) A c hs.length (hs.map Ls.val) hown ad ms.length d (ms.map Ls.val) (by simp) (fun j u hu=>by
  simp only [List.getElem?_map,Option.map_eq_some_iff] at hu
  obtain ⟨y,hy,rfl⟩:=hu
  have hj:=(List.getElem?_eq_some_iff.1 hy).1
  have :=hr j hj
  rw [List.getElem!_eq_getElem?_getD,hy] at this
  exact this) (by
   intro u hu
   obtain ⟨y,_,rfl⟩:=List.mem_map.1 hu
   rfl) (by unfold maxLen;omega) (by omega)
 exact ⟨A',cap,w',hrun,h2,h3,h4,h5⟩
theorem wpList_append_listsU (w:World) {ops:Array Oper} {rest:List Oper} {o:Oper} {a:Act} {Q:Exit→Act→World→Prop} (hgd:o.guard=none) (s x:Operand)
  (ho:o.op= .call { callee:= .builtin .append,args:=#[s,x],argTypes:=#[28,28] }) (A:Option Addr) (c:Nat) (hs:List Ls) (n:Nat) (hsv:a.eval s= .slice A n c) (hn:n=hs.length) (hown:w.ownsRow 0 22 1 (.slice A hs.length c) hs.length (hs.map Ls.val))
  (ad:Addr) (m d:Nat) (ms:List Ls) (hx:a.eval x= .slice (some ad) m d) (hm:m=ms.length) (hr:∀j:Nat,j<ms.length→w.cell? (ad.add j)=some (ms[j]!).val) (hlen:hs.length+ms.length≤4194304)
  (h:∀A' cap w',w'.ownsRow 0 22 1 (.slice A' (hs.length+ms.length) cap) (hs.length+ms.length) (hs.map Ls.val++ms.map Ls.val)→Fr (blks A) w w'→(∀k,k∈blks A'→k∈blks A∨k=w.heap.size)→w.heap.size≤w'.heap.size→wpList Tryz.prog ops Q rest (a.put o.dst (.slice A' (n+m) cap)) w'):
  wpList Tryz.prog ops Q (o::rest) a w:=by
 subst hn
 refine wpList_plain hgd fun K hK=> ?_
 obtain ⟨A',cap,w',hrun,h2,h3,h4,h5⟩:=run_append_listsU w o.type A c hs hown ad m d ms hm hr hlen
 unfold Oper.wp execOp
 simp only [ho,resolve,invoke,builtin,Sem.run_bind,Sem.run_pure,Result.andThen_ok,List.map_toArray,List.map_cons,List.map_nil,hsv,hx,hrun]
 exact hK _ _ (h A' cap w' h2 h3 h4 h5)
theorem ra1U {x:Int} (h:R64 x):Ra [x]:=fun j hj=>by
 have :j=0:=by simp at hj;omega
 subst this
 exact h
theorem laU_r64 {C:Pc} (hv:Valid C) {f n:Int} (hf:0≤f∧f≤81) (hn:n≠0∧ -(C.lat.length:Int)≤n∧n≤C.lat.length):R64 (laU C f n):=by
 have hb:=baU_rng hv.m0 hv.m1 hf
 have hm:=hv.m1
 have key:∀j:Nat,j<C.lat.length→1≤litT (baU C f) (C.lat[j]!).a∧litT (baU C f) (C.lat[j]!).a≤1000000:=fun j hj=>by
  have :=valid_lat hv j hj
  unfold litT
  rw [if_neg (by omega)]
  omega
 unfold laU R64
 split
 ·have :=key (-n-1).toNat (by omega)
  omega
 ·have :=key (n-1).toNat (by omega)
  omega
def fst1 (C:Pc) (i:Nat):List (List Int):=if (C.lat[i]!).c=0 then [[laU C 0 (-(i:Int)-1)]] else if (C.lat[i]!).c=1 then [[laU C 0 ((i:Int)+1)]] else []
def fstU (C:Pc) (k:Nat):List (List Int):=(List.range k).flatMap (fst1 C)
theorem fstU_next (C:Pc) (k:Nat):fstU C (k+1)=fstU C k++fst1 C k:=by
 unfold fstU
 rw [List.range_succ,List.flatMap_append]
 simp
theorem fstU_len (C:Pc) (k:Nat):(fstU C k).length≤k:=by
 induction k with
 |zero=>simp [fstU]
 |succ k ih=>
  rw [fstU_next,List.length_append]
  have :(fst1 C k).length≤1:=by unfold fst1;split<;>(try split)<;>simp
  omega
theorem uFirst_calls (w:World) (H:Hd) (C:Pc) (h:CiAt w H C) (hv:Valid C):
  Calls Tryz.prog 33 #[cval H C] w fun e w'=>∃A c hs,e= .returned (.slice A hs.length c)∧NwLs w' w.heap.size A c hs∧hs.map (·.l)=fstU C C.lat.length∧Fr [] w w':=by
 have HX:=Lib.hid (Cx.start w H C)
 have KR:=Lib.hid (uright_calls _ H C (h.keep HX.out.fr) hv 0 (by omega))
 have KL:=Lib.hid (fun W (hW:Fr [] w W) n hn=>ulatch_calls W H C (h.keep hW) hv 0 (by omega) n hn)
 have hl64:=hv.l
 have HH:=Lib.hid h
 have HLR:=Lib.hid h.lr
 clear h
 obtain ⟨mx,ins,lat,outs,bads,invs,ands,nms⟩:=C
 obtain ⟨iA,iC,lA,lC,oA,oC,bA,bC,vA,vC,gA,gC,nA,nC⟩:=H
 simp only [cval,cvs] at *
 obtain ⟨c0,c1,c2,c3,c4,c5,c6,c7⟩:=HX.out.cells
 simp only at c0 c1 c2 c3 c4 c5 c6 c7
 go_enter Tryz.func33,Tryz.ntmps33
 go_wp2_with fail
 refine KR.out.mono ?_
 rintro e w1 ⟨rfl,hf1⟩
 have HX1:=Lib.hid (HX.out.keep hf1)
 obtain ⟨e0,e1,e2,e3,e4,e5,e6,e7⟩:=HX1.out.cells
 simp only at e0 e1 e2 e3 e4 e5 e6 e7
 clear hf1 c0 c1 c2 c3 c4 c5 c6 c7 KR
 go_wp2_with fail
 go_loopg [3,12] lat.length (fun g x3 x12 wr=>∃(k:Nat) (A':Option Addr) (c':Nat) (hs:List Ls),k+g=lat.length∧x3= .slice A' hs.length c'∧x12= .int .i64 k∧Hid (NwLs wr (w.heap.size+1) A' c' hs)∧Hid (hs.map (·.l)=fstU ⟨mx,ins,lat,outs,bads,invs,ands,nms⟩ k)∧Hid (Cx w wr ⟨iA,iC,lA,lC,oA,oC,bA,bC,vA,vC,gA,gC,nA,nC⟩ ⟨mx,ins,lat,outs,bads,invs,ands,nms⟩))
 case atStart=>exact ⟨0,none,0,[],by omega,rfl,rfl,NwLs.nil _ _,rfl,HX1.out⟩
 case round=>
  obtain ⟨k,A',c',hs,hk,rfl,rfl,HN,HE,HXR⟩:=hrel
  have HK:=Lib.hid hk
  have hkn:k≤lat.length:=by omega
  have hsl:hs.length≤k:=by
   have :=fstU_len ⟨mx,ins,lat,outs,bads,invs,ands,nms⟩ k
   rw [←HE.out,List.length_map] at this
   exact this
  obtain ⟨d0,d1,d2,d3,d4,d5,d6,d7⟩:=HXR.out.cells
  simp only at d0 d1 d2 d3 d4 d5 d6 d7
  clear hk HX1 e0 e1 e2 e3 e4 e5 e6 e7
  by_cases hlt:k<lat.length
  ·obtain ⟨b,o,x,y,z,hA,he,cx,cy,cz,hx,hy,hz⟩:=(HH.out.keep HXR.out.fr).l.one HLR.out hlt
   simp only at hA he
   subst hA
   have HNX:=Lib.hid (fstU_next ⟨mx,ins,lat,outs,bads,invs,ands,nms⟩ k)
   have hf1:fst1 ⟨mx,ins,lat,outs,bads,invs,ands,nms⟩ k=if z=0 then [[laU ⟨mx,ins,lat,outs,bads,invs,ands,nms⟩ 0 (-(k:Int)-1)]] else if z=1 then [[laU ⟨mx,ins,lat,outs,bads,invs,ands,nms⟩ 0 ((k:Int)+1)]] else []:=by
    unfold fst1
    simp only [he.out]
   have HF1:=Lib.hid hf1
   clear hf1
   by_cases hz0:z=0
   ·have b0:(z==(0:Int))=true:=by simp [hz0]
    rw [if_pos hz0] at HF1
    clear hz0
    go_upto_region 7 with fail
    obtain ⟨wx,hwx⟩:∃W,wr.alloc (.cells #[.int .i64 x, .int .i64 y, .int .i64 z] 63)=W:=⟨_,rfl⟩
    have hxa:At wx wr.heap.size 63 #[.int .i64 x, .int .i64 y, .int .i64 z]:=hwx▸At.new _ _ _
    have HFX:Hid (Fr [] wr wx):=hwx▸box_fr' _ _
    have f2:=hxa.cell 2
    simp at f2
    have HXX:=Lib.hid (HXR.out.keep HFX.out)
    obtain ⟨e0,e1,e2,e3,e4,e5,e6,e7⟩:=HXX.out.cells
    simp only at e0 e1 e2 e3 e4 e5 e6 e7
    rw [hwx]
    clear hwx hxa d0 d1 d2 d3 d4 d5 d6 d7
    have KLN:=Lib.hid (KL.out wx HXX.out.fr (-(k:Int)-1) (by show _∧ -(lat.length:Int)≤_∧_≤(lat.length:Int);omega))
    obtain ⟨v,hv2⟩:∃v,laU ⟨mx,ins,lat,outs,bads,invs,ands,nms⟩ 0 (-(k:Int)-1)=v:=⟨_,rfl⟩
    rw [hv2] at KLN HF1
    have hvr:R64 v:=by
     rw [←hv2]
     exact laU_r64 hv (by omega) (by simp only;omega)
    have HVR:=Lib.hid hvr
    clear hv2 hvr
    have hw1:IntKind.i64.wrap (-(k:Int))= -(k:Int):=IntWalk.i64_in _ (by omega)
    have hw2:IntKind.i64.wrap (-(k:Int)-1)= -(k:Int)-1:=IntWalk.i64_in _ (by omega)
    go_wp2_with fail
    refine KLN.out.mono ?_
    clear KLN
    rintro e w3 ⟨rfl,hf3⟩
    have HF3:=Lib.hid (HFX.out.then_ hf3)
    clear hf3 e0 e1 e2 e3 e4 e5 e6 e7 f2 cx cy cz
    obtain ⟨wb,hwb⟩:∃W,(w3.alloc (.cells #[.int .i64 v] 3)).alloc (.cells #[.slice (some ⟨w3.heap.size,0,none⟩) 1 1] 22)=W:=⟨_,rfl⟩
    have HL1:Hid (Ints wb (some ⟨w3.heap.size,0,none⟩) 1 [v]):=hwb▸(row_new w3 [v] (by simp [maxLen])).alloc _
    have HFB:Hid (Fr [] w3 wb):=hwb▸((box_fr' _ _).then_ (box_fr' _ _))
    have hcb:wb.cell? ⟨w3.heap.size+1,0,none⟩=some (.slice (some ⟨w3.heap.size,0,none⟩) 1 1):=by
     have :=(At.new (w3.alloc (.cells #[.int .i64 v] 3)) 22 #[.slice (some ⟨w3.heap.size,0,none⟩) 1 1]).cell 0
     rw [hwb] at this
     simpa using this
    have HCB:=Lib.hid hcb
    have HWS:Hid (w.heap.size+1≤w3.heap.size):=(Nat.le_trans HXR.out.bx.lt HF3.out.size:w.heap.size+1≤w3.heap.size)
    go_wp2_with (at_builtin;(refine wpList_append_listsU _ rfl _ _ rfl A' c' hs hs.length rfl rfl (HN.out.keep (HF3.out.then_ HFB.out)).row ⟨w3.heap.size+1,0,none⟩ 1 1 [⟨some ⟨w3.heap.size,0,none⟩,1,[v]⟩] rfl rfl (fun j hj=>by (have :j=0:=by simpa using hj);subst this;rw [addr_add];exact HCB.out) (by simp;omega) ?_;intro A4 c4 w4 hi4 hf4 hg4 hs4;have HN4:=Lib.hid ((HN.out.keep HF3.out).more HFB.out (fun h hh=>by (have :=List.mem_singleton.1 hh);subst this;exact ⟨HL1.out,ra1U HVR.out,by simp,fun k hk=>by simp [blks] at hk;subst hk;exact HWS.out⟩) hf4 hi4 hg4 (Nat.le_trans HWS.out HFB.out.size));have HX4:Hid (Cx w w4 ⟨iA,iC,some ⟨b,o,none⟩,lC,oA,oC,bA,bC,vA,vC,gA,gC,nA,nC⟩ ⟨mx,ins,lat,outs,bads,invs,ands,nms⟩):=⟨((HXR.out.fr.then_ HF3.out).then_ HFB.out).trans hf4 (fun k hk=> .inr (by have :=HN.out.new k hk;omega)),hf4.at_ ((HXR.out.bx.keep HF3.out).keep HFB.out) (fun hm=>by have :=HN.out.new _ hm;omega)⟩;clear hi4 hf4 hg4 hs4 hcb))
    clear hwb
    go_roundg (gk-1)
    case measure=>have :=HK.out;omega
    case rel=>exact ⟨k+1,A4,c4,hs++[(⟨some ⟨w3.heap.size,0,none⟩,1,[v]⟩:Ls)],by have :=HK.out;omega,by simp,by go_num,HN4.out,(by rw [List.map_append,HE.out,HNX.out,HF1.out];rfl :_=_),HX4.out⟩
   ·have b0:(z==(0:Int))=false:=by simp [hz0]
    rw [if_neg hz0] at HF1
    by_cases hz1:z=1
    ·have b1:(z==(1:Int))=true:=by simp [hz1]
     rw [if_pos hz1] at HF1
     clear hz0 hz1
     go_upto_region 7 with fail
     obtain ⟨wx,hwx⟩:∃W,wr.alloc (.cells #[.int .i64 x, .int .i64 y, .int .i64 z] 63)=W:=⟨_,rfl⟩
     have hxa:At wx wr.heap.size 63 #[.int .i64 x, .int .i64 y, .int .i64 z]:=hwx▸At.new _ _ _
     have HFX:Hid (Fr [] wr wx):=hwx▸box_fr' _ _
     have f2:=hxa.cell 2
     simp at f2
     have HXX:=Lib.hid (HXR.out.keep HFX.out)
     obtain ⟨e0,e1,e2,e3,e4,e5,e6,e7⟩:=HXX.out.cells
     simp only at e0 e1 e2 e3 e4 e5 e6 e7
     rw [hwx]
     clear hwx hxa d0 d1 d2 d3 d4 d5 d6 d7
     have KLN:=Lib.hid (KL.out wx HXX.out.fr ((k:Int)+1) (by show _∧ -(lat.length:Int)≤_∧_≤(lat.length:Int);omega))
     obtain ⟨v,hv2⟩:∃v,laU ⟨mx,ins,lat,outs,bads,invs,ands,nms⟩ 0 ((k:Int)+1)=v:=⟨_,rfl⟩
     rw [hv2] at KLN HF1
     have hvr:R64 v:=by
      rw [←hv2]
      exact laU_r64 hv (by omega) (by simp only;omega)
     have HVR:=Lib.hid hvr
     clear hv2 hvr
     have hw1:IntKind.i64.wrap ((k:Int)+1)=(k:Int)+1:=IntWalk.i64_in _ (by omega)
     go_wp2_with fail
     refine KLN.out.mono ?_
     clear KLN
     rintro e w3 ⟨rfl,hf3⟩
     have HF3:=Lib.hid (HFX.out.then_ hf3)
     clear hf3 e0 e1 e2 e3 e4 e5 e6 e7 f2 cx cy cz
     obtain ⟨wb,hwb⟩:∃W,(w3.alloc (.cells #[.int .i64 v] 3)).alloc (.cells #[.slice (some ⟨w3.heap.size,0,none⟩) 1 1] 22)=W:=⟨_,rfl⟩
     have HL1:Hid (Ints wb (some ⟨w3.heap.size,0,none⟩) 1 [v]):=hwb▸(row_new w3 [v] (by simp [maxLen])).alloc _
     have HFB:Hid (Fr [] w3 wb):=hwb▸((box_fr' _ _).then_ (box_fr' _ _))
     have hcb:wb.cell? ⟨w3.heap.size+1,0,none⟩=some (.slice (some ⟨w3.heap.size,0,none⟩) 1 1):=by
      have :=(At.new (w3.alloc (.cells #[.int .i64 v] 3)) 22 #[.slice (some ⟨w3.heap.size,0,none⟩) 1 1]).cell 0
      rw [hwb] at this
      simpa using this
     have HCB:=Lib.hid hcb
     have HWS:Hid (w.heap.size+1≤w3.heap.size):=(Nat.le_trans HXR.out.bx.lt HF3.out.size:w.heap.size+1≤w3.heap.size)
     go_wp2_with (at_builtin;(refine wpList_append_listsU _ rfl _ _ rfl A' c' hs hs.length rfl rfl (HN.out.keep (HF3.out.then_ HFB.out)).row ⟨w3.heap.size+1,0,none⟩ 1 1 [⟨some ⟨w3.heap.size,0,none⟩,1,[v]⟩] rfl rfl (fun j hj=>by (have :j=0:=by simpa using hj);subst this;rw [addr_add];exact HCB.out) (by simp;omega) ?_;intro A4 c4 w4 hi4 hf4 hg4 hs4;have HN4:=Lib.hid ((HN.out.keep HF3.out).more HFB.out (fun h hh=>by (have :=List.mem_singleton.1 hh);subst this;exact ⟨HL1.out,ra1U HVR.out,by simp,fun k hk=>by simp [blks] at hk;subst hk;exact HWS.out⟩) hf4 hi4 hg4 (Nat.le_trans HWS.out HFB.out.size));have HX4:Hid (Cx w w4 ⟨iA,iC,some ⟨b,o,none⟩,lC,oA,oC,bA,bC,vA,vC,gA,gC,nA,nC⟩ ⟨mx,ins,lat,outs,bads,invs,ands,nms⟩):=⟨((HXR.out.fr.then_ HF3.out).then_ HFB.out).trans hf4 (fun k hk=> .inr (by have :=HN.out.new k hk;omega)),hf4.at_ ((HXR.out.bx.keep HF3.out).keep HFB.out) (fun hm=>by have :=HN.out.new _ hm;omega)⟩;clear hi4 hf4 hg4 hs4 hcb))
     clear hwb
     go_roundg (gk-1)
     case measure=>have :=HK.out;omega
     case rel=>exact ⟨k+1,A4,c4,hs++[(⟨some ⟨w3.heap.size,0,none⟩,1,[v]⟩:Ls)],by have :=HK.out;omega,by simp,by go_num,HN4.out,(by rw [List.map_append,HE.out,HNX.out,HF1.out];rfl :_=_),HX4.out⟩
    ·have b1:(z==(1:Int))=false:=by simp [hz1]
     rw [if_neg hz1] at HF1
     clear hz0 hz1
     go_upto_region 7 with fail
     obtain ⟨wx,hwx⟩:∃W,wr.alloc (.cells #[.int .i64 x, .int .i64 y, .int .i64 z] 63)=W:=⟨_,rfl⟩
     have hxa:At wx wr.heap.size 63 #[.int .i64 x, .int .i64 y, .int .i64 z]:=hwx▸At.new _ _ _
     have HFX:Hid (Fr [] wr wx):=hwx▸box_fr' _ _
     have f2:=hxa.cell 2
     simp at f2
     have HXX:=Lib.hid (HXR.out.keep HFX.out)
     obtain ⟨e0,e1,e2,e3,e4,e5,e6,e7⟩:=HXX.out.cells
     simp only at e0 e1 e2 e3 e4 e5 e6 e7
     rw [hwx]
     clear hwx hxa d0 d1 d2 d3 d4 d5 d6 d7
     go_wp2_with fail
     go_roundg (gk-1)
     case measure=>have :=HK.out;omega
     case rel=>exact ⟨k+1,A',c',hs,by have :=HK.out;omega,rfl,by go_num,HN.out.keep HFX.out,(by rw [HE.out,HNX.out,HF1.out,List.append_nil]:_=_),HXR.out.keep HFX.out⟩
  ·obtain rfl :k=lat.length:=by omega
   clear HK
   go_wp2_with fail
   go_ret
   exact ⟨A',c',hs,rfl,HN.out.low (by omega),HE.out,HXR.out.fr⟩
end Go.Proofs.YtjmmpfjcpdepjaaGreatDoor
