/- Parts of a proof. -/
import Derived.Test.YtjmmpfjcpdepjaaGreatDoorGAM
import Derived.Laws.AppendOwnNone
import Derived.Lib.AppendZeros
set_option linter.unusedVariables false
set_option linter.unusedSimpArgs false
set_option maxHeartbeats 8000000
namespace Go.Proofs.YtjmmpfjcpdepjaaGreatDoor
open Go.RowKit
theorem own_cut0 {w:World} {e:TypeId} {A:Option Addr} {n c:Nat} {xs:List Value} (h:w.ownsRow 0 e 1 (.slice A n c) n xs):w.ownsRow 0 e 1 (.slice A 0 c) 0 []:=by
 refine ⟨by simp,?_⟩
 rcases h.2 with ⟨hv,rfl⟩ |⟨g,cap,cur,hv,hb,hg,hn,hm,hs,ht⟩
 ·simp only [Value.slice.injEq,true_and] at hv
  obtain ⟨rfl,rfl⟩:=hv
  exact .inl ⟨rfl,rfl⟩
 ·simp only [Value.slice.injEq,true_and] at hv
  obtain ⟨rfl,rfl⟩:=hv
  exact .inr ⟨g,c,cur,rfl,hb,hg,Nat.zero_le _,hm,hs,by simp⟩
theorem own_cap {w:World} {e:TypeId} {A:Option Addr} {n c:Nat} {xs:List Value} (h:w.ownsRow 0 e 1 (.slice A n c) n xs):n≤c:=by
 rcases h.2 with ⟨hv,rfl⟩ |⟨g,cap,cur,hv,hb,hg,hn,hm,hs,ht⟩
 ·exact Nat.zero_le _
 ·simp only [Value.slice.injEq,true_and] at hv
  rw [hv.2]
  exact hn
theorem growL_calls (w:World) (n:Nat) (hn:n≤4194304):
  Calls Tryz.prog 112 #[.slice none 0 0, .int .i64 n] w fun e w'=>∃A c,e= .returned (.slice A 0 c)∧w'.ownsRow 0 22 1 (.slice A 0 c) 0 []∧(∀k,k∈blks A→w.heap.size≤k)∧Fr [] w w':=by
 have d1:decide ((n:Int)<0)=false:=decide_eq_false (by omega)
 have hw0:IntKind.i64.wrap (0-0)=0:=by decide
 have hw1:IntKind.i64.wrap ((n:Int)-0)=n:=IntWalk.i64_in _ (by omega)
 have hw2:IntKind.i64.wrap (n:Int)=n:=IntWalk.i64_in _ (by omega)
 by_cases h0:n=0
 ·subst h0
  go_enter Tryz.func112,Tryz.ntmps112
  go_wp2_with fail
  go_ret
  exact ⟨none,0,rfl,World.ownsRow_nil _ 0 _ 1,fun k hk=>by simp [blks] at hk,Fr.refl _ _⟩
 ·have d2:decide (0<(n:Int))=true:=decide_eq_true (by omega)
  have hn0:0<n:=by omega
  obtain ⟨A',c',w',hrun,ho,hf,hg⟩:=run_append_zeros w 28 3 28 22 (.slice none 0 0) 24 Tryz.underlying28 Tryz.underlying3 infoIntsU rfl rfl none 0 0 [] (World.ownsRow_nil w 0 22 1) n (by unfold maxLen;omega) (by omega) (by omega)
  have hcap:=own_cap ho
  have HO:=Lib.hid (own_cut0 ho)
  have HF:=Lib.hid hf
  have HG:Hid (∀k,k∈blks A'→w.heap.size≤k):=fun k hk=>by
   rcases hg k hk with h1 |h1
   ·simp [blks] at h1
   ·exact h1
  simp only [Nat.zero_add] at hcap hrun
  clear ho hf hg h0
  rcases A' with _ |⟨ga,go,gs⟩
  ·exfalso
   rcases HO.out.2 with ⟨hv,_⟩ |⟨g,cap,cur,hv,_⟩
   ·simp only [Value.slice.injEq,true_and] at hv
    omega
   ·simp at hv
  ·go_enter Tryz.func112,Tryz.ntmps112
   go_wp2_with (at_builtin;refine Lib.wpList_append_run _ rfl _ _ _ _ rfl _ _ rfl rfl _ _ hrun ?_)
   go_ret
   exact ⟨some ⟨ga,go,gs⟩,c',rfl,HO.out,HG.out,HF.out⟩
theorem wpList_pushV (wb:World) {ops:Array Oper} {rest:List Oper} {o:Oper} {a:Act} {Q:Exit→Act→World→Prop} (hgd:o.guard=none) (s x:Operand)
  (ho:o.op= .call { callee:= .builtin .append,args:=#[s,x],argTypes:=#[28,28] }) {w3:World} {B:Nat} (A:Option Addr) (c:Nat) (hs:List Ls) (HN:NwLs w3 B A c hs) (hwb:Fr [] w3 wb) (hB:B≤wb.heap.size) (n:Nat) (hsv:a.eval s= .slice A n c) (hn:n=hs.length)
  (ad:Addr) (m d:Nat) (ms:List Ls) (hx:a.eval x= .slice (some ad) m d) (hm:m=ms.length) (hr:∀j:Nat,j<ms.length→wb.cell? (ad.add j)=some (ms[j]!).val)
  (hms:∀h∈ms,Ints wb h.A h.c h.l∧Ra h.l∧h.l.length≤1048576∧∀k,k∈blks h.A→B≤k) (hlen:hs.length+ms.length≤4194304)
  (h:∀A' cap w',NwLs w' B A' cap (hs++ms)→Fr (blks A) wb w'→(∀k,k∈blks A'→k∈blks A∨k=wb.heap.size)→wpList Tryz.prog ops Q rest (a.put o.dst (.slice A' (n+m) cap)) w'):
  wpList Tryz.prog ops Q (o::rest) a wb:=
 wpList_append_listsU wb hgd s x ho A c hs n hsv hn (HN.keep hwb).row ad m d ms hx hm hr hlen fun A' cap w' h1 h2 h3 h4=>h A' cap w' (HN.more hwb hms h2 h1 h3 hB) h2 h3
def upt (hs1 hs2:List Ls) (k:Nat):List Ls:=if k=0 then [] else if k=1 then hs1 else hs1++hs2
theorem NwLs.cellsU {w:World} {B:Nat} {A:Option Addr} {c:Nat} {hs:List Ls} (k:NwLs w B A c hs):(A=none∧hs=[]∧c=0)∨∃g,A=some ⟨g,0,none⟩∧∀j:Nat,j<hs.length→w.cell? ⟨g,j,none⟩=some (hs[j]!).val:=by
 rcases k.row.2 with ⟨hv,h0⟩ |⟨g,cap,cur,hv,hb,hg,hn,hm,hs2,ht⟩
 ·simp only [Value.slice.injEq] at hv
  exact .inl ⟨hv.1,List.eq_nil_of_length_eq_zero hv.2.1,hv.2.2⟩
 ·simp only [Value.slice.injEq,true_and] at hv
  obtain ⟨rfl,rfl⟩:=hv
  refine .inr ⟨g,rfl,fun j hj=> ?_⟩
  rw [World.ownsRow.cellAt k.row j (by omega)]
  simp only [List.getElem?_map,List.getElem?_eq_getElem hj,Option.map_some,List.getElem!_eq_getElem?_getD,Option.getD_some]
theorem concat_calls (w:World) (G:Nat) (B:Nat) (hB:B≤w.heap.size) (A1 A2:Option Addr) (c1 c2:Nat) (hs1 hs2:List Ls) (h1:NwLs w B A1 c1 hs1) (h2:NwLs w B A2 c2 hs2)
  (hc1:w.cell? ⟨G,0,none⟩=some (.slice A1 hs1.length c1)) (hc2:w.cell? ⟨G,1,none⟩=some (.slice A2 hs2.length c2)) (hl:hs1.length+hs2.length≤4194304):
  Calls Tryz.prog 71 #[.slice (some ⟨G,0,none⟩) 2 2] w fun e w'=>∃A c,e= .returned (.slice A (hs1++hs2).length c)∧NwLs w' B A c (hs1++hs2)∧Fr [] w w':=by
 have KG:=Lib.hid (fun W n hn=>growL_calls W n hn)
 have HN1:=Lib.hid h1
 have HN2:=Lib.hid h2
 have HC1:=Lib.hid hc1
 have HC2:=Lib.hid hc2
 have HBW:=Lib.hid hB
 clear h1 h2
 obtain ⟨n1,hn1⟩:∃n,hs1.length=n:=⟨_,rfl⟩
 obtain ⟨n2,hn2⟩:∃n,hs2.length=n:=⟨_,rfl⟩
 have HL1:=Lib.hid hn1
 have HL2:=Lib.hid hn2
 have hln:(hs1++hs2).length=n1+n2:=by rw [List.length_append,hn1,hn2]
 rw [hln]
 rw [hn1] at hc1 hl
 rw [hn2] at hc2 hl
 obtain ⟨n3,hn3⟩:∃n:Nat,(n1:Int)+(n2:Int)=(n:Int):=⟨n1+n2,by omega⟩
 have hw0:IntKind.i64.wrap (0+(n1:Int))=n1:=by rw [IntWalk.i64_in _ (by omega)];omega
 have hw1:IntKind.i64.wrap ((n1:Int)+(n2:Int))=(n3:Int):=by rw [IntWalk.i64_in _ (by omega)];omega
 have dn1:decide ((n1:Int)<0)=false:=decide_eq_false (by omega)
 have dn2:decide ((n3:Int)<0)=false:=decide_eq_false (by omega)
 clear hn1 hn2 hln hB
 go_enter Tryz.func71,Tryz.ntmps71
 go_wp2_with fail
 go_loopg [3,11] 2 (fun gk x3 x11 wr=>∃k:Nat,k+gk=2∧x3= .int .i64 (if k=0 then (0:Int) else if k=1 then (n1:Int) else (n3:Int))∧x11= .int .i64 k∧Hid (wr=w))
 case atStart=>exact ⟨0,rfl,rfl,rfl,rfl⟩
 case round=>
  obtain ⟨k,hk,rfl,rfl,HW⟩:=hrel
  have hw:=HW.out.symm
  subst hw
  clear HW
  have hk3:k=0∨k=1∨k=2:=by omega
  rcases hk3 with rfl |rfl |rfl
  ·go_wp2_with fail
   go_roundg (gk-1)
   case measure=>omega
   case rel=>exact ⟨1,by omega,by go_num,by go_num,rfl⟩
  ·go_wp2_with fail
   go_roundg (gk-1)
   case measure=>omega
   case rel=>exact ⟨2,by omega,by go_num,by go_num,rfl⟩
  ·have KG1:=Lib.hid (KG.out w n3 (by omega))
   clear hk KG hw0 hw1 dn1 dn2
   go_wp2_with fail
   refine KG1.out.mono ?_
   clear KG1
   rintro e w1 ⟨A3,c3,rfl,ho3,hg3,hf3⟩
   have HF1:=Lib.hid hf3
   have HN3:Hid (NwLs w1 B A3 c3 []):=⟨ho3,fun k hk=>Nat.le_trans HBW.out (hg3 k hk),fun h hh=>by cases hh⟩
   have HN12:Hid (n1+n2=n3):=(by show _=_;omega)
   have HG3:=Lib.hid hg3
   clear ho3 hg3 hf3 hn3
   go_wp2_with fail
   go_loopg [6,27] 2 (fun gk x6 x27 wr=>∃(k:Nat) (A':Option Addr) (c':Nat) (hs:List Ls),k+gk=2∧x6= .slice A' hs.length c'∧x27= .int .i64 k∧Hid (hs=upt hs1 hs2 k)∧Hid (NwLs wr B A' c' hs)∧Hid (∀k,k∈blks A'→w.heap.size≤k)∧Hid (Fr [] w wr))
   case atStart=>exact ⟨0,A3,c3,[],rfl,rfl,rfl,rfl,HN3.out,HG3.out,HF1.out⟩
   case round=>
    clear HN3 HF1
    obtain ⟨k,A',c',hs,hk,rfl,rfl,HE,HN,HG,HF⟩:=hrel
    have HK:=Lib.hid hk
    have hk3:k=0∨k=1∨k=2:=by omega
    clear hk
    have HB2:Hid (B≤wr.heap.size):=Nat.le_trans HBW.out HF.out.size
    rcases hk3 with rfl |rfl |rfl
    ·have hc:=HF.out.cellS hc1
     have HM:=Lib.hid (HN1.out.keep HF.out)
     have HE1:Hid (hs++hs1=upt hs1 hs2 1):=(by rw [HE.out];rfl :_=_)
     rcases HM.out.cellsU with ⟨rfl,h0,rfl⟩ |⟨g1,rfl,hcs⟩
     ·have hn10:n1=0:=by rw [←HL1.out,h0];rfl
      have HE2:Hid (hs=upt hs1 hs2 1):=((show hs=hs++hs1 by rw [h0,List.append_nil]).trans HE1.out:_=_)
      rw [hn10] at hc
      clear h0 hn10 hc1 hc2
      go_wp2_with (at_builtin;refine wpList_append_own_none rfl _ _ _ rfl 0 22 _ 1 Tryz.underlying28 (info_parts infoIntsU).choose_spec.1 _ hs.length _ rfl HN.out.row rfl ?_)
      go_roundg (gk-1)
      case measure=>have :=HK.out;omega
      case rel=>exact ⟨1,A',c',hs,by have :=HK.out;omega,rfl,by go_num,HE2.out,HN.out,HG.out,HF.out⟩
     ·have HCS:=Lib.hid hcs
      have hle:hs.length+n1≤4194304:=by have h9:hs.length≤0:=(by rw [HE.out];exact Nat.le_refl _);omega
      clear hcs hc1 hc2
      go_wp2_with (at_builtin;(refine wpList_pushV _ rfl _ _ rfl A' c' hs HN.out (Fr.refl _ _) HB2.out hs.length rfl rfl ⟨g1,0,none⟩ n1 c1 hs1 rfl HL1.out.symm (fun j hj=>by rw [addr_add,Nat.zero_add];exact HCS.out j hj) HM.out.each (by rw [HL1.out];exact hle) ?_;intro A4 c4 w4 hn4 hf4 hg4;have HN4:=Lib.hid hn4;have HF4:=Lib.hid (HF.out.trans hf4 (fun k hk=> .inr (HG.out k hk)));have HG4:Hid (∀k,k∈blks A4→w.heap.size≤k):=(fun k hk=>(by rcases hg4 k hk with h9 |h9;exact HG.out k h9;(have :=HF.out.size;omega):w.heap.size≤k));clear hn4 hf4 hg4))
      go_roundg (gk-1)
      case measure=>have :=HK.out;omega
      case rel=>exact ⟨1,A4,c4,hs++hs1,by have :=HK.out;omega,by rw [List.length_append,HL1.out],by go_num,HE1.out,HN4.out,HG4.out,HF4.out⟩
    ·have hc:=HF.out.cellS hc2
     have HM:=Lib.hid (HN2.out.keep HF.out)
     have HE1:Hid (hs++hs2=upt hs1 hs2 2):=(by rw [HE.out];rfl :_=_)
     rcases HM.out.cellsU with ⟨rfl,h0,rfl⟩ |⟨g1,rfl,hcs⟩
     ·have hn10:n2=0:=by rw [←HL2.out,h0];rfl
      have HE2:Hid (hs=upt hs1 hs2 2):=((show hs=hs++hs2 by rw [h0,List.append_nil]).trans HE1.out:_=_)
      rw [hn10] at hc
      clear h0 hn10 hc1 hc2
      go_wp2_with (at_builtin;refine wpList_append_own_none rfl _ _ _ rfl 0 22 _ 1 Tryz.underlying28 (info_parts infoIntsU).choose_spec.1 _ hs.length _ rfl HN.out.row rfl ?_)
      go_roundg (gk-1)
      case measure=>have :=HK.out;omega
      case rel=>exact ⟨2,A',c',hs,by have :=HK.out;omega,rfl,by go_num,HE2.out,HN.out,HG.out,HF.out⟩
     ·have HCS:=Lib.hid hcs
      have hle:hs.length+n2≤4194304:=by have h9:hs.length≤n1:=(by rw [HE.out];show hs1.length≤n1;rw [HL1.out];exact Nat.le_refl _);omega
      clear hcs hc1 hc2
      go_wp2_with (at_builtin;(refine wpList_pushV _ rfl _ _ rfl A' c' hs HN.out (Fr.refl _ _) HB2.out hs.length rfl rfl ⟨g1,0,none⟩ n2 c2 hs2 rfl HL2.out.symm (fun j hj=>by rw [addr_add,Nat.zero_add];exact HCS.out j hj) HM.out.each (by rw [HL2.out];exact hle) ?_;intro A4 c4 w4 hn4 hf4 hg4;have HN4:=Lib.hid hn4;have HF4:=Lib.hid (HF.out.trans hf4 (fun k hk=> .inr (HG.out k hk)));have HG4:Hid (∀k,k∈blks A4→w.heap.size≤k):=(fun k hk=>(by rcases hg4 k hk with h9 |h9;exact HG.out k h9;(have :=HF.out.size;omega):w.heap.size≤k));clear hn4 hf4 hg4))
      go_roundg (gk-1)
      case measure=>have :=HK.out;omega
      case rel=>exact ⟨2,A4,c4,hs++hs2,by have :=HK.out;omega,by rw [List.length_append,HL2.out],by go_num,HE1.out,HN4.out,HG4.out,HF4.out⟩
    ·have hsl:hs.length=n1+n2:=by rw [HE.out];show (hs1++hs2).length=_;rw [List.length_append,HL1.out,HL2.out]
     have HNE:Hid (NwLs wr B A' c' (hs1++hs2)):=by have :=HN.out;rw [HE.out] at this;exact this
     rw [hsl]
     clear HK hsl hc1 hc2
     go_wp2_with fail
     go_ret
     exact ⟨A',c',rfl,HNE.out,HF.out⟩
structure Bq (w wr:World) (H:Qh) (q:Qn):Prop where
 fr:Fr [] w wr
 bq:At wr w.heap.size 30 (qvs H q)
 bc:At wr (w.heap.size+1) 27 (cvs H.H q.C)
theorem Bq.keep {w wr w':World} {H:Qh} {q:Qn} (h:Bq w wr H q) (hf:Fr [] wr w'):Bq w w' H q:=⟨h.fr.then_ hf,h.bq.keep hf,h.bc.keep hf⟩
theorem Bq.start (w:World) (H:Qh) (q:Qn):Bq w ((w.alloc (.cells (qvs H q) 30)).alloc (.cells (cvs H.H q.C) 27)) H q:=by
 refine ⟨(box_fr' _ _).then_ (box_fr' _ _),(At.new w _ _).keep (box_fr' _ _),?_⟩
 have :=At.new (w.alloc (.cells (qvs H q) 30)) 27 (cvs H.H q.C)
 rw [show (w.alloc (.cells (qvs H q) 30)).heap.size=w.heap.size+1 by simp] at this
 exact this
theorem Bq.cells {w wr:World} {H:Qh} {q:Qn} (h:Bq w wr H q):
  wr.cell? ⟨w.heap.size+1,0,none⟩=some (.int .i64 q.C.mx)∧wr.cell? ⟨w.heap.size+1,1,none⟩=some (.slice H.H.iA q.C.ins.length H.H.iC)∧wr.cell? ⟨w.heap.size+1,2,none⟩=some (.slice H.H.lA q.C.lat.length H.H.lC)∧wr.cell? ⟨w.heap.size+1,3,none⟩=some (.slice H.H.oA q.C.outs.length H.H.oC)∧
  wr.cell? ⟨w.heap.size+1,4,none⟩=some (.slice H.H.bA q.C.bads.length H.H.bC)∧wr.cell? ⟨w.heap.size+1,5,none⟩=some (.slice H.H.vA q.C.invs.length H.H.vC)∧wr.cell? ⟨w.heap.size+1,6,none⟩=some (.slice H.H.gA q.C.ands.length H.H.gC)∧wr.cell? ⟨w.heap.size+1,7,none⟩=some (.slice H.H.nA q.C.nms.length H.H.nC):=h.bc.cells8
theorem Bq.cellsq {w wr:World} {H:Qh} {q:Qn} (h:Bq w wr H q):
  wr.cell? ⟨w.heap.size,0,none⟩=some (.int .i64 q.C.mx)∧wr.cell? ⟨w.heap.size,1,none⟩=some (.slice H.H.iA q.C.ins.length H.H.iC)∧wr.cell? ⟨w.heap.size,2,none⟩=some (.slice H.H.lA q.C.lat.length H.H.lC)∧wr.cell? ⟨w.heap.size,3,none⟩=some (.slice H.H.oA q.C.outs.length H.H.oC)∧
  wr.cell? ⟨w.heap.size,4,none⟩=some (.slice H.H.bA q.C.bads.length H.H.bC)∧wr.cell? ⟨w.heap.size,5,none⟩=some (.slice H.H.vA q.C.invs.length H.H.vC)∧wr.cell? ⟨w.heap.size,6,none⟩=some (.slice H.H.gA q.C.ands.length H.H.gC)∧wr.cell? ⟨w.heap.size,7,none⟩=some (.slice H.H.nA q.C.nms.length H.H.nC)∧
  wr.cell? ⟨w.heap.size,8,none⟩=some (.slice H.aA q.am.length H.aC)∧wr.cell? ⟨w.heap.size,9,none⟩=some (.slice H.lA q.ls.length H.lC)∧wr.cell? ⟨w.heap.size,10,none⟩=some (.slice H.kA q.ks.length H.kC)∧
  wr.cell? ⟨w.heap.size,11,none⟩=some (.int .i64 q.bad)∧wr.cell? ⟨w.heap.size,12,none⟩=some (.int .i64 q.dep)∧wr.cell? ⟨w.heap.size,13,none⟩=some (.int .i64 q.bud):=by
 refine ⟨?_,?_,?_,?_,?_,?_,?_,?_,?_,?_,?_,?_,?_,?_⟩<;>(rw [h.bq.cell];rfl)
def frameU (C:Pc) (am:List (List Int)) (f:Int):List (List Int):=gatesU C (baU C f)++forceU C am (baU C f)
theorem gatesU_len {C:Pc} (hv:Valid C) (b:Int):(gatesU C b).length≤8193:=by
 unfold gatesU
 rw [List.length_append,gatU_len _ _ _ (Nat.le_refl _)]
 have h1:=undU_len b (dfU C) (dfU C).length
 rw [dfU_len C] at h1
 have :=hv.m0
 have :=hv.m1
 have :=valid_gl hv
 rw [dfU_len C]
 omega
theorem uFrame_calls (w:World) (H:Qh) (q:Qn) (h:QuAt w H q) (hv:Valid q.C) (hl:q.ls=[]) (hk:q.ks=[]) (hfa:∀x∈q.am,Fine x.l) (ha:q.am.length≤64) (f:Int) (hf:0≤f∧f≤80) (hb:baU q.C f≤262144):
  Calls Tryz.prog 34 #[qval H q, .int .i64 f] w fun e w'=>∃A c hs,e= .returned (.slice A hs.length c)∧NwLs w' w.heap.size A c hs∧hs.map (·.l)=frameU q.C (q.am.map (·.l)) f∧Fr [] w w':=by
 obtain ⟨w1,hw1⟩:∃W,w.alloc (.cells (qvs H q) 30)=W:=⟨_,rfl⟩
 obtain ⟨w2,hw2⟩:∃W,w1.alloc (.cells (cvs H.H q.C) 27)=W:=⟨_,rfl⟩
 have HX:=Lib.hid (Bq.start w H q)
 rw [hw1,hw2] at HX
 have hq1:At w1 w.heap.size 30 (qvs H q):=hw1▸At.new _ _ _
 have hsz:w1.heap.size=w.heap.size+1:=by rw [←hw1];simp
 have hr0:=(baU_rng hv.m0 hv.m1 (f:=f) (by omega)).1
 have KR:=Lib.hid (uright_calls w2 H.H q.C (h.c.keep HX.out.fr) hv f hf)
 have KB:=Lib.hid (fun W=>ubase_calls W H.H q.C hv.m0 hv.m1 f (by omega))
 have KG:=Lib.hid (fun W (hW:Fr [] w W)=>tgates_calls W H.H q.C (h.c.keep hW) hv (baU q.C f) ⟨hr0,hb⟩)
 have KF:=Lib.hid (fun W (hW:Fr [] w W)=>tforce_calls W H.H q.C (h.c.keep hW) hv H.aA H.aC q.am (h.a.keep hW) hfa ha (baU q.C f) ⟨hr0,hb⟩)
 have KC:=Lib.hid (fun W G B hB A1 A2 c1 c2 hs1 hs2 h1 h2 hc1 hc2 hl=>concat_calls W G B hB A1 A2 c1 c2 hs1 hs2 h1 h2 hc1 hc2 hl)
 have HLG:=Lib.hid (gatesU_len hv (baU q.C f))
 have HLF:Hid ((forceU q.C (q.am.map (·.l)) (baU q.C f)).length≤128):=(by
  have h1:=forceU_len q.C (q.am.map (·.l)) (baU q.C f)
  rw [List.length_map] at h1
  have :=valid_il hv
  show _≤_
  omega)
 have HFU:Hid (frameU q.C (q.am.map (·.l)) f=gatesU q.C (baU q.C f)++forceU q.C (q.am.map (·.l)) (baU q.C f)):=(rfl :_=_)
 obtain ⟨b,hbb⟩:∃b,baU q.C f=b:=⟨_,rfl⟩
 simp only [hbb] at KB
 rw [hbb] at hb KG KF HLG HLF HFU
 have d0:decide (262144<b)=false:=decide_eq_false (by omega)
 clear h hfa hr0 hbb hb hf
 obtain ⟨⟨mx,ins,lat,outs,bads,invs,ands,nms⟩,am,ls,ks,bad,dep,bud⟩:=q
 obtain ⟨⟨iA,iC,lA,lC,oA,oC,bA,bC,vA,vC,gA,gC,nA,nC⟩,aA,aC,mA,mC,kA,kC⟩:=H
 simp only [qval,qvs,cval,cvs] at *
 subst hl hk
 simp only [List.length_nil] at hw1 hq1⊢
 obtain ⟨q0,q1,q2,q3,q4,q5,q6,q7,q8,q9,q10,q11,q12,q13⟩:=HX.out.cellsq
 obtain ⟨c0,c1,c2,c3,c4,c5,c6,c7⟩:=HX.out.cells
 have p0:=hq1.cell 0
 have p1:=hq1.cell 1
 have p2:=hq1.cell 2
 have p3:=hq1.cell 3
 have p4:=hq1.cell 4
 have p5:=hq1.cell 5
 have p6:=hq1.cell 6
 have p7:=hq1.cell 7
 simp at p0 p1 p2 p3 p4 p5 p6 p7
 try simp only at c0 c1 c2 c3 c4 c5 c6 c7
 try simp only [List.length_nil] at q0 q1 q2 q3 q4 q5 q6 q7 q8 q9 q10 q11 q12 q13
 go_enter Tryz.func34,Tryz.ntmps34
 go_upto_region 2 with fail
 go_wp2_with fail
 clear p0 p1 p2 p3 p4 p5 p6 p7 q0 q1 q2 q3 q4 q5 q6 q7 q8 q9 q10 q11 q12 q13 hq1 hw1 hw2
 refine KR.out.mono ?_
 rintro e w3 ⟨rfl,hf3⟩
 have HX3:=Lib.hid (HX.out.keep hf3)
 clear hf3 KR HX c0 c1 c2 c3 c4 c5 c6 c7
 obtain ⟨c0,c1,c2,c3,c4,c5,c6,c7⟩:=HX3.out.cells
 try simp only at c0 c1 c2 c3 c4 c5 c6 c7
 go_wp2_with fail
 refine (KB.out w3).mono ?_
 rintro e w4 ⟨rfl,hf3⟩
 have HX4:=Lib.hid (HX3.out.keep hf3)
 clear hf3 HX3 c0 c1 c2 c3 c4 c5 c6 c7
 obtain ⟨c0,c1,c2,c3,c4,c5,c6,c7⟩:=HX4.out.cells
 try simp only at c0 c1 c2 c3 c4 c5 c6 c7
 go_wp2_with fail
 refine (KB.out w4).mono ?_
 rintro e w5 ⟨rfl,hf3⟩
 have HX5:=Lib.hid (HX4.out.keep hf3)
 clear hf3 HX4 c0 c1 c2 c3 c4 c5 c6 c7
 obtain ⟨c0,c1,c2,c3,c4,c5,c6,c7⟩:=HX5.out.cells
 try simp only at c0 c1 c2 c3 c4 c5 c6 c7
 go_wp2_with fail
 refine (KG.out w5 HX5.out.fr).mono ?_
 rintro e w6 ⟨A1,k1,hs1,rfl,hn1,he1,hf3⟩
 have HX6:=Lib.hid (HX5.out.keep hf3)
 have HS5:=Lib.hid HX5.out.fr.size
 have HN1:=Lib.hid (hn1.low HS5.out)
 have HE1:=Lib.hid he1
 clear hf3 HX5 c0 c1 c2 c3 c4 c5 c6 c7 hn1 he1 HS5
 obtain ⟨c0,c1,c2,c3,c4,c5,c6,c7⟩:=HX6.out.cells
 obtain ⟨q0,q1,q2,q3,q4,q5,q6,q7,q8,q9,q10,q11,q12,q13⟩:=HX6.out.cellsq
 try simp only at c0 c1 c2 c3 c4 c5 c6 c7
 try simp only [List.length_nil] at q0 q1 q2 q3 q4 q5 q6 q7 q8 q9 q10 q11 q12 q13
 go_wp2_with fail
 refine (KF.out w6 HX6.out.fr).mono ?_
 rintro e w7 ⟨A2,k2,hs2,rfl,hn2,he2,hf3⟩
 have HX7:=Lib.hid (HX6.out.keep hf3)
 have HS6:=Lib.hid HX6.out.fr.size
 have HN2:=Lib.hid (hn2.low HS6.out)
 have HM1:=Lib.hid (HN1.out.keep hf3)
 have HE2:=Lib.hid he2
 clear hf3 HX6 c0 c1 c2 c3 c4 c5 c6 c7 q0 q1 q2 q3 q4 q5 q6 q7 q8 q9 q10 q11 q12 q13 hn2 he2 HS6 HN1
 obtain ⟨wb,hwb⟩:∃W,w7.alloc (.cells #[.slice A1 hs1.length k1, .slice A2 hs2.length k2] 28)=W:=⟨_,rfl⟩
 have HFB:Hid (Fr [] w7 wb):=hwb▸box_fr' _ _
 have hat:At wb w7.heap.size 28 #[.slice A1 hs1.length k1, .slice A2 hs2.length k2]:=hwb▸At.new _ _ _
 have HXB:=Lib.hid (HX7.out.keep HFB.out)
 have KCC:=Lib.hid (KC.out wb w7.heap.size w.heap.size HXB.out.fr.size A1 A2 k1 k2 hs1 hs2 (HM1.out.keep HFB.out) (HN2.out.keep HFB.out) (by rw [hat.cell];rfl) (by rw [hat.cell];rfl) (by
  have h1:=HM1.out.len_le HE1.out
  have h2:=HN2.out.len_le HE2.out
  have h3:(gatesU ⟨mx,ins,lat,outs,bads,invs,ands,nms⟩ b).length≤8193:=HLG.out
  have h4:(forceU ⟨mx,ins,lat,outs,bads,invs,ands,nms⟩ (am.map (·.l)) b).length≤128:=HLF.out
  omega))
 clear hat
 go_wp2_with fail
 refine KCC.out.mono ?_
 rintro e w8 ⟨A3,k3,rfl,hn3,hf3⟩
 have HX8:=Lib.hid (HXB.out.keep hf3)
 have HN3:=Lib.hid hn3
 have HE3:Hid ((hs1++hs2).map (·.l)=frameU ⟨mx,ins,lat,outs,bads,invs,ands,nms⟩ (am.map (·.l)) f):=(by rw [List.map_append,HE1.out,HE2.out];exact HFU.out.symm:_=_)
 obtain ⟨hs,hhs⟩:∃hs,hs1++hs2=hs:=⟨_,rfl⟩
 rw [hhs] at HN3 HE3
 rw [hhs]
 clear hf3 hwb HXB HX7 KCC hn3 hhs
 obtain ⟨q0,q1,q2,q3,q4,q5,q6,q7,q8,q9,q10,q11,q12,q13⟩:=HX8.out.cellsq
 try simp only [List.length_nil] at q0 q1 q2 q3 q4 q5 q6 q7 q8 q9 q10 q11 q12 q13
 go_wp2_with fail
 go_loopg [11,55] 0 (fun gk x11 x55 wr=>x11= .slice A3 hs.length k3∧x55= .int .i64 0∧Hid (wr=w8))
 case atStart=>exact ⟨rfl,rfl,rfl⟩
 case round=>
  obtain ⟨rfl,rfl,HW⟩:=hrel
  have hw:=HW.out.symm
  subst hw
  clear HW
  go_wp2_with fail
  go_loopg [11,69] 0 (fun gk x11 x69 wr=>x11= .slice A3 hs.length k3∧x69= .int .i64 0∧Hid (wr=w8))
  case atStart=>exact ⟨rfl,rfl,rfl⟩
  case round=>
   obtain ⟨rfl,rfl,HW⟩:=hrel
   have hw:=HW.out.symm
   subst hw
   clear HW
   go_wp2_with fail
   go_ret
   exact ⟨A3,k3,hs,rfl,HN3.out,HE3.out,HX8.out.fr⟩
theorem uckr (W:World) (g:Nat) (A:Option Addr) (n c:Nat) (hc:W.cell? ⟨g,2,none⟩=some (.slice A n c)) (C:Pc) (hn:n=C.lat.length) (h:Ls) (hk:OkL W h):
  Calls Tryz.prog 38 #[h.val, .pointer (some ⟨g,0,none⟩)] W fun e w'=>e= .returned (.bool (ukB C h.l))∧Fr [] W w':=by
 subst hn
 obtain ⟨B,d,l⟩:=h
 have KL:=Lib.hid (check_callsCi W (C.lat.length:Int) B d l hk.1 hk.2.1)
 show Calls Tryz.prog 38 #[.slice B l.length d, .pointer (some ⟨g,0,none⟩)] W fun e w'=>e= .returned (.bool (ukB C l))∧Fr [] W w'
 obtain ⟨k,hkk⟩:∃k,chkF (C.lat.length:Int) l=k:=⟨_,rfl⟩
 rw [hkk] at KL
 have hu:ukB C l=(k !=0):=by unfold ukB;rw [hkk];rfl
 rw [hu]
 clear hk hkk hu
 go_enter Tryz.func38,Tryz.ntmps38
 go_wp2_with fail
 refine KL.out.mono ?_
 rintro e w2 ⟨rfl,hf⟩
 have HF:=Lib.hid hf
 clear hf
 go_wp2_with fail
 go_ret
 exact ⟨rfl,HF.out⟩
theorem enters_uckr:∀args w,(callFunc 38 args).run Tryz.prog w= .ok (.enter 38 args) w:=enters_of Tryz.func38 (by kernel_rfl) rfl
noncomputable def rightI (q:Qn) (l:List (List Int)):Int:=
 if ¬unI q=0 then unI q else if 1024<(l.length:Int) then 3 else if (l.any (ukB q.C))=true then 23 else 0
theorem Bq.start1 (w:World) (H:Qh) (q:Qn):Fr [] w (w.alloc (.cells (qvs H q) 30))∧At (w.alloc (.cells (qvs H q) 30)) w.heap.size 30 (qvs H q):=⟨box_fr' _ _,At.new w _ _⟩
theorem cright_calls (w:World) (H:Qh) (q:Qn) (h:QuAt w H q) (A:Option Addr) (c:Nat) (hs:List Ls) (hr:RdL w A hs) (hl:hs.length≤17592186044416):
  Calls Tryz.prog 17 #[qval H q, .slice A hs.length c] w fun e w'=>e= .returned (.int .i64 (rightI q (hs.map (·.l))))∧Fr [] w w':=by
 obtain ⟨w1,hw1⟩:∃W,w.alloc (.cells (qvs H q) 30)=W:=⟨_,rfl⟩
 have hb:=Bq.start1 w H q
 rw [hw1] at hb
 have HF1:=Lib.hid hb.1
 have HQ1:=Lib.hid hb.2
 have KU:=Lib.hid (ucheck_calls w1 H q (h.keep hb.1))
 have KC:Hid (∀W,Fr [] w1 W→Calls Tryz.prog 24 #[.slice A hs.length c, .func (.func 38) #[] #[.pointer (some ⟨w.heap.size,0,none⟩)]] W fun e w'=>e= .returned (.bool (hs.any fun h=>ukB q.C h.l))∧Fr [] W w'):=
  fun W hW=>contains_lists W A c hs 38 #[.pointer (some ⟨w.heap.size,0,none⟩)] (ukB q.C) enters_uckr ((hr.keep HF1.out).keep hW) hl (fun W' hW' h _ ok=>uckr W' _ H.H.lA q.C.lat.length H.H.lC ((hW.then_ hW').cellS (by rw [hb.2.cell];rfl)) q.C rfl h ok)
 obtain ⟨r,hrr⟩:∃r,rightI q (hs.map (·.l))=r:=⟨_,rfl⟩
 rw [hrr]
 obtain ⟨u,hu⟩:∃u,unI q=u:=⟨_,rfl⟩
 obtain ⟨t,ht⟩:∃t,(hs.any fun h=>ukB q.C h.l)=t:=⟨_,rfl⟩
 have HR:Hid (r=if ¬u=0 then u else if 1024<(hs.length:Int) then 3 else if t=true then 23 else 0):=by
  show _=_
  rw [←hrr]
  unfold rightI
  rw [hu,List.length_map,List.any_map,←ht]
  rfl
 rw [hu] at KU
 rw [ht] at KC
 clear hrr hu ht hb
 obtain ⟨⟨mx,ins,lat,outs,bads,invs,ands,nms⟩,am,ls,ks,bad,dep,bud⟩:=q
 obtain ⟨⟨iA,iC,lA,lC,oA,oC,bA,bC,vA,vC,gA,gC,nA,nC⟩,aA,aC,mA,mC,kA,kC⟩:=H
 simp only [qval,qvs] at *
 have q0:=HQ1.out.cell 0
 have q1:=HQ1.out.cell 1
 have q2:=HQ1.out.cell 2
 have q3:=HQ1.out.cell 3
 have q4:=HQ1.out.cell 4
 have q5:=HQ1.out.cell 5
 have q6:=HQ1.out.cell 6
 have q7:=HQ1.out.cell 7
 have q8:=HQ1.out.cell 8
 have q9:=HQ1.out.cell 9
 have q10:=HQ1.out.cell 10
 have q11:=HQ1.out.cell 11
 have q12:=HQ1.out.cell 12
 have q13:=HQ1.out.cell 13
 simp at q0 q1 q2 q3 q4 q5 q6 q7 q8 q9 q10 q11 q12 q13
 clear h hr
 go_enter Tryz.func17,Tryz.ntmps17
 go_wp2_with fail
 refine KU.out.mono ?_
 clear KU q0 q1 q2 q3 q4 q5 q6 q7 q8 q9 q10 q11 q12 q13 hw1
 rintro e w3 ⟨rfl,hf3⟩
 have HF3:=Lib.hid hf3
 have HG3:=Lib.hid (HF1.out.then_ hf3)
 clear hf3
 by_cases h0:u=0
 ·subst h0
  have HR2:Hid (r=if 1024<(hs.length:Int) then 3 else if t=true then 23 else 0):=by have :=HR.out;rw [if_neg (by simp)] at this;exact this
  clear HR
  by_cases h1:1024<(hs.length:Int)
  ·have d1:decide (1024<(hs.length:Int))=true:=decide_eq_true h1
   have hrv:r=3:=by have :=HR2.out;rw [if_pos h1] at this;exact this
   subst hrv
   clear h1
   go_wp2_with fail
   go_ret
   exact ⟨rfl,HG3.out⟩
  ·have d1:decide (1024<(hs.length:Int))=false:=decide_eq_false h1
   have HR3:Hid (r=if t=true then 23 else 0):=by have :=HR2.out;rw [if_neg h1] at this;exact this
   have KC1:=Lib.hid (KC.out w3 HF3.out)
   clear h1 HR2 KC
   go_wp2_with fail
   refine KC1.out.mono ?_
   rintro e w4 ⟨rfl,hf4⟩
   have HF4:=Lib.hid (HG3.out.then_ hf4)
   clear hf4
   cases t with
   |true=>
    have hrv:r=23:=HR3.out
    subst hrv
    go_wp2_with fail
    go_ret
    exact ⟨rfl,HF4.out⟩
   |false=>
    have hrv:r=0:=HR3.out
    subst hrv
    go_wp2_with fail
    go_ret
    exact ⟨rfl,HF4.out⟩
 ·have d0:(u==(0:Int))=false:=by simp [h0]
  have hrv:r=u:=by have :=HR.out;rw [if_pos h0] at this;exact this
  subst hrv
  clear h0
  go_wp2_with fail
  go_ret
  exact ⟨rfl,HG3.out⟩
def dvs (H:Qh) (q:Qn) (a:Nat):Array Value:=
 #[.int .i64 q.C.mx, .slice H.H.iA q.C.ins.length H.H.iC, .slice H.H.lA q.C.lat.length H.H.lC, .slice H.H.oA q.C.outs.length H.H.oC, .slice H.H.bA q.C.bads.length H.H.bC, .slice H.H.vA q.C.invs.length H.H.vC, .slice H.H.gA q.C.ands.length H.H.gC, .slice H.H.nA q.C.nms.length H.H.nC,
  .slice H.aA q.am.length H.aC, .slice H.lA q.ls.length H.lC, .slice H.kA q.ks.length H.kC, .int .i64 q.bad, .int .i64 q.dep, .int .i64 q.bud, .pointer (some ⟨a,0,none⟩)]
theorem dk_cells {w:World} {g a:Nat} {H:Qh} {q:Qn} (h:At w g 83 (dvs H q a)):
  w.cell? ⟨g,0,none⟩=some (.int .i64 q.C.mx)∧w.cell? ⟨g,1,none⟩=some (.slice H.H.iA q.C.ins.length H.H.iC)∧w.cell? ⟨g,2,none⟩=some (.slice H.H.lA q.C.lat.length H.H.lC)∧w.cell? ⟨g,3,none⟩=some (.slice H.H.oA q.C.outs.length H.H.oC)∧
  w.cell? ⟨g,4,none⟩=some (.slice H.H.bA q.C.bads.length H.H.bC)∧w.cell? ⟨g,5,none⟩=some (.slice H.H.vA q.C.invs.length H.H.vC)∧w.cell? ⟨g,6,none⟩=some (.slice H.H.gA q.C.ands.length H.H.gC)∧w.cell? ⟨g,7,none⟩=some (.slice H.H.nA q.C.nms.length H.H.nC)∧w.cell? ⟨g,14,none⟩=some (.pointer (some ⟨a,0,none⟩)):=by
 refine ⟨?_,?_,?_,?_,?_,?_,?_,?_,?_⟩<;>(rw [h.cell];rfl)
def Lfine (C:Pc) (l:List Int):Prop:=l.length≤1024∧∀n∈l,n≠0∧ -(C.lat.length:Int)≤n∧n≤C.lat.length
theorem cone_calls (w:World) (g a:Nat) (H:Qh) (q:Qn) (hd:At w g 83 (dvs H q a)) (h:CiAt w H.H q.C) (hv:Valid q.C) (f:Int) (hf:0≤f∧f≤80) (A:Option Addr) (c:Nat) (l:List Int) (hr:Rd w A l) (hl:Lfine q.C l):
  Calls Tryz.prog 42 #[.pointer (some ⟨g,0,none⟩), .slice A l.length c, .int .i64 f] w fun e w'=>∃A' c',e= .returned (.slice A' l.length c')∧Ints w' A' c' (l.map (laU q.C f))∧(∀k,k∈blks A'→w.heap.size≤k)∧Fr [] w w':=by
 have KL:=Lib.hid (fun W (hW:Fr [] w W) n hn=>uLatch_calls W H.H q.C (h.keep hW) hv f hf n hn)
 have HDK:=Lib.hid hd
 have HH:=Lib.hid hr
 have HR:=Lib.hid hl.2
 have hl1:=hl.1
 have HLA:=Lib.hid (fun n hn=>laU_rng hv (f:=f) (n:=n) (by omega) hn)
 have hlv:=hv.l
 have HRA:Hid (Ra l):=(mem_idx (p:=R64)).2 fun x hx=>by
  have :=hl.2 x hx
  exact ⟨by omega,by omega⟩
 clear hd h hv hr hl
 go_enter Tryz.func42,Tryz.ntmps42
 go_wp2_with fail
 go_loopg [7,12] l.length (fun gk x7 x12 wr=>∃(k:Nat) (A':Option Addr) (c':Nat) (ys:List Int),k+gk=l.length∧x7= .slice A' ys.length c'∧x12= .int .i64 k∧Hid (Ints wr A' c' ys)∧Hid (ys=(l.take k).map (laU q.C f))∧Hid (∀k,k∈blks A'→w.heap.size≤k)∧Hid (Fr [] w wr))
 case atStart=>exact ⟨0,none,0,[],by omega,rfl,rfl,World.ownsRow_nil _ 0 _ 1,rfl,fun k hk=>by simp [blks] at hk,Fr.refl _ _⟩
 case round=>
  obtain ⟨k,A',c',ys,hk,rfl,rfl,HI,HY,HN,HF⟩:=hrel
  have HK:=Lib.hid hk
  have hkn:k≤l.length:=by omega
  have hyl:ys.length≤k:=by
   rw [HY.out,List.length_map,List.length_take]
   omega
  clear hk
  by_cases hlt:k<l.length
  ·obtain ⟨ab,o,x,hA,he,cx,hx1,hx2⟩:=(HH.out.keep HF.out).one HRA.out hlt
   subst hA
   have HNX:=Lib.hid (map_next (laU q.C f) hlt)
   rw [he.out] at HNX
   have hxr:=HR.out x (by rw [←he.out];exact mem_get hlt)
   have KLX:=KL.out wr HF.out x hxr
   have hvr:=HLA.out x hxr
   obtain ⟨v,hv2⟩:∃v,laU q.C f x=v:=⟨_,rfl⟩
   rw [hv2] at KLX hvr HNX
   have KLX:=Lib.hid KLX
   clear hxr hv2
   obtain ⟨d0,d1,d2,d3,d4,d5,d6,d7,d14⟩:=dk_cells (HDK.out.keep HF.out)
   have hci:Hid (cval H.H q.C= .agg #[.int .i64 q.C.mx, .slice H.H.iA q.C.ins.length H.H.iC, .slice H.H.lA q.C.lat.length H.H.lC, .slice H.H.oA q.C.outs.length H.H.oC, .slice H.H.bA q.C.bads.length H.H.bC, .slice H.H.vA q.C.invs.length H.H.vC, .slice H.H.gA q.C.ands.length H.H.gC, .slice H.H.nA q.C.nms.length H.H.nC]):=(rfl :_=_)
   go_wp2_with fail
   rw [hci.out] at KLX
   refine KLX.out.mono ?_
   rintro e w3 ⟨rfl,hf3⟩
   have HF3:=Lib.hid hf3
   clear hf3 KLX d0 d1 d2 d3 d4 d5 d6 d7 d14
   obtain ⟨wb,hwb⟩:∃W,w3.alloc (.cells #[.int .i64 v] 3)=W:=⟨_,rfl⟩
   have HFB:Hid (Fr [] w3 wb):=hwb▸box_fr' _ _
   have hcell:wb.cell? ⟨w3.heap.size,0,none⟩=some (.int .i64 v):=by
    rw [←hwb]
    exact (At.new w3 3 #[.int .i64 v]).cell 0
   go_wp2_with (at_builtin;(refine wpList_append_int _ rfl _ _ rfl A' c' ys ys.length rfl rfl (HI.out.fr (HF3.out.then_ HFB.out) (fun _ _ hm=>by cases hm)) ⟨w3.heap.size,0,none⟩ 1 v rfl hcell (by omega) ?_;intro g cap w4 hrow hfr hg hs3;have HR4:=Lib.hid hrow;have HF4:Hid (Fr [] w w4):=((HF.out.then_ HF3.out).then_ HFB.out).trans hfr (fun x hx=> .inr (HN.out x hx));have HG4:Hid (w.heap.size≤g):=(by rcases hg with h1 |h1;(exact HN.out g h1);(have :=HF.out.size;have :=HF3.out.size;have :=HFB.out.size;omega):w.heap.size≤g);clear hcell hrow hfr hg hs3))
   clear hwb
   go_roundg (gk-1)
   case measure=>have :=HK.out;omega
   case rel=>exact ⟨k+1,some ⟨g,0,none⟩,cap,ys++[v],by have :=HK.out;omega,by simp,by go_num,HR4.out,(by rw [HNX.out,HY.out]:ys++[v]=(l.take (k+1)).map (laU q.C f)),fun j hj=>by simp [blks] at hj;subst hj;exact HG4.out,HF4.out⟩
  ·obtain rfl :k=l.length:=by omega
   have hy:ys=l.map (laU q.C f):=by rw [HY.out,List.take_length]
   have hyl2:ys.length=l.length:=by rw [hy,List.length_map]
   have HY2:=Lib.hid hy
   rw [hyl2]
   clear HK hy HY
   go_wp2_with fail
   go_ret
   exact ⟨A',c',rfl,by rw [←HY2.out];exact HI.out,HN.out,HF.out⟩
theorem cat_calls (w:World) (g a:Nat) (H:Qh) (q:Qn) (hd:At w g 83 (dvs H q a)) (h:CiAt w H.H q.C) (hv:Valid q.C) (f:Int) (hf:0≤f∧f≤80) (A:Option Addr) (c:Nat) (ls:List Ls) (hr:RdL w A ls) (hl:∀x∈ls,Lfine q.C x.l) (hn:ls.length≤1024):
  Calls Tryz.prog 21 #[.pointer (some ⟨g,0,none⟩), .slice A ls.length c, .int .i64 f] w fun e w'=>∃A' c' hs,e= .returned (.slice A' hs.length c')∧NwLs w' w.heap.size A' c' hs∧hs.map (·.l)=(ls.map (·.l)).map (fun l=>l.map (laU q.C f))∧Fr [] w w':=by
 have KO:=Lib.hid (fun W (hW:Fr [] w W) A c l hr hl=>cone_calls W g a H q (hd.keep hW) (h.keep hW) hv f hf A c l hr hl)
 have HLA:=Lib.hid (fun n hn=>laU_rng hv (f:=f) (n:=n) (by omega) hn)
 have HR:=Lib.hid hr
 have HFN:=Lib.hid hl
 clear hd h hv hr hl
 go_enter Tryz.func21,Tryz.ntmps21
 go_wp2_with fail
 go_loopg [7,12] ls.length (fun gk x7 x12 wr=>∃(k:Nat) (A':Option Addr) (c':Nat) (hs:List Ls),k+gk=ls.length∧x7= .slice A' hs.length c'∧x12= .int .i64 k∧Hid (NwLs wr w.heap.size A' c' hs)∧Hid (hs.map (·.l)=((ls.map (·.l)).take k).map (fun l=>l.map (laU q.C f)))∧Hid (Fr [] w wr))
 case atStart=>exact ⟨0,none,0,[],by omega,rfl,rfl,NwLs.nil _ _,rfl,Fr.refl _ _⟩
 case round=>
  obtain ⟨k,A',c',hs,hk,rfl,rfl,HN,HE,HF⟩:=hrel
  have HK:=Lib.hid hk
  have hkn:k≤ls.length:=by omega
  have hsl:hs.length≤k:=by
   have :=HN.out.len_le HE.out
   rw [List.length_map,List.length_take,List.length_map] at this
   omega
  clear hk
  by_cases hlt:k<ls.length
  ·obtain ⟨ab,o,B1,d1,l1,hA,he,hc1,hokl⟩:=(HR.out.keep HF.out).one hlt
   subst hA
   have hml:k<(ls.map (·.l)).length:=by rw [List.length_map];exact hlt
   have HMX:=Lib.hid (map_nextT (fun l:List Int=>l.map (laU q.C f)) hml)
   have hge:(ls.map (·.l))[k]! =l1:=by
    have :=he.out
    rw [List.getElem!_eq_getElem?_getD,List.getElem?_eq_getElem hlt] at this
    simp only [Option.getD_some] at this
    rw [List.getElem!_eq_getElem?_getD,List.getElem?_map,List.getElem?_eq_getElem hlt]
    simp [this]
   rw [hge] at HMX
   have hfn:Lfine q.C l1:=by
    have :=HFN.out (ls[k]!) (mem_get hlt)
    rw [he.out] at this
    exact this
   have hl1:l1.length≤1024:=hfn.1
   have HFL:=Lib.hid hfn
   have KCX:=Lib.hid (KO.out wr HF.out B1 d1 l1 hokl.1 hfn)
   clear hml hge hokl hfn
   go_wp2_with fail
   refine KCX.out.mono ?_
   rintro e w3 ⟨B2,d2,rfl,hi2,hn2,hf2⟩
   have HI2:=Lib.hid hi2
   have HN2:=Lib.hid hn2
   have HF2:=Lib.hid hf2
   clear hi2 hn2 hf2 KCX
   obtain ⟨wb,hwb⟩:∃W,w3.alloc (.cells #[.slice B2 l1.length d2] 22)=W:=⟨_,rfl⟩
   have HFB:Hid (Fr [] w3 wb):=hwb▸box_fr' _ _
   have HL1:=Lib.hid (HI2.out.fr HFB.out (fun _ _ hm=>by cases hm))
   have hcb:wb.cell? ⟨w3.heap.size,0,none⟩=some (.slice B2 l1.length d2):=by
    have :=(At.new w3 22 #[.slice B2 l1.length d2]).cell 0
    rw [hwb] at this
    simpa using this
   have HCB:=Lib.hid hcb
   have HWS:Hid (w.heap.size≤wr.heap.size):=HF.out.size
   have HLL:Hid ((l1.map (laU q.C f)).length=l1.length):=(List.length_map .. :_=_)
   have HRA2:Hid (Ra (l1.map (laU q.C f))):=(mem_idx (p:=R64)).2 fun x hx=>by
    obtain ⟨y,hy,rfl⟩:=List.mem_map.1 hx
    have :=HLA.out y (HFL.out.2 y hy)
    exact ⟨by omega,by omega⟩
   clear hcb
   go_wp2_with (at_builtin;(refine wpList_pushU _ rfl _ _ rfl A' c' hs (HN.out.keep HF2.out) HFB.out (Nat.le_trans HWS.out (Nat.le_trans HF2.out.size HFB.out.size)) hs.length rfl rfl ⟨w3.heap.size,0,none⟩ 1 1 [⟨B2,d2,l1.map (laU q.C f)⟩] rfl rfl (fun j hj=>by (have :j=0:=by simpa using hj);subst this;rw [addr_add];show _=some (Value.slice B2 (l1.map (laU q.C f)).length d2);rw [HLL.out];exact HCB.out) (fun h hh=>by (have :=List.mem_singleton.1 hh);subst this;exact ⟨HL1.out,HRA2.out,by show (l1.map (laU q.C f)).length≤_;rw [HLL.out];omega,fun k hk=>Nat.le_trans HWS.out (HN2.out k hk)⟩) (by simp;omega) ?_;intro A4 c4 w4 hn4 hf4;have HN4:=Lib.hid hn4;have HF4:=Lib.hid (((HF.out.then_ HF2.out).then_ HFB.out).trans hf4 (fun k hk=> .inr (HN.out.new k hk)));clear hn4 hf4))
   clear hwb
   go_roundg (gk-1)
   case measure=>have :=HK.out;omega
   case rel=>exact ⟨k+1,A4,c4,hs++[(⟨B2,d2,l1.map (laU q.C f)⟩:Ls)],by have :=HK.out;omega,by simp,by go_num,HN4.out,(by rw [List.map_append,HE.out,HMX.out];rfl :_=_),HF4.out⟩
  ·obtain rfl :k=ls.length:=by omega
   have HE2:Hid (hs.map (·.l)=(ls.map (·.l)).map (fun l=>l.map (laU q.C f))):=by
    have :=HE.out
    rw [List.take_of_length_le (by rw [List.length_map];exact Nat.le_refl _)] at this
    exact this
   clear HK HE
   go_wp2_with fail
   go_ret
   exact ⟨A',c',hs,rfl,HN.out,by rw [HE2.out,List.map_map],HF.out⟩
theorem cnot_calls (w:World) (A:Option Addr) (c:Nat) (l:List Int) (h:Rd w A l) (hr:∀x∈l,-1000000≤x∧x≤1000000) (hl:l.length≤1048576):
  Calls Tryz.prog 44 #[.slice A l.length c] w fun e w'=>∃A' c',e= .returned (.slice A' l.length c')∧Ints w' A' c' (l.map fun x=> -x)∧(∀k,k∈blks A'→w.heap.size≤k)∧Fr [] w w':=by
 have HH:=Lib.hid h
 have HR:=Lib.hid hr
 have HRA:Hid (Ra l):=(mem_idx (p:=R64)).2 fun x hx=>by
  have :=hr x hx
  exact ⟨by omega,by omega⟩
 have HM:=Lib.hid (made_cap w l.length (by unfold maxLen;omega))
 have hmk:=run_make_cap w l.length (by omega)
 have HMF:Hid (Fr [] w (w.alloc (.cells (madeCells #[.int .i64 0] l.length) 3))):=box_fr' _ _
 obtain ⟨w1,hw1⟩:∃W,w.alloc (.cells (madeCells #[.int .i64 0] l.length) 3)=W:=⟨_,rfl⟩
 rw [hw1] at HM HMF hmk
 clear h hr
 go_enter Tryz.func44,Tryz.ntmps44
 go_wp2_with fail
 clear hmk hw1
 go_loopg [3,11] l.length (fun g x6 x16 wr=>∃(k:Nat) (A':Option Addr) (c':Nat) (ys:List Int),k+g=l.length∧x6= .slice A' ys.length c'∧x16= .int .i64 k∧Hid (Ints wr A' c' ys)∧Hid (ys=(l.take k).map fun x=> -x)∧Hid (∀j,j∈blks A'→w.heap.size≤j)∧Hid (Fr [] w wr))
 case atStart=>exact ⟨0,_,_,[],by omega,rfl,rfl,HM.out,by show _=_;simp,fun j hj=>by simp [blks] at hj;omega,HMF.out⟩
 case round=>
  obtain ⟨k,A',c',ys,hk,rfl,rfl,HI,HY,HN,HF⟩:=hrel
  have HK:=Lib.hid hk
  have hkn:k≤l.length:=by omega
  have hyl:ys.length≤k:=by
   rw [HY.out,List.length_map,List.length_take]
   omega
  clear hk
  by_cases hlt:k<l.length
  ·obtain ⟨ab,o,x,hA,he,cx,hx1,hx2⟩:=(HH.out.keep HF.out).one HRA.out hlt
   subst hA
   have HNX:=Lib.hid (map_next (fun x:Int=> -x) hlt)
   rw [he.out] at HNX
   have hxr:=HR.out x (by rw [←he.out];exact mem_get hlt)
   have hw1:IntKind.i64.wrap (-x)= -x:=IntWalk.i64_in _ (by omega)
   obtain ⟨wb,hwb⟩:∃W,wr.alloc (.cells #[.int .i64 (-x)] 3)=W:=⟨_,rfl⟩
   have HFB:Hid (Fr [] wr wb):=hwb▸box_fr' _ _
   have hcell:wb.cell? ⟨wr.heap.size,0,none⟩=some (.int .i64 (-x)):=by
    rw [←hwb]
    exact (At.new wr 3 #[.int .i64 (-x)]).cell 0
   go_wp2_with (at_builtin;(refine wpList_append_int _ rfl _ _ rfl A' c' ys ys.length rfl rfl (HI.out.fr HFB.out (fun _ _ hm=>by cases hm)) ⟨wr.heap.size,0,none⟩ 1 (-x) rfl hcell (by omega) ?_;intro g cap w4 hrow hfr hg hs3;have HR4:=Lib.hid hrow;have HF4:Hid (Fr [] w w4):=(HF.out.then_ HFB.out).trans hfr (fun x hx=> .inr (HN.out x hx));have HG4:Hid (w.heap.size≤g):=(by rcases hg with h1 |h1;(exact HN.out g h1);(have :=HF.out.size;have :=HFB.out.size;omega):w.heap.size≤g);clear hcell hrow hfr hg hs3))
   clear hwb
   go_roundg (gk-1)
   case measure=>have :=HK.out;omega
   case rel=>exact ⟨k+1,some ⟨g,0,none⟩,cap,ys++[-x],by have :=HK.out;omega,by simp,by go_num,HR4.out,(by rw [HNX.out,HY.out]:ys++[-x]=(l.take (k+1)).map fun x=> -x),fun j hj=>by simp [blks] at hj;subst hj;exact HG4.out,HF4.out⟩
  ·obtain rfl :k=l.length:=by omega
   have hy:ys=l.map fun x=> -x:=by rw [HY.out,List.take_length]
   have hyl2:ys.length=l.length:=by rw [hy,List.length_map]
   have HY2:=Lib.hid hy
   rw [hyl2]
   clear HK hy HY
   go_wp2_with fail
   go_ret
   exact ⟨A',c',rfl,by rw [←HY2.out];exact HI.out,HN.out,HF.out⟩
def InV (v:Int) (l:List Int):Prop:=l.length≤1024∧∀x∈l,x≠0∧ -v≤x∧x≤v
theorem InV.mono {v v':Int} {l:List Int} (h:InV v l) (hv:v≤v'):InV v' l:=⟨h.1,fun x hx=>by have :=h.2 x hx;omega⟩
theorem InV.ra {v:Int} {l:List Int} (h:InV v l) (hv:v≤262143):Ra l:=fun j hj=>by
 have :=h.2 _ (mem_get hj)
 exact ⟨by omega,by omega⟩
theorem InV.chk {v:Nat} {l:List Int} (h:InV v l) (hv:v≤262143):chkF v l=0:=by
 unfold chkF
 rw [if_neg (by have :=h.1;omega),if_neg]
 intro hc
 obtain ⟨x,hx,h1⟩:=List.any_eq_true.1 hc
 obtain ⟨h2,h3,h4⟩:=h.2 x hx
 have :=tv_in h2 h3 h4 hv
 unfold offB at h1
 rw [decide_eq_false (by omega),decide_eq_false (by omega)] at h1
 cases h1
theorem litT_in {b m l:Int} (hb:0≤b) (hl:0≤l∧l≤2*m+1):litT b l≠0∧ -(b+m+1)≤litT b l∧litT b l≤b+m+1:=by
 unfold litT
 split<;>omega
theorem baU_succ (C:Pc) (f:Int):baU C (f+1)=baU C f+C.mx+1:=by
 unfold baU
 rw [Int.add_mul]
 omega
theorem baU_pos {C:Pc} (h0:0≤C.mx) {f:Int} (h:0≤f):0≤baU C f:=Int.mul_nonneg h (by omega)
theorem laU_in {C:Pc} (hv:Valid C) {f n:Int} (hf:0≤f) (hn:n≠0∧ -(C.lat.length:Int)≤n∧n≤C.lat.length):laU C f n≠0∧ -(baU C (f+1))≤laU C f n∧laU C f n≤baU C (f+1):=by
 rw [baU_succ]
 have hb:=baU_pos hv.m0 hf
 unfold laU
 split
 ·have :=valid_lat hv (-n-1).toNat (by omega)
  have :=litT_in hb (m:=C.mx) (l:=(C.lat[(-n-1).toNat]!).a) (by omega)
  omega
 ·have :=valid_lat hv (n-1).toNat (by omega)
  have :=litT_in hb (m:=C.mx) (l:=(C.lat[(n-1).toNat]!).a) (by omega)
  omega
theorem fst_in {C:Pc} (hv:Valid C):∀l∈fstU C C.lat.length,InV (baU C 1) l:=fun l hl=>by
 obtain ⟨i,hi,hm⟩:=List.mem_flatMap.1 hl
 have hi:=List.mem_range.1 hi
 have key:∀n:Int,n≠0∧ -(C.lat.length:Int)≤n∧n≤C.lat.length→InV (baU C 1) [laU C 0 n]:=fun n hn=>⟨by simp,fun x hx=>by
  rw [List.mem_singleton.1 hx]
  exact laU_in hv (f:=0) (by omega) hn⟩
 unfold fst1 at hm
 split at hm
 ·rw [List.mem_singleton.1 hm];exact key _ (by omega)
 ·split at hm
  ·rw [List.mem_singleton.1 hm];exact key _ (by omega)
  ·cases hm
theorem lnk_in {C:Pc} (hv:Valid C) {f:Int} (hf:0≤f):∀l∈lnkU C f C.lat.length,InV (baU C (f+1+1)) l:=fun l hl=>by
 obtain ⟨i,hi,hm⟩:=List.mem_flatMap.1 hl
 have hi:=List.mem_range.1 hi
 have h1:=laU_in hv (f:=f+1) (n:=(i:Int)+1) (by omega) (by omega)
 have h2:=litT_in (baU_pos hv.m0 hf) (m:=C.mx) (valid_next hv i hi)
 have e1:=baU_succ C (f+1)
 have e2:=baU_succ C f
 have h0:=hv.m0
 unfold lnk1 at hm
 rcases List.mem_cons.1 hm with rfl |hm
 ·refine ⟨by simp,fun x hx=> ?_⟩
  rcases List.mem_cons.1 hx with rfl |hx
  ·exact h1
  ·rw [List.mem_singleton.1 hx];omega
 ·rw [List.mem_singleton.1 hm]
  refine ⟨by simp,fun x hx=> ?_⟩
  rcases List.mem_cons.1 hx with rfl |hx
  ·omega
  ·rw [List.mem_singleton.1 hx];omega
theorem gates_in {C:Pc} (hv:Valid C) {b:Int} (hb:0≤b):∀l∈gatesU C b,InV (b+C.mx+1) l:=fun l hl=>by
 have h0:=hv.m0
 rcases List.mem_append.1 hl with hl |hl
 ·obtain ⟨i,hi,hm⟩:=List.mem_flatMap.1 hl
  have hi:=List.mem_range.1 hi
  rw [dfU_len] at hi
  unfold und1 at hm
  split at hm
  ·cases hm
  ·rw [List.mem_singleton.1 hm]
   exact ⟨by simp,fun x hx=>by rw [List.mem_singleton.1 hx];omega⟩
 ·obtain ⟨y,hy,hm⟩:=List.mem_flatMap.1 hl
  have hy:=List.mem_of_mem_take hy
  obtain ⟨j,hj,hyj⟩:=List.getElem_of_mem hy
  obtain ⟨a1,a2,a3⟩:=valid_and hv j hj
  rw [List.getElem!_eq_getElem?_getD,List.getElem?_eq_getElem hj,Option.getD_some,hyj] at a1 a2 a3
  have k1:=litT_in hb (m:=C.mx) a1
  have k2:=litT_in hb (m:=C.mx) a2
  have k3:=litT_in hb (m:=C.mx) a3
  unfold gat1 at hm
  rcases List.mem_cons.1 hm with rfl |hm
  ·exact ⟨by simp,fun x hx=>by rcases List.mem_cons.1 hx with rfl |hx;omega;rw [List.mem_singleton.1 hx];omega⟩
  ·rcases List.mem_cons.1 hm with rfl |hm
   ·exact ⟨by simp,fun x hx=>by rcases List.mem_cons.1 hx with rfl |hx;omega;rw [List.mem_singleton.1 hx];omega⟩
   ·rw [List.mem_singleton.1 hm]
    exact ⟨by simp,fun x hx=>by
     rcases List.mem_cons.1 hx with rfl |hx
     ·omega
     ·rcases List.mem_cons.1 hx with rfl |hx
      ·omega
      ·rw [List.mem_singleton.1 hx];omega⟩
theorem valid_inv2 {C:Pc} (hv:Valid C):∀x∈C.invs,0≤x∧x≤2*C.mx+1:=fun x hx=>by
 have h:=hv.v
 unfold allB at h
 rw [Bool.and_eq_true,List.all_eq_true] at h
 exact valid_lit hv (h.1 x hx)
def AmOk (mx:Int) (am:List (List Int)):Prop:=am.length≤64∧∀l∈am,l.length≤1024∧∀x∈l,0≤x∧x≤2*mx+1
theorem force_in {C:Pc} (hv:Valid C) {am:List (List Int)} (ha:AmOk C.mx am) {b:Int} (hb:0≤b):∀l∈forceU C am b,InV (b+C.mx+1) l:=fun l hl=>by
 rcases List.mem_append.1 hl with hl |hl
 ·obtain ⟨y,hy,rfl⟩:=List.mem_map.1 hl
  exact ⟨by simp,fun x hx=>by rw [List.mem_singleton.1 hx];exact litT_in hb (valid_inv2 hv y hy)⟩
 ·obtain ⟨y,hy,rfl⟩:=List.mem_map.1 hl
  obtain ⟨h1,h2⟩:=ha.2 y hy
  exact ⟨by rw [List.length_map];exact h1,fun x hx=>by
   obtain ⟨z,hz,rfl⟩:=List.mem_map.1 hx
   exact litT_in hb (h2 z hz)⟩
theorem unI_ok {q:Qn} (h:unI q=0):Valid q.C∧(0≤q.bad∧q.bad<q.C.bads.length∧0≤q.dep∧q.dep<80∧0≤q.bud∧q.bud≤1099511627776)∧AmOk q.C.mx (q.am.map (·.l)):=by
 unfold unI at h
 split at h
 ·cases h
 ·rename_i h1
  split at h
  ·cases h
  ·rename_i h2
   split at h
   ·cases h
   ·rename_i h3
    split at h
    ·cases h
    ·rename_i h4
     refine ⟨Classical.not_not.1 h1,by omega,by rw [List.length_map];omega,fun l hl=> ?_⟩
     obtain ⟨y,hy,rfl⟩:=List.mem_map.1 hl
     have h5:strB q.C.mx y.l=false:=by
      cases h6:strB q.C.mx y.l with
      |false=>rfl
      |true=>exact absurd (.inl (List.any_eq_true.2 ⟨y,hy,h6⟩)) h4
     unfold strB at h5
     rw [Bool.or_eq_false_iff,decide_eq_false_iff_not,Bool.not_eq_false'] at h5
     refine ⟨by have :=h5.1;omega,fun x hx=> ?_⟩
     have h7:=h5.2
     unfold inB at h7
     have :=List.all_eq_true.1 h7 x hx
     simp only [Bool.and_eq_true,decide_eq_true_eq] at this
     exact this
theorem AmOk.fine {mx:Int} {am:List Ls} (h:AmOk mx (am.map (·.l))) (hm:mx≤2048):∀x∈am,Fine x.l:=fun x hx=>by
 obtain ⟨h1,h2⟩:=h.2 x.l (List.mem_map.2 ⟨x,hx,rfl⟩)
 exact ⟨h1,fun y hy=>by have :=h2 y hy;omega⟩
def ybl (A:Option Addr) (hs:List Ls):List Nat:=blks A++hs.flatMap fun x=>blks x.A
theorem NwLs.marks {w:World} {B:Nat} {A:Option Addr} {c:Nat} {hs:List Ls} (k:NwLs w B A c hs):∀j∈ybl A hs,B≤j∧j<w.heap.size:=fun j hj=>by
 rcases List.mem_append.1 hj with h1 |h1
 ·refine ⟨k.new j h1,?_⟩
  rcases k.cellsU with ⟨h2,_,_⟩ |⟨g,h2,_⟩
  ·rw [h2] at h1;simp [blks] at h1
  ·rw [h2] at h1
   simp [blks] at h1
   subst h1
   have :=k.row
   rw [h2] at this
   exact (this.lt j rfl).2
 ·obtain ⟨x,hx,h2⟩:=List.mem_flatMap.1 h1
  exact ⟨(k.each x hx).2.2.2 j h2,(k.each x hx).1.lt j h2⟩
theorem NwLs.rdl {w:World} {B:Nat} {A:Option Addr} {c:Nat} {hs:List Ls} (k:NwLs w B A c hs):RdL w A hs:=by
 refine ⟨fun h0=> ?_,fun j hj=>k.okl _ (mem_get hj)⟩
 rcases k.cellsU with ⟨_,h2,_⟩ |⟨g,h2,h3⟩
 ·rw [h2] at h0;simp at h0
 ·exact ⟨g,0,h2,fun j hj=>by rw [Nat.zero_add];exact h3 j hj⟩
theorem Stay.cell {X:List Nat} {w w':World} (h:Stay X w w') {p:Addr} {v:Value} (hc:w.cell? p=some v) (hx:p.block∈X):w'.cell? p=some v:=by
 obtain ⟨T,h1,h2⟩:=h
 rw [World.cell?_of_block (h1.block p.block (lt_of_cell hc) (h2 _ hx))]
 exact hc
theorem OwnX.old {X Y:List Nat} {w0 w:World} {L:SvL} {S:Sv} (h:OwnX X w0 w L S) (hY:∀k∈Y,k<w0.heap.size):OwnX (X++Y) w0 w L S:=
 ⟨h.own,fun k hk=>by
  rcases List.mem_append.1 hk with h1 |h1
  ·exact h.fx k h1
  ·exact ⟨Nat.lt_of_lt_of_le (hY k h1) h.own.fr.size,h.own.nw k (hY k h1)⟩⟩
namespace Sv
def addAll (S:Sv):List (List Int)→Sv
 |[]=>S
 |c::r=>addAll (S.addF c).1 r
theorem addAll_app (S:Sv):∀l r:List (List Int),S.addAll (l++r)=(S.addAll l).addAll r
 |[],r=>rfl
 |c::l,r=>addAll_app (S.addF c).1 l r
structure Fit (vars V:Nat) (S:Sv):Prop where
 ok:S.Ok 0
 vars:S.vars=vars
 list:S.list.length≤V
 used:S.used≤2199023255552
theorem Fit.add {vars V:Nat} {S:Sv} (h:Fit vars V S) (hV:V<8388608) {c:List Int} (hr:Ra c):Fit vars (V+1) (S.addF c).1:=by
 have hs:S.list.length<2199023255552:=by have :=h.list;omega
 obtain ⟨m1,m2,m3,m4,m5⟩:=addF_more S c
 obtain ⟨k1,k2⟩:=h.ok.addF hr hs
 exact ⟨k1,k2.trans h.vars,by have :=h.list;omega,by rw [m1];exact h.used⟩
end Sv
set_option maxRecDepth 100000 in
theorem dall_calls {X:List Nat} {w0:World} (w:World) (L:SvL) (S:Sv) (h:OwnX X w0 w L S) {vars V:Nat} (hkp:S.Fit vars V) (g:Nat) (H:Qh) (q:Qn) (hd:At w g 83 (dvs H q L.a)) (hg:g∈X)
  (A:Option Addr) (c:Nat) (hs:List Ls) (hr:RdL w A hs) (hxA:∀k∈blks A,k∈X) (hxs:∀x∈hs,∀k∈blks x.A,k∈X)
  (hck:∀x∈hs,chkF vars x.l=0) (hl:V+hs.length≤8388608):
  Calls Tryz.prog 20 #[.pointer (some ⟨g,0,none⟩), .slice A hs.length c] w fun e w'=>e= .returned (.tuple #[])∧∃L',L'.a=L.a∧OwnX X w0 w' L' (S.addAll (hs.map (·.l)))∧Stay X w w':=by
 obtain ⟨RES,hRES⟩:∃RES,S.addAll (hs.map (·.l))=RES:=⟨_,rfl⟩
 rw [hRES]
 obtain ⟨a,ha⟩:∃a,L.a=a:=⟨_,rfl⟩
 rw [ha] at hd⊢
 have HA0:=Lib.hid ha
 have HRES:=Lib.hid hRES
 have HH:=Lib.hid hr
 have HOW0:=Lib.hid h
 have HKP0:=Lib.hid hkp
 have HXA:=Lib.hid hxA
 have HXS:=Lib.hid hxs
 have HCK:=Lib.hid hck
 have HD:=Lib.hid hd
 have HG:=Lib.hid hg
 have HXL:=Lib.hid (fun k hk=>(h.fx k hk).1)
 clear h hr hRES ha hkp hxA hxs hck hd hg
 go_enter Tryz.func20,Tryz.ntmps20
 go_wp2_with fail
 go_loopg [8] hs.length (fun gg x10 wr=>∃(k:Nat) (L:SvL) (S:Sv),k+gg=hs.length∧x10= .int .i64 k∧Hid (L.a=a)∧Hid (OwnX X w0 wr L S)∧Hid (Stay X w wr)∧Hid (S.Fit vars (V+k))∧Hid (S.addAll ((hs.map (·.l)).drop k)=RES))
 case atStart=>exact ⟨0,L,S,by omega,rfl,HA0,HOW0,Stay.of (Fr.refl _ w),HKP0,HRES⟩
 case round=>
  clear HA0 HOW0 HKP0 HRES
  obtain ⟨k,L,S,hk,rfl,HLA,HOW,HST,HKP,HRES⟩:=hrel
  have HK:=Lib.hid hk
  have hkn:k≤hs.length:=by omega
  clear hk
  by_cases hlt:k<hs.length
  ·obtain ⟨b,o,B,d,l,hA,hx,cx,ok⟩:=HH.out.one hlt
   have hxm:(⟨B,d,l⟩:Ls)∈hs:=by rw [←hx.out];exact mem_get hlt
   have e2:=HST.out.cell cx (HXA.out b (by rw [hA];simp [blks]))
   have e3:=(HST.out.at_ HD.out HG.out).cell 14
   simp [dvs] at e3
   subst hA
   have hkp:=HKP.out
   have hva:=hkp.vars
   have hch:chkF S.vars l=0:=by rw [hva];exact HCK.out _ hxm
   have hsl:S.list.length<2199023255552:=by have :=hkp.list;omega
   have KA:=HOW.out.add hkp.ok B d l (HOW.out.far_own (HST.out.rd ok.1 (HXS.out _ hxm)) (HXS.out _ hxm)) ok.2.1 (fun h=>(ok.2.2.2 h).2) hsl hkp.used
   rw [addF_snd2,HLA.out,hch] at KA
   have hdr:=lists_drop hlt
   rw [hx.out] at hdr
   have hres:=HRES.out
   rw [hdr,Sv.addAll] at hres
   have HRS:=Lib.hid hres
   have HK2:=Lib.hid (hkp.add (by omega) ok.2.1)
   have KA:=Lib.hid KA
   clear hkp hva hch hsl hdr hres ok cx hxm hx
   go_wp2_with fail
   refine KA.out.mono ?_
   clear KA
   rintro e w4 ⟨rfl,L4,hL4,h4,s4⟩
   have HL4:=Lib.hid hL4
   have H4:=Lib.hid h4
   have HS4:=Lib.hid (HST.out.then_ s4 HXL.out)
   clear h4 hL4 s4 e2 e3
   go_wp2_with fail
   go_roundg (gk-1)
   case measure=>have :=HK.out;omega
   case rel=>exact ⟨k+1,L4,_,by have :=HK.out;omega,by go_num,HL4,H4,HS4,HK2,HRS⟩
  ·obtain rfl :k=hs.length:=by omega
   have HR2:Hid (S=RES):=by
    have :=HRES.out
    rw [List.drop_of_length_le (by simp)] at this
    exact this
   clear HK HRES
   go_wp2_with fail
   go_end0
   exact ⟨rfl,L,HLA.out,HR2.out▸HOW.out,HST.out⟩
def NvP (X:List Nat) (w0 w:World) (a:Nat) (Q:Sv→Int→Prop) (f:Bool→Bool) (e:Ending) (w':World):Prop:=∃(S':Sv) (r:Int),Q S' r∧S'.Ok 0∧e= .returned (.bool (f (r==2)))∧∃L',L'.a=a∧OwnX X w0 w' L' S'∧Stay X w w'
theorem dnever_calls {X:List Nat} {w0:World} (w:World) (L:SvL) (S:Sv) (h:OwnX X w0 w L S) (ok:S.Ok 0) (g:Nat) (H:Qh) (q:Qn) (hd:At w g 83 (dvs H q L.a)) (A:Option Addr) (c:Nat) (us:List Int) (hrd:Rdx w L A us) (hra:Ra us) (hcap:us.length≤c) (hul:us.length≤1099511627776)
  (red:Bool) (KRED:red=true→RedC) (D C:Nat) (Q:Sv→Int→Prop) (hus:S.used<4611686018427387904) (hW:S.solveW red 1099511627776 us D C Q):
  Calls Tryz.prog 36 #[.pointer (some ⟨g,0,none⟩), .slice A us.length c] w (NvP X w0 w L.a Q id):=by
 have KS:=Lib.hid (h.solve red KRED ok A c us hrd hra hcap hul 1099511627776 D C Q hus hW)
 have e3:=hd.cell 14
 simp [dvs] at e3
 obtain ⟨a,ha⟩:∃a,L.a=a:=⟨_,rfl⟩
 rw [ha] at KS e3⊢
 clear h ok hd hrd hra hW ha
 go_enter Tryz.func36,Tryz.ntmps36
 go_wp2_with fail
 refine KS.out.mono ?_
 clear KS
 rintro e w2 ⟨S',r,hq,hok,rfl,L',hL,h2,hs⟩
 have HQ:=Lib.hid hq
 have HOK:=Lib.hid hok
 have H2:=Lib.hid h2
 have HS:=Lib.hid hs
 have HL:=Lib.hid hL
 clear hq hok h2 hs hL e3
 go_wp2_with fail
 go_ret
 exact ⟨S',r,HQ.out,HOK.out,rfl,L',HL.out,H2.out,HS.out⟩
theorem index_listsS (w:World) (A:Option Addr) (c:Nat) (hs:List Ls) (g:Nat) (cb:Array Value) (P:Nat→World→Prop) (Z:World→Prop) (eg:∀args w,(callFunc g args).run Tryz.prog w= .ok (.enter g args) w) (hl:hs.length≤17592186044416) (h0:P 0 w)
  (hr:∀k W,k<hs.length→P k W→∃b o,A=some ⟨b,o,none⟩∧W.cell? ⟨b,o+k,none⟩=some (hs[k]!).val)
  (hp:∀k W,k<hs.length→P k W→Calls Tryz.prog g (#[(hs[k]!).val]++cb) W fun e w'=>∃q,e= .returned (.bool q)∧(if q=true then Z w' else P (k+1) w')):
  Calls Tryz.prog 51 #[.slice A hs.length c, .func (.func g) #[] cb] w fun e w'=>∃n:Int,e= .returned (.int .i64 n)∧ -1≤n∧n≤17592186044416∧(if 0≤n then Z w' else P hs.length w'):=by
 have HR:=Lib.hid hr
 have HP:=Lib.hid hp
 have H0:=Lib.hid h0
 clear hr hp h0
 go_enter Tryz.func51,Tryz.ntmps51
 go_wp2_with fail
 go_loopg [8] hs.length (fun gg i wr=>∃k:Nat,k+gg=hs.length∧i= .int .i64 k∧Hid (P k wr))
 case atStart=>exact ⟨0,by omega,rfl,H0⟩
 case round=>
  clear H0
  obtain ⟨k,hk,rfl,HX⟩:=hrel
  have HK:=Lib.hid hk
  have hkn:k≤hs.length:=by omega
  clear hk
  by_cases hlt:k<hs.length
  ·obtain ⟨b,o,hA,cx⟩:=HR.out k wr hlt HX.out
   subst hA
   have HC:=Lib.hid (HP.out k wr hlt HX.out)
   obtain ⟨⟨B,d,l⟩,hx⟩:∃x,hs[k]! =x:=⟨_,rfl⟩
   rw [hx] at cx HC
   simp only [Ls.val] at cx HC
   clear hx
   go_wp2_with fail
   refine HC.out.mono ?_
   clear HC HX
   rintro e w2 ⟨q,rfl,hq⟩
   have HQ:=Lib.hid hq
   clear hq
   cases q with
   |true=>
    have HZ:Hid (Z w2):=HQ.out
    clear HQ
    go_wp2_with fail
    go_ret
    exact ⟨k,rfl,by omega,by omega,by rw [if_pos (by omega)];exact HZ.out⟩
   |false=>
    have HZ:Hid (P (k+1) w2):=HQ.out
    clear HQ
    go_wp2_with fail
    go_roundg (gk-1)
    case measure=>have :=HK.out;omega
    case rel=>exact ⟨k+1,by have :=HK.out;omega,by go_num,HZ⟩
  ·obtain rfl :k=hs.length:=by omega
   clear HK
   go_wp2_with fail
   go_ret
   exact ⟨-1,rfl,by omega,by omega,by rw [if_neg (by omega)];exact HX.out⟩
theorem contains_listsS (w:World) (A:Option Addr) (c:Nat) (hs:List Ls) (g:Nat) (cb:Array Value) (P:Nat→World→Prop) (Z:World→Prop) (eg:∀args w,(callFunc g args).run Tryz.prog w= .ok (.enter g args) w) (hl:hs.length≤17592186044416) (h0:P 0 w)
  (hr:∀k W,k<hs.length→P k W→∃b o,A=some ⟨b,o,none⟩∧W.cell? ⟨b,o+k,none⟩=some (hs[k]!).val)
  (hp:∀k W,k<hs.length→P k W→Calls Tryz.prog g (#[(hs[k]!).val]++cb) W fun e w'=>∃q,e= .returned (.bool q)∧(if q=true then Z w' else P (k+1) w')):
  Calls Tryz.prog 24 #[.slice A hs.length c, .func (.func g) #[] cb] w fun e w'=>∃q,e= .returned (.bool q)∧(if q=true then Z w' else P hs.length w'):=by
 have HC:=Lib.hid (index_listsS w A c hs g cb P Z eg hl h0 hr hp)
 clear h0 hr hp
 go_enter Tryz.func24,Tryz.ntmps24
 go_wp2_with fail
 refine HC.out.mono ?_
 rintro e w2 ⟨n,rfl,h1,h2,h3⟩
 have H3:=Lib.hid h3
 clear h3
 go_wp2_with fail
 go_ret
 refine ⟨decide (0≤n),rfl,?_⟩
 have :=H3.out
 by_cases h4:0≤n
 ·rw [if_pos h4] at this
  rw [if_pos (by simpa using h4)]
  exact this
 ·rw [if_neg h4] at this
  rw [if_neg (by simpa using h4)]
  exact this
theorem enters_follow1:∀args w,(callFunc 43 args).run Tryz.prog w= .ok (.enter 43 args) w:=enters_of Tryz.func43 (by kernel_rfl) rfl
theorem Ints.cap_le {w:World} {A:Option Addr} {c:Nat} {xs:List Int} (hi:Ints w A c xs):xs.length≤c:=by
 rcases hi.form with ⟨_,h1,h2⟩ |⟨g,_,_,h2,_⟩
 ·rw [h2];exact Nat.zero_le _
 ·exact h2
theorem dfollow1_calls {X:List Nat} {w0:World} (w:World) (L:SvL) (S:Sv) (h:OwnX X w0 w L S) (ok:S.Ok 0) (g:Nat) (H:Qh) (q:Qn) (hd:At w g 83 (dvs H q L.a)) (hg:g∈X) (p:Nat) (hp:w.cell? ⟨p,0,none⟩=some (.pointer (some ⟨g,0,none⟩)))
  (A:Option Addr) (c:Nat) (l:List Int) (hr:Rd w A l) (hrg:∀x∈l,-1000000≤x∧x≤1000000) (hl:l.length≤1048576)
  (red:Bool) (KRED:red=true→RedC) (D C:Nat) (Q:Sv→Int→Prop) (hus:S.used<4611686018427387904) (hW:S.solveW red 1099511627776 (l.map fun x=> -x) D C Q):
  Calls Tryz.prog 43 #[.slice A l.length c, .pointer (some ⟨p,0,none⟩)] w (NvP X w0 w L.a Q not):=by
 have HP:=Lib.hid hp
 have KNT:=Lib.hid (fun W (hW:Fr [] w W)=>cnot_calls W A c l (hr.keep hW) hrg hl)
 have HXW:=Lib.hid (fun k hk=>(h.fx k hk).1)
 have KNV:Hid (∀W2,Fr [] w W2→∀A3 c3,Ints W2 A3 c3 (l.map fun x=> -x)→(∀k,k∈blks A3→w.heap.size≤k)→Calls Tryz.prog 36 #[.pointer (some ⟨g,0,none⟩), .slice A3 l.length c3] W2 (NvP X w0 w L.a Q id)):=fun W2 hf A3 c3 hi hn=>by
  have hm:=h.more hf (Y:=blks A3) (fun k hk=>⟨hn k hk,hi.lt k hk⟩)
  have hd2:=hf.at_ hd (by simp)
  have hlen:(l.map fun x=> -x).length=l.length:=List.length_map ..
  have hra:Ra (l.map fun x=> -x):=(mem_idx (p:=R64)).2 fun x hx=>by
   obtain ⟨y,hy,rfl⟩:=List.mem_map.1 hx
   have :=hrg y hy
   exact ⟨by omega,by omega⟩
  have hc:=dnever_calls W2 (L.shut w) S hm ok g H q hd2 A3 c3 (l.map fun x=> -x) (hm.far_own hi.rd (fun k hk=>List.mem_append_right _ hk)) hra hi.cap_le (by rw [hlen];omega) red KRED D C Q hus hW
  rw [hlen] at hc
  refine hc.mono ?_
  rintro e w4 ⟨S',r,k1,k2,k3,L',k4,k5,k6⟩
  exact ⟨S',r,k1,k2,k3,L',k4,k5.less (fun k hk=>List.mem_append_left _ hk),(Stay.of hf).then_ (k6.less (fun k hk=>List.mem_append_left _ hk)) (fun k hk=>(h.fx k hk).1)⟩
 obtain ⟨a,ha⟩:∃a,L.a=a:=⟨_,rfl⟩
 rw [ha] at KNV⊢
 clear h ok hd hg hp hr hrg hW ha
 go_enter Tryz.func43,Tryz.ntmps43
 go_upto_region 1 with fail
 refine wp_region_noPanic ?_
 refine wp_region_C (fun w':World=>Fr [] w w') 3 (by kernel_rfl) ((Fr.refl _ w).drew) (fun hT0=> ?_)
 apply TB 2 [(0,[0,3]),(1,[])];kernel_rfl;rfl;· (repeat (apply TBc;rfl;rfl;(· intro w hSw;(try (have hSw:=hSw.resolve_left (List.cons_ne_nil _ _);(have s1:=hSw.cellS HP.out)));go_simp<;>with_reducible rfl);try simp only [Act.put,q5,q6,q7]));exact TBn
 exact hT0;intro hT0
 refine R2 2 (by kernel_rfl) (by rfl) hT0 fun K hK hSx=> ?_
 (go_simp;refine (KNT.out _ hSx).mono ?_;rintro e w3 ⟨A3,c3,rfl,hi3,hn3,hf3⟩;dsimp only);have HI3:=Lib.hid hi3;have HN3:=Lib.hid hn3;have HF3:=Lib.hid hf3;clear hi3 hn3 hf3
 refine hK.out _ _ (.inr ?_) (fun hT3=> ?_)
 ·first |exact hSx.then_ HF3.out |exact hSx
 clear hK K
 try simp only [Act.put,q5,q6,q7]
 refine R2 3 (by kernel_rfl) (by rfl) hT3 fun K hK hSx=> ?_
 (go_simp;refine (KNV.out _ hSx _ _ HI3.out HN3.out).mono ?_;rintro e w4 ⟨S',r,hq,hok,rfl,L',hL,h4,hs4⟩;dsimp only)
 refine hK.out _ _ (.inl rfl) (fun hT4=> ?_)
 clear hK K
 try simp only [Act.put,q5,q6,q7]
 apply TB 1 [(4,[])];kernel_rfl;rfl;· (repeat (apply TBc;rfl;rfl;(· intro w hSw;go_simp<;>with_reducible rfl);try simp only [Act.put,q5,q6,q7]));exact TBn
 exact hT4;intro hT4
 refine R1 (i:=5) (o:= ?or1u6) (by kernel_rfl) (by rfl) ?_
 intro K hK
 go_simp
 refine hK.out _ _ (.inl rfl) (fun hT6=> ?_)
 clear hK K
 try simp only [Act.put,q5,q6,q7]
 refine wpAnyC_done (by kernel_rfl) ?_ _
 refine NoPanic.normal ?_
 have HQ:=Lib.hid hq
 have HOK:=Lib.hid hok
 have HL:=Lib.hid hL
 have H4:=Lib.hid h4
 have HS4:=Lib.hid hs4
 clear hq hok hL h4 hs4
 go_wp2_with fail
 go_ret
 exact ⟨S',r,HQ.out,HOK.out,rfl,L',HL.out,H4.out,HS4.out⟩
def AskQ (us:List Int) (I J Z:Sv→Prop):Prop:=∀S,I S→S.used<4611686018427387904∧∃(red:Bool) (_:red=true→RedC) (D C:Nat) (Q:Sv→Int→Prop),S.solveW red 1099511627776 us D C Q∧∀S' r,Q S' r→if r=2 then J S' else Z S'
def FoP (X:List Nat) (w0 w:World) (a:Nat) (J Z:Sv→Prop) (e:Ending) (w':World):Prop:=∃(S':Sv) (b:Bool),e= .returned (.bool b)∧S'.Ok 0∧(if b=true then J S' else Z S')∧∃L',L'.a=a∧OwnX X w0 w' L' S'∧Stay X w w'
theorem dfollows_calls {X:List Nat} {w0:World} (w:World) (L:SvL) (S:Sv) (h:OwnX X w0 w L S) (ok:S.Ok 0) (g:Nat) (H:Qh) (q:Qn) (hd:At w g 83 (dvs H q L.a)) (hg:g∈X) (hci:CiAt w H.H q.C) (hv:Valid q.C) (f:Int) (hf:0≤f∧f≤80)
  (A:Option Addr) (c:Nat) (ls:List Ls) (hr:RdL w A ls) (hl:∀x∈ls,Lfine q.C x.l) (hn:ls.length≤1024) (I:Nat→Sv→Prop) (Z:Sv→Prop) (h0:I 0 S) (hI:∀k,k<ls.length→AskQ (((ls[k]!).l.map (laU q.C f)).map fun x=> -x) (I k) (I (k+1)) Z):
  Calls Tryz.prog 22 #[.pointer (some ⟨g,0,none⟩), .slice A ls.length c, .int .i64 f] w (FoP X w0 w L.a (I ls.length) Z):=by
 obtain ⟨w1,hw1⟩:∃W,w.alloc (.cells #[.pointer (some ⟨g,0,none⟩)] 51)=W:=⟨_,rfl⟩
 have hf1:Fr [] w w1:=hw1▸box_fr' _ _
 have hp1:w1.cell? ⟨w.heap.size,0,none⟩=some (.pointer (some ⟨g,0,none⟩)):=by
  rw [←hw1]
  exact (At.new w 51 #[.pointer (some ⟨g,0,none⟩)]).cell 0
 have hs1:w1.heap.size=w.heap.size+1:=by rw [←hw1];simp
 obtain ⟨a,ha⟩:∃a,L.a=a:=⟨_,rfl⟩
 have KAT:=Lib.hid (cat_calls w1 g L.a H q (hf1.at_ hd (by simp)) (hci.keep hf1) hv f hf A c ls (hr.keep hf1) hl hn)
 have HXW:=Lib.hid (fun k hk=>(h.fx k hk).1)
 have KCF:Hid (∀W A2 c2 (hs:List Ls),Fr [] w1 W→NwLs W w1.heap.size A2 c2 hs→hs.map (·.l)=(ls.map (·.l)).map (fun l=>l.map (laU q.C f))→Calls Tryz.prog 24 #[.slice A2 hs.length c2, .func (.func 43) #[] #[.pointer (some ⟨w.heap.size,0,none⟩)]] W fun e w'=>∃q,e= .returned (.bool q)∧∃S':Sv,S'.Ok 0∧(if q=true then Z S' else I ls.length S')∧∃L',L'.a=L.a∧OwnX X w0 w' L' S'∧Stay X w w'):=fun W A2 c2 hs hW hnw hm=>by
  have hWw:Fr [] w W:=hf1.then_ hW
  have hlen:hs.length=ls.length:=by
   have :=congrArg List.length hm
   simpa using this
  obtain ⟨Y,hY⟩:∃Y:List Nat,Y=w.heap.size::ybl A2 hs:=⟨_,rfl⟩
  have hox:=h.more hWw (Y:=Y) (fun k hk=>by
   rw [hY] at hk
   rcases List.mem_cons.1 hk with rfl |hk
   ·exact ⟨Nat.le_refl _,by have :=hW.size;omega⟩
   ·have :=hnw.marks k hk
    omega)
  have key:∀k,k<hs.length→(hs[k]!).l=(ls[k]!).l.map (laU q.C f):=fun k hk=>by
   have :=congrArg (fun x:List (List Int)=>x[k]?) hm
   simp only [List.getElem?_map,List.getElem?_eq_getElem hk,List.getElem?_eq_getElem (show k<ls.length by omega),Option.map_some,Option.some.injEq] at this
   rw [List.getElem!_eq_getElem?_getD,List.getElem!_eq_getElem?_getD,List.getElem?_eq_getElem hk,List.getElem?_eq_getElem (show k<ls.length by omega),Option.getD_some,Option.getD_some]
   exact this
  have hc:=contains_listsS W A2 c2 hs 43 #[.pointer (some ⟨w.heap.size,0,none⟩)]
   (fun k W'=>∃S':Sv,S'.Ok 0∧I k S'∧∃L',L'.a=L.a∧OwnX (X++Y) w0 W' L' S'∧Stay (X++Y) W W')
   (fun W'=>∃S':Sv,S'.Ok 0∧Z S'∧∃L',L'.a=L.a∧OwnX (X++Y) w0 W' L' S'∧Stay (X++Y) W W') enters_follow1 (by omega) ⟨S,ok,h0,L.shut w,rfl,hox,Stay.of (Fr.refl _ _)⟩
   (fun k W' hk ⟨S',_,_,L',_,_,hst⟩=>by
    obtain ⟨b,o,hA,hc⟩:=hnw.rdl.1 (by omega)
    exact ⟨b,o,hA,hst.cell (hc k hk) (by rw [hY,hA];simp [ybl,blks])⟩)
   (fun k W' hk ⟨S',ok',hI',L',hL',ho',hst⟩=>by
    have hkl:k<ls.length:=by omega
    have hxm:hs[k]! ∈hs:=mem_get hk
    have hlk:=hl _ (mem_get hkl)
    obtain ⟨u1,red,KRED,D,C,Q,hW',hQ⟩:=hI k hkl S' hI'
    have hrd:=(hnw.rdl.2 k hk).1
    have hlr:∀x∈(hs[k]!).l,-1000000≤x∧x≤1000000:=fun x hx=>by
     rw [key k hk] at hx
     obtain ⟨y,hy,rfl⟩:=List.mem_map.1 hx
     exact laU_rng hv (by omega) (hlk.2 y hy)
    have hll:(hs[k]!).l.length≤1048576:=by rw [key k hk,List.length_map];have :=hlk.1;omega
    have hcal:=dfollow1_calls W' L' S' ho' ok' g H q (by rw [hL'];exact hst.at_ (hWw.at_ hd (by simp)) (List.mem_append_left _ hg)) (List.mem_append_left _ hg) w.heap.size (hst.cell (hW.cellS hp1) (by rw [hY];simp)) (hs[k]!).A (hs[k]!).c (hs[k]!).l (hst.rd hrd (fun j hj=>List.mem_append_right _ (by rw [hY];exact List.mem_cons_of_mem _ (List.mem_append_right _ (List.mem_flatMap.2 ⟨_,hxm,hj⟩))))) hlr hll red KRED D C Q u1 (by rw [key k hk];exact hW')
    refine hcal.mono ?_
    rintro e W2 ⟨S2,r,k1,k2,rfl,L2,k3,k4,k5⟩
    have hst2:=hst.then_ k5 (fun j hj=>(hox.fx j hj).1)
    have hq:=hQ S2 r k1
    refine ⟨!(r==2),rfl,?_⟩
    by_cases h2:r=2
    ·rw [if_pos h2] at hq
     rw [if_neg (by simp [h2])]
     exact ⟨S2,k2,hq,L2,k3.trans hL',k4,hst2⟩
    ·rw [if_neg h2] at hq
     rw [if_pos (by simpa using h2)]
     exact ⟨S2,k2,hq,L2,k3.trans hL',k4,hst2⟩)
  have fin:∀{W':World} {L':SvL} {S':Sv},OwnX (X++Y) w0 W' L' S'→Stay (X++Y) W W'→OwnX X w0 W' L' S'∧Stay X w W':=fun h1 h2=>
   ⟨h1.less (fun k hk=>List.mem_append_left _ hk),(Stay.of hWw).then_ (h2.less (fun k hk=>List.mem_append_left _ hk)) HXW.out⟩
  refine hc.mono ?_
  rintro e W' ⟨q,rfl,hq⟩
  refine ⟨q,rfl,?_⟩
  cases q with
  |true=>
   obtain ⟨S',k1,k2,L',k3,k4,k5⟩:=hq
   exact ⟨S',k1,k2,L',k3,fin k4 k5⟩
  |false=>
   obtain ⟨S',k1,k2,L',k3,k4,k5⟩:=hq
   exact ⟨S',k1,by rw [←hlen];exact k2,L',k3,fin k4 k5⟩
 rw [ha] at KCF⊢
 clear h ok hd hg hci hv hr hl h0 hI hf1 ha
 go_enter Tryz.func22,Tryz.ntmps22
 go_wp2_with fail
 refine KAT.out.mono ?_
 clear KAT
 rintro e w2 ⟨A2,c2,hs,rfl,hn2,hm2,hf2⟩
 have KC2:=Lib.hid (KCF.out w2 A2 c2 hs hf2 hn2 hm2)
 clear KCF hn2 hm2 hf2
 go_wp2_with fail
 refine KC2.out.mono ?_
 clear KC2
 rintro e w3 ⟨b,rfl,S',k1,k2,L',k3,k4,k5⟩
 have K1:=Lib.hid k1
 have K2:=Lib.hid k2
 have K3:=Lib.hid k3
 have K4:=Lib.hid k4
 have K5:=Lib.hid k5
 clear k1 k2 k3 k4 k5
 go_wp2_with fail
 go_ret
 refine ⟨S', !b,rfl,K1.out,?_,L',K3.out,K4.out,K5.out⟩
 have :=K2.out
 cases b
 ·exact this
 ·exact this
namespace Sv
variable {few:Prop} {W:List Int}
end Sv
def lvar (C:Pc) (i:Nat):Nat:=((C.lat[i]!).a/2+1).toNat
theorem laU_lvar {C:Pc} (hv:Valid C) {n:Int} (hn:n≠0∧ -(C.lat.length:Int)≤n∧n≤C.lat.length):laU C 0 n=if n<0 then -((lvar C (tv n-1).toNat:Nat):Int) else ((lvar C (tv n-1).toNat:Nat):Int):=by
 have hl64:=hv.l
 have ht:1≤tv n∧tv n≤C.lat.length:=by unfold tv;omega
 obtain ⟨i,hi⟩:∃i:Nat,tv n=i+1:=⟨(tv n-1).toNat,by omega⟩
 have e1:(tv n-1).toNat=i:=by omega
 have hp:=valid_lat hv i (by omega)
 have hb:baU C 0=0:=by unfold baU;exact Int.zero_mul _
 have e2:litT 0 (C.lat[i]!).a=((lvar C i:Nat):Int):=by
  unfold litT lvar
  rw [if_neg (by omega)]
  omega
 unfold laU
 rw [hb,e1]
 by_cases hneg:n<0
 ·rw [if_pos hneg,if_pos hneg,show (-n-1).toNat=i by unfold tv at e1;omega,e2]
 ·rw [if_neg hneg,if_neg hneg,show (n-1).toNat=i by unfold tv at e1;omega,e2]
structure Lss where
  A:Option Addr
  c:Nat
  hs:List Ls
instance:Inhabited Lss:=⟨⟨none,0,[]⟩⟩
def Lss.val (x:Lss):Value:= .slice x.A x.hs.length x.c
def Lss.cl (x:Lss):List (List Int):=x.hs.map (·.l)
structure RdLs (w:World) (A:Option Addr) (xs:List Lss):Prop where
  cells:0<xs.length→∃b o,A=some ⟨b,o,none⟩∧∀j:Nat,j<xs.length→w.cell? ⟨b,o+j,none⟩=some (xs[j]!).val
  rd:∀x∈xs,RdL w x.A x.hs
  old:∀x∈xs,∀k∈ybl x.A x.hs,k<w.heap.size
theorem RdLs.keep {w w':World} {A:Option Addr} {xs:List Lss} (h:RdLs w A xs) (hf:Fr [] w w'):RdLs w' A xs:=
  ⟨fun h0=>by
    obtain ⟨b,o,hA,hc⟩:=h.cells h0
    exact ⟨b,o,hA,fun j hj=>hf.cellS (hc j hj)⟩,fun x hx=>(h.rd x hx).keep hf,fun x hx k hk=>Nat.lt_of_lt_of_le (h.old x hx k hk) hf.size⟩
theorem drop_cons {α:Type} [Inhabited α] {xs:List α} {k:Nat} (h:k<xs.length):xs.drop k=xs[k]! ::xs.drop (k+1):=by
  rw [List.drop_eq_getElem_cons h,List.getElem!_eq_getElem?_getD,List.getElem?_eq_getElem h]
  rfl
theorem Sv.Fit.addAll {vars:Nat}:∀{ls:List (List Int)} {S:Sv} {V:Nat},S.Fit vars V→V+ls.length≤8388608→(∀c∈ls,Ra c)→(S.addAll ls).Fit vars (V+ls.length)
  |[],S,V,h,_,_=>h
  |c::r,S,V,h,hl,hr=>by
    simp only [List.length_cons] at hl⊢
    have :=Sv.Fit.addAll (h.add (by omega) (hr c List.mem_cons_self)) (by omega:V+1+r.length≤_) (fun d hd=>hr d (List.mem_cons_of_mem _ hd))
    rw [show V+(r.length+1)=V+1+r.length by omega]
    exact this
theorem Sv.Fit.new {b:Int} (h0:0≤b) (h1:b≤262143):(Sv.new b).Fit b.toNat 0:=by
  obtain ⟨k1,k2⟩:=Sv.Ok.new b
  obtain ⟨_,_,_,_,i5,i6,_⟩:=Sv.Inv.new b
  exact ⟨k1,by rw [k2];omega,by rw [i5];exact Nat.le_refl _,by rw [i6];exact Nat.zero_le _⟩
theorem OwnX.young {X:List Nat} {w w1 w2:World} {L:SvL} {S:Sv} (h:OwnX X w1 w2 L S) (hf:Fr [] w w1):OwnX X w w2 L S:=⟨h.own.old hf,h.fx⟩
theorem Stay.rdl {X:List Nat} {w w':World} (h:Stay X w w') {A:Option Addr} {hs:List Ls} (hr:RdL w A hs) (hx:∀k∈ybl A hs,k∈X):RdL w' A hs:=
  ⟨fun h0=>by
    obtain ⟨b,o,hA,hc⟩:=hr.1 h0
    exact ⟨b,o,hA,fun j hj=>h.cell (hc j hj) (hx _ (by rw [hA];simp [ybl,blks]))⟩,
   fun j hj=>⟨h.rd (hr.2 j hj).1 (fun k hk=>hx k (List.mem_append_right _ (List.mem_flatMap.2 ⟨_,mem_get hj,hk⟩))),(hr.2 j hj).2⟩⟩
theorem qbx_cells {w:World} {g:Nat} {H:Qh} {q:Qn} (h:At w g 30 (qvs H q)):
    w.cell? ⟨g,0,none⟩=some (.int .i64 q.C.mx)∧w.cell? ⟨g,1,none⟩=some (.slice H.H.iA q.C.ins.length H.H.iC)∧w.cell? ⟨g,2,none⟩=some (.slice H.H.lA q.C.lat.length H.H.lC)∧w.cell? ⟨g,3,none⟩=some (.slice H.H.oA q.C.outs.length H.H.oC)∧
    w.cell? ⟨g,4,none⟩=some (.slice H.H.bA q.C.bads.length H.H.bC)∧w.cell? ⟨g,5,none⟩=some (.slice H.H.vA q.C.invs.length H.H.vC)∧w.cell? ⟨g,6,none⟩=some (.slice H.H.gA q.C.ands.length H.H.gC)∧w.cell? ⟨g,7,none⟩=some (.slice H.H.nA q.C.nms.length H.H.nC)∧
    w.cell? ⟨g,8,none⟩=some (.slice H.aA q.am.length H.aC)∧w.cell? ⟨g,9,none⟩=some (.slice H.lA q.ls.length H.lC)∧w.cell? ⟨g,10,none⟩=some (.slice H.kA q.ks.length H.kC)∧
    w.cell? ⟨g,11,none⟩=some (.int .i64 q.bad)∧w.cell? ⟨g,12,none⟩=some (.int .i64 q.dep)∧w.cell? ⟨g,13,none⟩=some (.int .i64 q.bud):=by
  refine ⟨?_,?_,?_,?_,?_,?_,?_,?_,?_,?_,?_,?_,?_,?_⟩<;>(rw [h.cell];rfl)
def DlP (w:World) (H:Qh) (q:Qn) (S:Sv) (e:Ending) (w':World):Prop:=
  ∃(g:Nat) (L:SvL),e= .returned (.pointer (some ⟨g,0,none⟩))∧w.heap.size≤g∧At w' g 83 (dvs H q L.a)∧OwnX [g] w w' L S
set_option maxRecDepth 100000 in
theorem dlaid_calls (w:World) (H:Qh) (q:Qn) (hci:CiAt w H.H q.C) (hv:Valid q.C) (A:Option Addr) (c:Nat) (xs:List Lss) (hx:RdLs w A xs) (hA:∀k∈blks A,k<w.heap.size) (hxl:xs.length≤1024) (hra:∀l∈xs.flatMap Lss.cl,Ra l∧chkF (baU q.C 2).toNat l=0) (hl:(xs.flatMap Lss.cl).length≤8388608):
    Calls Tryz.prog 19 #[qval H q, .slice A xs.length c] w (DlP w H q ((Sv.new (baU q.C 2)).addAll (xs.flatMap Lss.cl))):=by
  obtain ⟨w1,hw1⟩:∃W,w.alloc (.cells (qvs H q) 30)=W:=⟨_,rfl⟩
  have hf1:Fr [] w w1:=hw1▸box_fr' _ _
  have HF1:=Lib.hid hf1
  have HQ1:Hid (At w1 w.heap.size 30 (qvs H q)):=hw1▸At.new _ _ _
  have h0:=baU_pos hv.m0 (f:=2) (by omega)
  have hb:baU q.C 2≤262143:=by
    have h1:=hv.m1
    unfold baU
    omega
  have KV:=Lib.hid (fun W (hW:Fr [] w1 W)=>uVars_calls W H.H q.C (hci.keep (hf1.then_ hW)) hv 2 (by omega))
  have KN:=Lib.hid (fun W=>own_new W (baU q.C 2) (by omega) (by omega))
  have HFIT:=Lib.hid (Sv.Fit.new h0 hb)
  obtain ⟨RES,hRES⟩:∃RES,(Sv.new (baU q.C 2)).addAll (xs.flatMap Lss.cl)=RES:=⟨_,rfl⟩
  rw [hRES]
  have HRES:=Lib.hid hRES
  obtain ⟨ba,hba⟩:∃ba,baU q.C 2=ba:=⟨_,rfl⟩
  simp only [hba] at KV KN HFIT HRES
  obtain ⟨SN,hSN⟩:∃SN,Sv.new ba=SN:=⟨_,rfl⟩
  simp only [hSN] at KN HFIT HRES
  rw [hba] at hra
  have HX:=Lib.hid hx
  have HA:=Lib.hid hA
  have HRA:=Lib.hid hra
  have HL:=Lib.hid hl
  obtain ⟨LP,hLP⟩:∃LP,DlP w H q RES=LP:=⟨_,rfl⟩
  rw [hLP]
  have FIN:Hid (∀(W:World) (g:Nat) (L:SvL),w.heap.size≤g→At W g 83 (dvs H q L.a)→OwnX [g] w W L RES→LP (.returned (.pointer (some ⟨g,0,none⟩))) W):=fun W g L k1 k2 k3=>by
    rw [←hLP]
    exact ⟨g,L,rfl,k1,k2,k3⟩
  have DAL:Hid (∀(X:List Nat) (W:World) (L:SvL) (S:Sv) (V g:Nat),OwnX X w W L S→S.Fit ba.toNat V→At W g 83 (dvs H q L.a)→g∈X→∀x:Lss,RdL W x.A x.hs→(∀k∈ybl x.A x.hs,k∈X)→(∀l∈x.cl,chkF ba.toNat l=0)→V+x.hs.length≤8388608→Calls Tryz.prog 20 #[.pointer (some ⟨g,0,none⟩), .slice x.A x.hs.length x.c] W fun e w'=>e= .returned (.tuple #[])∧∃L',L'.a=L.a∧OwnX X w w' L' (S.addAll x.cl)∧Stay X W w'):=fun X W L S V g k1 k2 k3 k4 x k5 k6 k7 k8=>
    dall_calls W L S k1 k2 g H q k3 k4 x.A x.c x.hs k5 (fun k hk=>k6 k (List.mem_append_left _ hk)) (fun y hy k hk=>k6 k (List.mem_append_right _ (List.mem_flatMap.2 ⟨y,hy,hk⟩))) (fun y hy=>k7 _ (List.mem_map.2 ⟨y,hy,rfl⟩)) k8
  have DV:Hid (∀a,dvs H q a=#[.int .i64 q.C.mx, .slice H.H.iA q.C.ins.length H.H.iC, .slice H.H.lA q.C.lat.length H.H.lC, .slice H.H.oA q.C.outs.length H.H.oC, .slice H.H.bA q.C.bads.length H.H.bC, .slice H.H.vA q.C.invs.length H.H.vC, .slice H.H.gA q.C.ands.length H.H.gC, .slice H.H.nA q.C.nms.length H.H.nC, .slice H.aA q.am.length H.aC, .slice H.lA q.ls.length H.lC, .slice H.kA q.ks.length H.kC, .int .i64 q.bad, .int .i64 q.dep, .int .i64 q.bud, .pointer (some ⟨a,0,none⟩)]):=fun a=>rfl
  clear hci hv hx hA hra hl hf1 h0 hb hRES hba hSN hLP
  have HQ:=Lib.hid (fun W (hW:Fr [] w1 W)=>qbx_cells (HQ1.out.keep hW))
  obtain ⟨DD,hDD⟩:∃DD,dvs H q=DD:=⟨_,rfl⟩
  simp only [hDD] at DV FIN DAL
  clear hDD
  obtain ⟨⟨mx,ins,lat,outs,bads,invs,ands,nms⟩,am,ls,ks,bad,dep,bud⟩:=q
  obtain ⟨⟨iA,iC,lA,lC,oA,oC,bA,bC,vA,vC,gA,gC,nA,nC⟩,aA,aC,mA,mC,kA,kC⟩:=H
  simp only [qval,qvs,cval,cvs] at *
  go_enter Tryz.func19,Tryz.ntmps19
  go_upto_region 1 with fail
  clear hw1
  refine wp_region_noPanic ?_
  refine wp_region_C (fun w':World=>Fr [] w1 w') 6 (by kernel_rfl) ((Fr.refl _ w1).drew) (fun hT0=> ?_)
  apply TB 3 [(0,[0,5,6]),(1,[]),(2,[2,3,4,5,6])];kernel_rfl;rfl;· (repeat (apply TBc;rfl;rfl;(· intro w hSw;(try (have hSw:=hSw.resolve_left (List.cons_ne_nil _ _);(obtain ⟨q0,q1,q2,q3,q4,q5,q6,q7,q8,q9,q10,q11,q12,q13⟩:=HQ.out _ hSw)));go_simp<;>with_reducible rfl);try simp only [Act.put,q5,q6,q7]));exact TBn
  exact hT0;intro hT0
  refine R2 3 (by kernel_rfl) (by rfl) hT0 fun K hK hSx=> ?_
  (go_simp;refine (KV.out _ hSx).mono ?_;rintro e w3 ⟨rfl,hf3⟩;dsimp only);have HF3:=Lib.hid hf3;clear hf3
  refine hK.out _ _ (.inr ?_) (fun hT4=> ?_)
  · first |exact hSx.then_ HO4.out.fr |exact hSx.then_ HF3.out |exact hSx
  clear hK K
  try simp only [Act.put,q5,q6,q7]
  refine R2 4 (by kernel_rfl) (by rfl) hT4 fun K hK hSx=> ?_
  (have HS3:=Lib.hid hSx;go_simp;refine (KN.out _).mono ?_;rintro e w4 ⟨L4,rfl,ho4⟩;dsimp only);have HO4:=Lib.hid ho4;clear ho4
  refine hK.out _ _ (.inr ?_) (fun hT5=> ?_)
  · first |exact hSx.then_ HO4.out.fr |exact hSx.then_ HF3.out |exact hSx
  clear hK K
  try simp only [Act.put,q5,q6,q7]
  apply TB 1 [(5,[])];kernel_rfl;rfl;· (repeat (apply TBc;rfl;rfl;(· intro w hSw;go_simp<;>with_reducible rfl);try simp only [Act.put,q5,q6,q7]));exact TBn
  exact hT5;intro hT5
  refine R2 6 (by kernel_rfl) (by rfl) hT5 fun K hK hSx=> ?_
  (have HSX:=Lib.hid hSx;go_simp)
  refine hK.out _ _ (.inl rfl) (fun hT7=> ?_)
  clear hK K
  try simp only [Act.put,q5,q6,q7]
  refine R1 (i:=7) (o:= ?or1u8) (by kernel_rfl) (by rfl) ?_
  intro K hK
  go_simp
  refine hK.out _ _ (.inl rfl) (fun hT8=> ?_)
  clear hK K
  try simp only [Act.put,q5,q6,q7]
  refine wpAnyC_done (by kernel_rfl) ?_ _
  refine NoPanic.normal ?_
  obtain ⟨w5,hw5⟩:∃W,w4.alloc (.cells #[.int .i64 mx, .slice iA ins.length iC, .slice lA lat.length lC, .slice oA outs.length oC, .slice bA bads.length bC, .slice vA invs.length vC, .slice gA ands.length gC, .slice nA nms.length nC, .slice aA am.length aC, .slice mA ls.length mC, .slice kA ks.length kC, .int .i64 bad, .int .i64 dep, .int .i64 bud, .pointer (some ⟨L4.a,0,none⟩)] 83)=W:=⟨_,rfl⟩
  rw [hw5]
  have hf5:Fr [] w4 w5:=hw5▸box_fr' _ _
  have hs5:w5.heap.size=w4.heap.size+1:=by rw [←hw5];simp
  have HD5:Hid (At w5 w4.heap.size 83 (DD L4.a)):=by
    show At _ _ _ _
    rw [DV.out,←hw5]
    exact At.new _ _ _
  have hw3:=HF1.out.then_ HS3.out
  have hw4:=hw3.then_ HO4.out.fr
  have ho5:OwnX [w4.heap.size] w w5 (L4.shut w4) SN:=((HO4.out.mark hf5 (Y:=[w4.heap.size]) (fun k hk=>by simp at hk;omega))).young hw3
  obtain ⟨X,hXX⟩:∃X:List Nat,X=[w4.heap.size]++(blks A++xs.flatMap fun x=>ybl x.A x.hs):=⟨_,rfl⟩
  have HO5:Hid (OwnX X w w5 (L4.shut w4) SN):=by
    show OwnX _ _ _ _ _
    rw [hXX]
    refine ho5.old (fun k hk=> ?_)
    rcases List.mem_append.1 hk with h1 |h1
    · exact HA.out k h1
    · obtain ⟨x,hx,h2⟩:=List.mem_flatMap.1 h1
      exact HX.out.old x hx k h2
  have HX5:=Lib.hid (HX.out.keep (hw4.then_ hf5))
  have HXA:Hid (∀k∈blks A,k∈X):=fun k hk=>by rw [hXX];exact List.mem_append_right _ (List.mem_append_left _ hk)
  have HXX:Hid (∀x∈xs,∀k∈ybl x.A x.hs,k∈X):=fun x hx k hk=>by rw [hXX];exact List.mem_append_right _ (List.mem_append_right _ (List.mem_flatMap.2 ⟨x,hx,hk⟩))
  have HXG:Hid (w4.heap.size∈X):=by show _∈_;rw [hXX];simp
  have HXL:=Lib.hid (fun k hk=>(HO5.out.fx k hk).1)
  obtain ⟨g,hg⟩:∃g,w4.heap.size=g:=⟨_,rfl⟩
  have HGN:Hid (w.heap.size≤g):=hg▸hw4.size
  obtain ⟨a4,ha4⟩:∃a,L4.a=a:=⟨_,rfl⟩
  have HA5:Hid ((L4.shut w4).a=a4):=ha4
  rw [hg] at HD5 HXG⊢
  rw [ha4] at HD5⊢
  clear hw5 hf5 hs5 hw3 hw4 ho5 hXX hg ha4 HSX HO4 HS3 hSx HQ HQ1 KV KN
  try clear hT0
  go_wp2_with fail
  go_loopg [17] xs.length (fun gg x17 wr=>∃(k:Nat) (L:SvL) (S:Sv) (V:Nat),k+gg=xs.length∧x17= .int .i64 k∧Hid (L.a=a4)∧Hid (OwnX X w wr L S)∧Hid (Stay X w5 wr)∧Hid (S.Fit ba.toNat V∧V+((xs.drop k).flatMap Lss.cl).length≤8388608)∧Hid (S.addAll ((xs.drop k).flatMap Lss.cl)=RES))
  case atStart=>exact ⟨0,L4.shut w4,SN,0,by omega,rfl,HA5,HO5,Stay.of (Fr.refl _ w5),⟨HFIT.out,by rw [List.drop_zero,Nat.zero_add];exact HL.out⟩,HRES⟩
  case round=>
    clear HA5 HO5 HFIT HRES
    obtain ⟨k,L,S,V,hk,rfl,HLA,HOW,HST,HFT,HRS⟩:=hrel
    have HK:=Lib.hid hk
    have hkn:k≤xs.length:=by omega
    clear hk
    have HDR:Hid (At wr g 83 (DD L.a)):=by
      show At _ _ _ _
      rw [HLA.out]
      exact HST.out.at_ HD5.out HXG.out
    by_cases hlt:k<xs.length
    · obtain ⟨b,o,hA,hc⟩:=HX5.out.cells (by omega)
      have cx:=HST.out.cell (hc k hlt) (HXA.out b (by rw [hA];simp [blks]))
      subst hA
      have hxm:xs[k]! ∈xs:=mem_get hlt
      have hdr:=drop_cons hlt
      obtain ⟨x,hx⟩:∃x,xs[k]! =x:=⟨_,rfl⟩
      rw [hx] at cx hxm hdr
      have hft:=HFT.out
      rw [hdr,List.flatMap_cons,List.length_append] at hft
      have hrs:=HRS.out
      rw [hdr,List.flatMap_cons,Sv.addAll_app] at hrs
      have hcl:x.cl.length=x.hs.length:=List.length_map ..
      have hxr:∀l∈x.cl,Ra l∧chkF ba.toNat l=0:=fun l hl=>HRA.out l (List.mem_flatMap.2 ⟨x,hxm,hl⟩)
      have KD:=Lib.hid (DAL.out X wr L S V g HOW.out hft.1 HDR.out HXG.out x (HST.out.rdl (HX5.out.rd x hxm) (HXX.out x hxm)) (HXX.out x hxm) (fun l hl=>(hxr l hl).2) (by omega))
      have HF2:Hid ((S.addAll x.cl).Fit ba.toNat (V+x.cl.length)∧V+x.cl.length+((xs.drop (k+1)).flatMap Lss.cl).length≤8388608):=⟨hft.1.addAll (by omega) (fun l hl=>(hxr l hl).1),by omega⟩
      have HR2:=Lib.hid hrs
      obtain ⟨xA,xc,xh⟩:=x
      simp only [Lss.val] at cx KD
      clear hc hxm hdr hx hft hrs hcl hxr
      go_wp2_with fail
      refine KD.out.mono ?_
      clear KD
      rintro e w6 ⟨rfl,L6,hL6,h6,s6⟩
      have HL6:=Lib.hid (hL6.trans HLA.out)
      have H6:=Lib.hid h6
      have HS6:=Lib.hid (HST.out.then_ s6 HXL.out)
      clear hL6 h6 s6 cx HDR
      go_wp2_with fail
      go_roundg (gk-1)
      case measure=>have :=HK.out;omega
      case rel=>exact ⟨k+1,L6,_,_,by have :=HK.out;omega,by go_num,HL6,H6,HS6,HF2,HR2⟩
    · obtain rfl :k=xs.length:=by omega
      have hrs:=HRS.out
      rw [List.drop_length] at hrs
      have HSR:Hid (S=RES):=hrs
      have HFF:=Lib.hid (FIN.out wr g L HGN.out HDR.out ((HSR.out▸HOW.out).less (fun j hj=>by simp at hj;subst hj;exact HXG.out)))
      clear HK hrs
      go_wp2_with fail
      exact HFF.out
def Lrow (w:World) (A:Option Addr) (c:Nat) (hs:List Ls):Prop:=w.ownsRow 0 22 1 (.slice A hs.length c) hs.length (hs.map Ls.val)
namespace Lrow
variable {w w':World} {A:Option Addr} {c:Nat} {hs:List Ls}
theorem form (h:Lrow w A c hs):(A=none∧c=0∧hs=[])∨∃g,A=some ⟨g,0,none⟩∧g<w.heap.size∧hs.length≤c:=by
 rcases h.2 with ⟨h1,h2⟩ |⟨g,cap,cur,hv,_,hg,hn,hm,_⟩
 ·simp only [Value.slice.injEq] at h1
  exact .inl ⟨h1.1,h1.2.2,List.eq_nil_of_length_eq_zero h2⟩
 ·simp only [Value.slice.injEq,true_and] at hv
  obtain ⟨rfl,rfl⟩:=hv
  exact .inr ⟨g,rfl,At.lt (t:=22) hg,hn⟩
theorem nil (w:World):Lrow w none 0 []:=World.ownsRow_nil w 0 _ 1
theorem rdl (h:Lrow w A c hs) (ok:∀j:Nat,j<hs.length→OkL w hs[j]!):RdL w A hs:=by
 refine ⟨fun h0=> ?_,ok⟩
 rcases h.form with ⟨_,_,rfl⟩ |⟨g,rfl,h1,h2⟩
 ·simp at h0
 ·refine ⟨g,0,rfl,fun j hj=> ?_⟩
  rw [Nat.zero_add,World.ownsRow.cellAt h _ (by omega)]
  simp only [List.getElem?_map,List.getElem?_eq_getElem hj,Option.map_some,List.getElem!_eq_getElem?_getD,Option.getD_some]
end Lrow
theorem run_append_lists (w:World) (ty:TypeId) (A:Option Addr) (c:Nat) (hs:List Ls) (hown:Lrow w A c hs) (B:Option Addr) (d:Nat) (ms:List Ls) (hB:B=none→ms=[]∧d=0)
  (hr:0<ms.length→∃b o,B=some ⟨b,o,none⟩∧∀j:Nat,j<ms.length→w.cell? ⟨b,o+j,none⟩=some (ms[j]!).val) (hlen:hs.length+ms.length≤4194304):
  ∃A' cap w',(Builtin.append_ #[28,28] ty #[.slice A hs.length c, .slice B ms.length d]).run Tryz.prog w= .ok (.slice A' (hs.length+ms.length) cap) w'∧Lrow w' A' cap (hs++ms)∧Fr (blks A) w w'∧(∀k,k∈blks A'→k∈blks A∨k=w.heap.size)∧w.heap.size≤w'.heap.size:=by
 cases B with
 |none=>
  obtain ⟨rfl,rfl⟩:=hB rfl
  obtain ⟨i0,hi,hz0,hz1,hz2⟩:=info_parts infoInts
  have hc:hs.length≤c:=by
   rcases hown.form with ⟨_,_,rfl⟩ |⟨_,_,_,h1⟩
   ·simp
   ·exact h1
  have hrun:(Builtin.append_ #[28,28] ty #[.slice A hs.length c, .slice none 0 0]).run Tryz.prog w= .ok (.slice A hs.length c) w:=by
   cases A<;>simp [Builtin.append_,run_underlying Tryz.underlying28,sizeOf,typeInfo,hi,Builtin.lenOf,hc,Builtin.firstCells,loadCells,storeCells]
  exact ⟨A,c,w,by rw [List.length_nil,Nat.add_zero];exact hrun,by rw [List.append_nil];exact hown,Fr.refl _ _,fun k hk=> .inl hk,Nat.le_refl _⟩
 |some ad=>
  obtain ⟨A',cap,w',hrun,h2,h3,h4,h5,h6,h7⟩:=run_append_row w 28 ty 22 (.slice none 0 0) 1 24 Tryz.underlying28 infoInts rfl (by decide) A c hs.length (hs.map Ls.val) hown ad ms.length d (ms.map Ls.val) (by simp) (fun j u hu=>by
   simp only [List.getElem?_map,Option.map_eq_some_iff] at hu
   obtain ⟨y,hy,rfl⟩:=hu
   have hj:=(List.getElem?_eq_some_iff.1 hy).1
   obtain ⟨b,o,hbo,hx⟩:=hr (by omega)
   cases hbo
   have :=hx j hj
   rw [List.getElem!_eq_getElem?_getD,hy] at this
   rw [addr_add]
   exact this) (by
    intro u hu
    obtain ⟨y,_,rfl⟩:=List.mem_map.1 hu
    rfl) (by unfold maxLen;omega) (by omega)
  refine ⟨A',cap,w',hrun,?_,h3,h4,h5⟩
  unfold Lrow
  rw [List.length_append,List.map_append]
  exact h2
theorem wpList_append_lists (w:World) {ops:Array Oper} {rest:List Oper} {o:Oper} {a:Act} {Q:Exit→Act→World→Prop} (hgd:o.guard=none) (s x:Operand)
  (ho:o.op= .call { callee:= .builtin .append,args:=#[s,x],argTypes:=#[28,28] }) (A:Option Addr) (c:Nat) (hs:List Ls) (n:Nat) (hsv:a.eval s= .slice A n c) (hn:n=hs.length) (hown:Lrow w A c hs)
  (B:Option Addr) (d:Nat) (ms:List Ls) (m:Nat) (hx:a.eval x= .slice B m d) (hm:m=ms.length) (hB:B=none→ms=[]∧d=0)
  (hr:0<ms.length→∃b o,B=some ⟨b,o,none⟩∧∀j:Nat,j<ms.length→w.cell? ⟨b,o+j,none⟩=some (ms[j]!).val) (hlen:hs.length+ms.length≤4194304)
  (h:∀A' cap w',Lrow w' A' cap (hs++ms)→Fr (blks A) w w'→(∀k,k∈blks A'→k∈blks A∨k=w.heap.size)→w.heap.size≤w'.heap.size→wpList Tryz.prog ops Q rest (a.put o.dst (.slice A' (n+m) cap)) w'):
  wpList Tryz.prog ops Q (o::rest) a w:=by
 subst hn hm
 refine wpList_plain hgd fun K hK=> ?_
 obtain ⟨A',cap,w',hrun,h2,h3,h4,h5⟩:=run_append_lists w o.type A c hs hown B d ms hB hr hlen
 unfold Oper.wp execOp
 simp only [ho,resolve,invoke,builtin,Sem.run_bind,Sem.run_pure,Result.andThen_ok,List.map_toArray,List.map_cons,List.map_nil,hsv,hx,hrun]
 exact hK _ _ (h A' cap w' h2 h3 h4 h5)
theorem clonel_calls (w:World) (A:Option Addr) (c:Nat) (hs:List Ls) (h:RdL w A hs) (hn:A=none→c=0) (hl:hs.length≤2097152):
  Calls Tryz.prog 18 #[.slice A hs.length c] w fun e w'=>∃A' c',e= .returned (.slice A' hs.length c')∧Lrow w' A' c' hs∧(∀k,k∈blks A'→w.heap.size≤k)∧Fr [] w w':=by
 cases A with
 |none=>
  have h0:hs.length=0:=by
   rcases Nat.eq_zero_or_pos hs.length with h5 |h5
   ·exact h5
   ·obtain ⟨b,o,hA,_⟩:=h.1 h5
    cases hA
  obtain rfl :hs=[]:=List.eq_nil_of_length_eq_zero h0
  obtain rfl :=hn rfl
  have he:∀w:World,(binOp .eql 28 (.slice none 0 0) (.slice none 0 0)).run Tryz.prog w= .ok (.bool true) w:=fun w=>Lib.run_eql_slice_nil w _ _ _ _ _ _ _ Tryz.underlying28
  have e0:([]:List Ls).length=0:=rfl
  rw [e0]
  clear h hn h0
  go_enter Tryz.func18,Tryz.ntmps18
  go_wp2_with fail
  go_ret
  exact ⟨none,0,rfl,Lrow.nil _,by simp [blks],Fr.refl _ _⟩
 |some ad=>
  have he:∀w:World,(binOp .eql 28 (.slice (some ad) hs.length c) (.slice none 0 0)).run Tryz.prog w= .ok (.bool false) w:=fun w=>Lib.run_eql_slice_nil w _ _ _ _ _ _ _ Tryz.underlying28
  have HC:=Lib.hid ((h.keep (box_fr' w (.cells #[] 22))).1)
  have HE:Hid (Lrow (w.alloc (.cells #[] 22)) (some ⟨w.heap.size,0,none⟩) 0 []):=World.ownsRow_lit w #[] 0 (Nat.zero_le _) (by simp [maxLen]) (by simp)
  clear h hn
  go_enter Tryz.func18,Tryz.ntmps18
  go_wp2_with (at_builtin;(refine wpList_append_lists _ rfl _ _ rfl (some ⟨w.heap.size,0,none⟩) 0 [] 0 rfl rfl HE.out (some ad) c hs hs.length rfl rfl (fun h=>by cases h) HC.out (by simp;omega) ?_;intro A2 c2 w2 hr2 hf2 hb2 hs2;have HR2:=Lib.hid hr2;have HF2:=Lib.hid hf2;have HB2:=Lib.hid hb2;clear hr2 hf2 hb2 hs2))
  go_ret
  refine ⟨A2,c2,by simp,HR2.out,fun k hk=> ?_,?_⟩
  ·rcases HB2.out k hk with h |h
   ·simp [blks] at h;omega
   ·rw [h];simp
  ·exact ((Fr.refl [] w).alloc _).trans HF2.out (fun k hk=> .inr (by simp [blks] at hk;omega))
theorem lit_cell (W:World) (v:Value) (t:TypeId):(W.alloc (.cells #[v] t)).cell? ⟨W.heap.size,0,none⟩=some v:=(At.new W t #[v]).cell 0
theorem rightI_ok {q:Qn} {L:List (List Int)} (h:rightI q L=0) (hra:∀c∈L,Ra c):unI q=0∧L.length≤1024∧∀c∈L,Lfine q.C c:=by
 unfold rightI at h
 by_cases h0:unI q=0
 ·rw [if_neg (by simpa using h0)] at h
  by_cases h1:1024<(L.length:Int)
  ·rw [if_pos h1] at h;cases h
  ·rw [if_neg h1] at h
   by_cases h2:(L.any (ukB q.C))=true
   ·rw [if_pos h2] at h;cases h
   ·refine ⟨h0,by omega,fun c hc=> ?_⟩
    have h3:chkF (q.C.lat.length:Int) c=0:=by
     by_cases h4:chkF (q.C.lat.length:Int) c=0
     ·exact h4
     ·exact absurd (List.any_eq_true.2 ⟨c,hc,by unfold ukB;simpa using h4⟩) h2
    obtain ⟨k1,k2⟩:=Sv.chk_rng (hra c hc) h3
    exact ⟨by unfold chkF at h3;split at h3<;>omega,fun x hx=>by have :=k2 x hx;omega⟩
 ·rw [if_pos (by simpa using h0)] at h
  exact absurd h h0
def ltW (C:Pc):List Int:=(List.range C.lat.length).flatMap fun i=>[((lvar C i:Nat):Int),-((lvar C i:Nat):Int)]
theorem laU_ltW {C:Pc} (hv:Valid C) {n:Int} (hn:n≠0∧ -(C.lat.length:Int)≤n∧n≤C.lat.length):laU C 0 n∈ltW C:=by
 have hl64:=hv.l
 have ht:1≤tv n∧tv n≤C.lat.length:=by unfold tv;omega
 refine List.mem_flatMap.2 ⟨(tv n-1).toNat,List.mem_range.2 (by omega),?_⟩
 have :=laU_lvar hv hn
 rw [this]
 split<;>simp
def lsU (C:Pc) (ls:List (List Int)):List (List Int):=ls.map fun l=>l.map (laU C 0)
theorem lsU_in {C:Pc} (hv:Valid C) {ls:List (List Int)} (hl:∀c∈ls,Lfine C c):∀c∈lsU C ls,InV (baU C 1) c∧∀x∈c,x∈ltW C:=fun c hc=>by
 obtain ⟨l,hll,rfl⟩:=List.mem_map.1 hc
 have hf:=hl l hll
 refine ⟨⟨by rw [List.length_map];exact hf.1,fun x hx=> ?_⟩,fun x hx=> ?_⟩
 ·obtain ⟨n,hn,rfl⟩:=List.mem_map.1 hx
  exact laU_in hv (f:=0) (by omega) (hf.2 n hn)
 ·obtain ⟨n,hn,rfl⟩:=List.mem_map.1 hx
  exact laU_ltW hv (hf.2 n hn)
theorem ba2 {C:Pc} (hv:Valid C):0≤baU C 2∧baU C 2≤262143∧baU C 1≤baU C 2:=by
 have h1:=hv.m1
 have h0:=hv.m0
 unfold baU
 omega
end Go.Proofs.YtjmmpfjcpdepjaaGreatDoor
