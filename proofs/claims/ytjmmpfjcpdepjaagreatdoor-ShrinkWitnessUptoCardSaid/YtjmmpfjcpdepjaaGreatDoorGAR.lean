/- Parts of a proof. -/
import Derived.Test.YtjmmpfjcpdepjaaGreatDoorGAQ
import Derived.Shelf.SlicesE.Delete
set_option linter.unusedVariables false
set_option linter.unusedSimpArgs false
set_option maxHeartbeats 16000000
set_option maxRecDepth 100000
namespace Go.Proofs.YtjmmpfjcpdepjaaGreatDoor
open Go.RowKit Go.Shelf Go.Sort
def layDel_ren:Go.Shelf.Ren:=⟨fun |45=>59 |n=>n,fun |22=>28 |23=>22 |3=>3 |0=>0 |4=>4 |n=>n,fun |n=>n⟩
theorem layDel:Go.Proofs.SlLaysE.n45 Tryz.prog layDel_ren:={
 mixed:=by kernel_rfl
 f45:=⟨Tryz.f59.name,by decide,Tryz.func59.trans (congrArg some (by kernel_rfl))⟩
 t0:=Tryz.underlying0
 a0:=Tryz.isAgg0
 z0:=Tryz.sizeOf0
 v0:=Tryz.zeroValue0
 t3:=Tryz.underlying3
 a3:=Tryz.isAgg3
 z3:=Tryz.sizeOf3
 v3:=Tryz.zeroValue3
 t4:=Tryz.underlying4
 a4:=Tryz.isAgg4
 z4:=Tryz.sizeOf4
 v4:=Tryz.zeroValue4
 t22:=Tryz.underlying28
 a22:=Tryz.isAgg28
 z22:=Tryz.sizeOf28
 v22:=Tryz.zeroValue28
 a23:=Tryz.isAgg22
 z23:=Tryz.sizeOf22 }
theorem putrow_row {α:Type} [Inhabited α] (enc:α→Value) (t:TypeId) (w:World) (g q:Nat) (d:Array α) (cur:Array Value) (hg:w.heap[g]? =some (.cells cur t (0,0))):(putRow enc (Sort.ahead w q) g 0 d).heap[g]? =some (.cells (putCells enc 0 d cur) t (0,0)):=by
 unfold putRow mapBlock Sort.ahead
 simp only
 rw [Array.getElem?_modify,if_pos rfl,hg]
 rfl
theorem putrow_fr {α:Type} [Inhabited α] (enc:α→Value) (w:World) (g q:Nat) (d:Array α):Fr [g] w (putRow enc (Sort.ahead w q) g 0 d):=by
 unfold putRow mapBlock Sort.ahead
 refine ⟨rfl,rfl,rfl,by simp,fun k hk hn=> ?_⟩
 simp only
 rw [Array.getElem?_modify,if_neg (fun e=>hn (by simp [e]))]
theorem ldel_calls (w:World) (g c:Nat) (hs:List Ls) (h:Lrow w (some ⟨g,0,none⟩) c hs) (i:Nat) (hi:i<hs.length) (hl:hs.length≤2097152):
  Calls Tryz.prog 59 #[.slice (some ⟨g,0,none⟩) hs.length c, .int .i64 i, .int .i64 ((i:Int)+1)] w fun e w'=>e= .returned (.slice (some ⟨g,0,none⟩) (hs.eraseIdx i).length c)∧Lrow w' (some ⟨g,0,none⟩) c (hs.eraseIdx i)∧Fr [g] w w':=by
 have hsz:hs.toArray.size=hs.length:=by simp
 have hH:Holds Ls.val w g 0 hs.toArray:=fun j hj=>by
  have hj':j<hs.length:=by omega
  rw [Nat.zero_add]
  refine ⟨?_,World.ownsRow.frozenAt h j⟩
  rw [World.ownsRow.cellAt h _ (by omega)]
  simp only [List.getElem?_map,List.getElem?_eq_getElem hj',Option.map_some,List.getElem!_toArray,List.getElem!_eq_getElem?_getD,Option.getD_some]
 obtain ⟨i0,hi0,hz0,hz1,hz2⟩:=info_parts infoInts
 have hcap:hs.length≤c∧c≤9223372036854775807:=by
  rcases h.2 with ⟨h1,_⟩ |⟨g',cap,cur,hv,hb,hg,hn,hm,hsc,ht⟩
  ·cases h1
  ·simp only [Value.slice.injEq,true_and] at hv
   obtain ⟨_,rfl⟩:=hv
   exact ⟨hn,hm⟩
 have hcon:=AnyE.slices_Delete layDel Ls.val (fun _=>rfl) ⟨none,0,[]⟩ Tryz.zeroValue22 i0 hi0 hz1 g 0 c i (i+1) hs.toArray w hH (by omega) hcap.2 (by omega) (by omega)
 change Calls Tryz.prog 59 _ _ _ at hcon
 rw [hsz] at hcon
 have hlen:(hs.eraseIdx i).length=hs.length-1:=List.length_eraseIdx_of_lt hi
 refine (show Calls Tryz.prog 59 #[.slice (some ⟨g,0,none⟩) hs.length c, .int .i64 i, .int .i64 ((i:Int)+1)] w _ from hcon).mono ?_
 rintro e w' ⟨rfl,q,rfl⟩
 refine ⟨by rw [hlen,show i+1-i=1 by omega],?_,putrow_fr _ _ _ _ _⟩
 rcases h.2 with ⟨h1,_⟩ |⟨g',cap,cur,hv,hb,hg,hn,hm,hsc,ht⟩
 ·cases h1
 ·simp only [Value.slice.injEq,Option.some.injEq,Addr.mk.injEq,and_true,true_and] at hv
  obtain ⟨rfl,rfl⟩:=hv
  refine ⟨by simp, .inr ⟨g,c,_,rfl,Nat.zero_le _,putrow_row _ _ w g q _ cur hg,by omega,hm,by simp [putCells,hsc],?_⟩⟩
  apply List.ext_getElem?
  intro k
  rw [Nat.mul_one,hlen]
  have hcs:cur.size=c:=by omega
  by_cases hk:k<hs.length-1
  ·rw [List.getElem?_take,if_pos hk]
   have hkc:k<cur.size:=by omega
   have hds:(hs.take i++hs.drop (i+1)++List.replicate (i+1-i) (⟨none,0,[]⟩:Ls)).length=hs.length:=by simp;omega
   have hke:k<(hs.eraseIdx i).length:=by omega
   have he:hs.eraseIdx i=hs.take i++hs.drop (i+1):=List.eraseIdx_eq_take_drop_succ ..
   have h1:(hs.take i++hs.drop (i+1)++List.replicate (i+1-i) (⟨none,0,[]⟩:Ls))[k]? =some (hs.eraseIdx i)[k]:=by
    rw [←he,List.getElem?_append_left hke,List.getElem?_eq_getElem hke]
   simp only
   generalize hs.take i++hs.drop (i+1)++List.replicate (i+1-i) (⟨none,0,[]⟩:Ls)=D at h1 hds⊢
   have hkD:k<D.length:=by omega
   simp [putCells,hkc,hkD,hke]
   rw [(List.getElem?_eq_some_iff.1 h1).2]
  ·rw [List.getElem?_take,if_neg hk,List.getElem?_eq_none (by rw [List.length_map,hlen];omega)]
theorem lists_calls (w:World) (A:Option Addr) (c:Nat) (ls:List Ls) (hr:RdL w A ls) (hb:∀x∈ls,x.l.length≤1048576) (hn:ls.length≤1024):
  Calls Tryz.prog 58 #[.slice A ls.length c] w fun e w'=>∃A' c' hs,e= .returned (.slice A' hs.length c')∧NwLs w' w.heap.size A' c' hs∧hs.map (·.l)=ls.map (·.l)∧Fr [] w w':=by
 have KO:=Lib.hid (fun W (hW:Fr [] w W) A c l hr (hn:A=none→c=0) (hl:l.length<17592186044416)=>clone_rd W A c l hr hn hl)
 have HR:=Lib.hid hr
 have HFN:=Lib.hid hb
 clear hr hb
 go_enter Tryz.func58,Tryz.ntmps58
 go_wp2_with fail
 go_loopg [3,8] ls.length (fun gk x3 x8 wr=>∃(k:Nat) (A':Option Addr) (c':Nat) (hs:List Ls),k+gk=ls.length∧x3= .slice A' hs.length c'∧x8= .int .i64 k∧Hid (NwLs wr w.heap.size A' c' hs)∧Hid (hs.map (·.l)=(ls.map (·.l)).take k)∧Hid (Fr [] w wr))
 case atStart=>exact ⟨0,none,0,[],by omega,rfl,rfl,NwLs.nil _ _,rfl,Fr.refl _ _⟩
 case round=>
  obtain ⟨k,A',c',hs,hk,rfl,rfl,HN,HE,HF⟩:=hrel
  have HK:=Lib.hid hk
  have hkn:k≤ls.length:=by omega
  have hsl:hs.length≤k:=by
   have :=HN.out.len_le HE.out
   rw [List.length_take,List.length_map] at this
   omega
  clear hk
  by_cases hlt:k<ls.length
  ·obtain ⟨ab,o,B1,d1,l1,hA,he,hc1,hokl⟩:=(HR.out.keep HF.out).one hlt
   subst hA
   have hml:k<(ls.map (·.l)).length:=by rw [List.length_map];exact hlt
   have HMX:=Lib.hid (take_snoc (ls.map (·.l)) k hml)
   have hge:(ls.map (·.l))[k]! =l1:=by
    have :=he.out
    rw [List.getElem!_eq_getElem?_getD,List.getElem?_eq_getElem hlt] at this
    simp only [Option.getD_some] at this
    rw [List.getElem!_eq_getElem?_getD,List.getElem?_map,List.getElem?_eq_getElem hlt]
    simp [this]
   rw [hge] at HMX
   have hl1:l1.length≤1048576:=by
    have :=HFN.out (ls[k]!) (mem_get hlt)
    rw [he.out] at this
    exact this
   have HRL:=Lib.hid hokl.2.1
   have KCX:=Lib.hid (KO.out wr HF.out B1 d1 l1 hokl.1 (fun e=>(hokl.2.2.2 e).2) (by omega))
   clear hml hge hokl
   go_wp2_with fail
   refine KCX.out.mono ?_
   rintro e w3 ⟨B2,d2,rfl,hi2,hn2,hf2⟩
   have HI2:=Lib.hid hi2
   have HN2:=Lib.hid hn2
   have HF2:=Lib.hid hf2
   clear hi2 hn2 hf2 KCX
   obtain ⟨wb,hwb⟩:∃W,w3.alloc (.cells #[.slice B2 l1.length d2] 22)=W:=⟨_,rfl⟩
   have HFB:Hid (Fr [] w3 wb):=hwb▸box_fr' _ _
   have HL1:=Lib.hid (HI2.out.fr HFB.out (fun _ _ hm=>by cases hm))
   have hcb:wb.cell? ⟨w3.heap.size,0,none⟩=some (.slice B2 l1.length d2):=by
    have :=(At.new w3 22 #[.slice B2 l1.length d2]).cell 0
    rw [hwb] at this
    simpa using this
   have HCB:=Lib.hid hcb
   have HWS:Hid (w.heap.size≤wr.heap.size):=HF.out.size
   clear hcb
   go_wp2_with (at_builtin;(refine wpList_pushU _ rfl _ _ rfl A' c' hs (HN.out.keep HF2.out) HFB.out (Nat.le_trans HWS.out (Nat.le_trans HF2.out.size HFB.out.size)) hs.length rfl rfl ⟨w3.heap.size,0,none⟩ 1 1 [⟨B2,d2,l1⟩] rfl rfl (fun j hj=>by (have :j=0:=by simpa using hj);subst this;rw [addr_add];exact HCB.out) (fun h hh=>by (have :=List.mem_singleton.1 hh);subst this;exact ⟨HL1.out,HRL.out,hl1,fun k hk=>Nat.le_trans HWS.out (HN2.out k hk)⟩) (by simp;omega) ?_;intro A4 c4 w4 hn4 hf4;have HN4:=Lib.hid hn4;have HF4:=Lib.hid (((HF.out.then_ HF2.out).then_ HFB.out).trans hf4 (fun k hk=> .inr (HN.out.new k hk)));clear hn4 hf4))
   clear hwb
   go_roundg (gk-1)
   case measure=>have :=HK.out;omega
   case rel=>exact ⟨k+1,A4,c4,hs++[(⟨B2,d2,l1⟩:Ls)],by have :=HK.out;omega,by simp,by go_num,HN4.out,(by rw [List.map_append,HE.out,HMX.out];rfl :_=_),HF4.out⟩
  ·obtain rfl :k=ls.length:=by omega
   have HE2:Hid (hs.map (·.l)=ls.map (·.l)):=by
    have :=HE.out
    rw [List.take_of_length_le (by rw [List.length_map];exact Nat.le_refl _)] at this
    exact this
   clear HK HE
   go_wp2_with fail
   go_ret
   exact ⟨A',c',hs,rfl,HN.out,HE2.out,HF.out⟩
end Go.Proofs.YtjmmpfjcpdepjaaGreatDoor
namespace Go.Proofs.YtjmmpfjcpdepjaaGreatDoor
open Go.RowKit Go.Shelf
def bvC:Pc:=⟨1,[],[⟨2,2,0⟩],[],[2],[],[],[]⟩
def bvQ:Qn:=⟨bvC,[],[],[],0,0,0⟩
theorem bvC_valid:Valid bvC where
 m0:=by decide
 m1:=by decide
 i:=by decide
 l:=by decide
 n:=by decide
 lat:=fun j hj=>by
  have hj0:j=0:=by
   have :j<1:=hj
   omega
  subst hj0
  decide+kernel
 ands:=fun j hj=>absurd hj (Nat.not_lt_zero _)
 own:=fun j hj=>by
  have h1:(ownL bvC).length=1:=by decide+kernel
  have hj0:j=0:=by omega
  subst hj0
  decide+kernel
 o:=by decide
 b:=by decide
 v:=by decide
theorem bvQ_ok:unI bvQ=0:=by
 unfold unI
 rw [if_neg (fun h=>h bvC_valid),if_neg (by decide),if_neg (by decide),if_neg (by decide),if_neg (by decide)]
def bvL (m:Nat):List (List Int):=List.replicate m [-1]
theorem bvQ_right {m:Nat} (hm:m≤2):rightI bvQ (bvL m)=0:=by
 have h:m=0∨m=1∨m=2:=by omega
 unfold rightI
 rcases h with rfl |rfl |rfl <;>rw [bvQ_ok,if_neg (by decide),if_neg (by decide+kernel),if_neg (by decide+kernel)]
def svN (us:List Int) (S:Sv):Option (Sv×Int):=Sv.solveN 1099511627776 us 40 40 S
def svX (us:List Int) (S:Sv):Sv:=((svN us S).getD (S,0)).1
theorem ask_yes {us:List Int} {S:Sv} (hu:decide (S.used<4611686018427387904)=true) (h:(svN us S).map (fun q=>decide (q.2=2))=some true):AskQ us (fun T=>T=S) (fun T=>T=svX us S) (fun _=>False):=by
 rintro _ rfl
 obtain ⟨p,hp,hd⟩:=Option.map_eq_some_iff.1 h
 refine ⟨of_decide_eq_true hu,false,(fun h=>by cases h),40,40,_,Sv.solveN_W hp,fun S2 r2 h2=> ?_⟩
 have h2':(S2,r2)=p:=h2
 have hr:r2=2:=by
  rw [←h2'] at hd
  exact of_decide_eq_true hd
 rw [if_pos hr]
 show S2=svX us _
 unfold svX
 rw [hp,←h2']
 rfl
theorem ask_no {us:List Int} {S:Sv} (hu:decide (S.used<4611686018427387904)=true) (h:(svN us S).map (fun q=>decide (q.2=1))=some true):AskQ us (fun T=>T=S) (fun _=>False) (fun _=>True):=by
 rintro _ rfl
 obtain ⟨p,hp,hd⟩:=Option.map_eq_some_iff.1 h
 refine ⟨of_decide_eq_true hu,false,(fun h=>by cases h),40,40,_,Sv.solveN_W hp,fun S2 r2 h2=> ?_⟩
 have h2':(S2,r2)=p:=h2
 have hr:r2=1:=by
  rw [←h2'] at hd
  exact of_decide_eq_true hd
 rw [hr,if_neg (by decide)]
 trivial
def us1:List Int:=([(-1:Int)].map (laU bvC 0)).map fun x=> -x
def us2:List Int:=([(-1:Int)].map (laU bvC 1)).map fun x=> -x
def us3:List Int:=[litT 0 2]
def addAI (S:Sv):List (List Int)→Sv
 |[]=>S
 |c::r=>addAI (S.addI c).1 r
theorem addAI_eq:∀(ls:List (List Int)) (S:Sv),S.addAll ls=addAI S ls
 |[],S=>rfl
 |c::r,S=>by
  show (S.addF c).1.addAll r=_
  rw [Sv.addI_eq]
  exact addAI_eq r _
def bvF:Sv:=addAI (Sv.new (baU bvC 2)) (fstU bvC 1)
def bvS (m:Nat):Sv:=addAI (addAI (Sv.new (baU bvC 2)) (frameU bvC [] 0++lnkU bvC 0 1)) (lsU bvC (bvL m))
theorem bvF_eq:ivF bvC=bvF:=addAI_eq _ _
theorem bvS_eq (m:Nat):ivS bvC [] (bvL m)=bvS m:=by
 show ((Sv.new (baU bvC 2)).addAll (frameU bvC [] 0++lnkU bvC 0 1)).addAll (lsU bvC (bvL m))=_
 rw [addAI_eq,addAI_eq]
 rfl
def s1:Nat→Sv
 |0=>bvF
 |k+1=>svX us1 (s1 k)
def s2 (m:Nat):Nat→Sv
 |0=>bvS m
 |k+1=>svX us2 (s2 m k)
theorem run1 {k:Nat} (h:k<2):decide ((s1 k).used<4611686018427387904)=true∧(svN us1 (s1 k)).map (fun q=>decide (q.2=2))=some true:=by
 have h:k=0∨k=1:=by omega
 rcases h with rfl |rfl
 ·exact ⟨by decide+kernel,by decide+kernel⟩
 ·exact ⟨by decide+kernel,by decide+kernel⟩
theorem run2 {m k:Nat} (hm:m≤2) (h:k<m):decide ((s2 m k).used<4611686018427387904)=true∧(svN us2 (s2 m k)).map (fun q=>decide (q.2=2))=some true:=by
 have h:(m=1∧k=0)∨(m=2∧k=0)∨(m=2∧k=1):=by omega
 rcases h with ⟨rfl,rfl⟩ |⟨rfl,rfl⟩ |⟨rfl,rfl⟩
 ·exact ⟨by decide+kernel,by decide+kernel⟩
 ·exact ⟨by decide+kernel,by decide+kernel⟩
 ·exact ⟨by decide+kernel,by decide+kernel⟩
theorem run3 {m:Nat} (hm:m≤2) (h:0<m):decide ((s2 m m).used<4611686018427387904)=true∧(svN us3 (s2 m m)).map (fun q=>decide (q.2=2))=some true:=by
 have h:m=1∨m=2:=by omega
 rcases h with rfl |rfl
 ·exact ⟨by decide+kernel,by decide+kernel⟩
 ·exact ⟨by decide+kernel,by decide+kernel⟩
theorem run0:decide ((s2 0 0).used<4611686018427387904)=true∧(svN us3 (s2 0 0)).map (fun q=>decide (q.2=1))=some true:=⟨by decide+kernel,by decide+kernel⟩
theorem bv_calls (W:World) (H:Qh) (hq:QuAt W H bvQ) (A:Option Addr) (c:Nat) (hs:List Ls) (hr:RdL W A hs) {m:Nat} (hm:m≤2) (he:hs.map (·.l)=bvL m):
  Calls Tryz.prog 16 #[qval H bvQ, .slice A hs.length c] W fun e w'=>e= .returned (.int .i64 (if m=0 then 81 else 0))∧Fr [] W w':=by
 have hn:hs.length=m:=by
  have :=congrArg List.length he
  rwa [List.length_map,bvL,List.length_replicate] at this
 have hel:∀k,k<hs.length→(hs[k]!).l=[-1]:=fun k hk=>by
  have h1:(hs[k]!).l∈hs.map (·.l):=List.mem_map.2 ⟨_,mem_get hk,rfl⟩
  rw [he] at h1
  exact List.eq_of_mem_replicate h1
 rcases Nat.eq_zero_or_pos m with rfl |hp
 ·obtain rfl :hs=[]:=List.eq_nil_of_length_eq_zero hn
  have hc:=invariant_calls W H bvQ hq A c [] hr (bvQ_right (Nat.zero_le _)) (by decide) (fun _ _=>True) (fun _ S=>S=s2 0 0) (fun _=>False) (fun _=>False) (fun _=>False) (fun _=>True) trivial (fun k hk=>absurd hk (Nat.not_lt_zero _)) (bvS_eq 0) (fun k hk=>absurd hk (Nat.not_lt_zero _)) (ask_no run0.1 run0.2)
  refine hc.mono ?_
  rintro e w' ⟨hf,⟨-,S,hS⟩ |⟨rfl,h⟩⟩
  ·exact hS.elim
  ·exact ⟨rfl,hf⟩
 ·have hc:=invariant_calls W H bvQ hq A c hs hr (by rw [he];exact bvQ_right hm) (by omega) (fun k S=>S=s1 k) (fun k S=>S=s2 m k) (fun _=>False) (fun _=>False) (fun _=>True) (fun _=>False) bvF_eq
   (fun k hk=>by rw [hel k hk];exact ask_yes (run1 (by omega)).1 (run1 (by omega)).2) (by rw [he];exact bvS_eq m)
   (fun k hk=>by rw [hel k hk];exact ask_yes (run2 hm (by omega)).1 (run2 hm (by omega)).2)
   (by
    rw [hn]
    intro S hS
    obtain ⟨h1,r,K,D,C,Q,h2,h3⟩:=ask_yes (run3 hm hp).1 (run3 hm hp).2 S hS
    refine ⟨h1,r,K,D,C,Q,h2,fun S' r' h'=> ?_⟩
    have :=h3 S' r' h'
    by_cases e:r'=2
    ·rw [if_pos e];trivial
    ·rw [if_neg e] at this⊢;exact this)
  rw [if_neg (by omega)]
  refine hc.mono ?_
  rintro e w' ⟨hf,⟨rfl,-⟩ |⟨-,⟨S,hS⟩ |⟨S,hS⟩ |⟨S,hS⟩⟩⟩
  ·exact ⟨rfl,hf⟩
  ·exact hS.elim
  ·exact hS.elim
  ·exact hS.elim
def bvH (a b:Nat):Qh:=⟨⟨none,0,some ⟨a,0,none⟩,1,none,0,some ⟨b,0,none⟩,1,none,0,none,0,none,0⟩,none,0,none,0,none,0⟩
theorem bvQ_at {w:World} {a b:Nat} (ha:At w a 63 #[.int .i64 2, .int .i64 2, .int .i64 0]) (hb:At w b 3 #[.int .i64 2]):QuAt w (bvH a b) bvQ:=by
 refine ⟨⟨fun h=>absurd h (by decide),?_,fun h=>absurd h (by decide),?_,fun h=>absurd h (by decide),fun h=>absurd h (by decide),fun h=>absurd h (by decide),by decide,by decide,by decide,by decide,by decide,by decide,by decide,⟨by decide,by decide⟩,?_,?_,?_,?_,?_,?_,?_⟩,RdL.nil_ _ _,RdL.nil_ _ _,RdL.nil_ _ _,by decide,by decide,by decide,⟨by decide,by decide⟩,⟨by decide,by decide⟩,⟨by decide,by decide⟩⟩
 ·intro _
  refine ⟨_,_,rfl,fun j hj=> ?_⟩
  have hj0:j=0:=by
   have :j<1:=hj
   omega
  subst hj0
  exact ⟨ha.cell 0,ha.cell 1,ha.cell 2⟩
 ·intro _
  refine ⟨_,_,rfl,fun j hj=> ?_⟩
  have hj0:j=0:=by
   have :j<1:=hj
   omega
  subst hj0
  exact hb.cell 0
 ·exact fun j hj=>absurd hj (Nat.not_lt_zero _)
 ·intro j hj
  have hj0:j=0:=by
   have :j<1:=hj
   omega
  subst hj0
  exact ⟨⟨by decide,by decide⟩,⟨by decide,by decide⟩,by decide,by decide⟩
 ·exact fun j hj=>absurd hj (Nat.not_lt_zero _)
 ·intro j hj
  have hj0:j=0:=by
   have :j<1:=hj
   omega
  subst hj0
  exact ⟨by decide,by decide⟩
 ·exact fun j hj=>absurd hj (Nat.not_lt_zero _)
 ·exact fun j hj=>absurd hj (Nat.not_lt_zero _)
 ·exact fun j hj=>absurd hj (Nat.not_lt_zero _)
theorem bvL_tail {m:Nat} {hs:List Ls} (h:hs.map (·.l)=bvL m):(hs.eraseIdx 0).map (·.l)=bvL (m-1):=by
 rw [List.eraseIdx_zero,List.map_tail,h]
 unfold bvL
 rw [List.tail_replicate]
theorem bvL_len {m:Nat} {hs:List Ls} (h:hs.map (·.l)=bvL m):hs.length=m:=by
 have :=congrArg List.length h
 rwa [List.length_map,bvL,List.length_replicate] at this
theorem sinv_calls (w:World) (H:Qh) (hq:QuAt w H bvQ) (A:Option Addr) (c:Nat) (hs:List Ls) (hr:RdL w A hs) (he:hs.map (·.l)=bvL 2):
  Calls Tryz.prog 29 #[qval H bvQ, .slice A 2 c] w fun e w'=>(∃A' c',e= .returned (.tuple #[.slice A' 1 c', .int .i64 0]))∧Fr [] w w':=by
 obtain ⟨w1,hw1⟩:∃W,w.alloc (.cells (qvs H bvQ) 30)=W:=⟨_,rfl⟩
 have HF1:Hid (Fr [] w w1):=hw1▸box_fr' _ _
 have HQ1:Hid (At w1 w.heap.size 30 (qvs H bvQ)):=hw1▸At.new _ _ _
 have hl:=bvL_len he
 have KI:=Lib.hid (fun W (hW:Fr [] w W) A c hs (hr:RdL W A hs) m (hm:m≤2) (he:hs.map (·.l)=bvL m)=>bv_calls W H (hq.keep hW) A c hs hr hm he)
 have K0:=Lib.hid (bv_calls w1 H (hq.keep HF1.out) A c hs (hr.keep HF1.out) (Nat.le_refl 2) he)
 have KL:=Lib.hid (fun W (hW:Fr [] w W)=>lists_calls W A c hs (hr.keep hW) (fun x hx=>by
  have h1:x.l∈hs.map (·.l):=List.mem_map.2 ⟨_,hx,rfl⟩
  rw [he] at h1
  rw [List.eq_of_mem_replicate h1]
  decide) (by omega))
 have HE:=Lib.hid he
 rw [hl,if_neg (by decide)] at K0
 simp only [hl] at KL
 have HQ:=Lib.hid (fun W (hW:At W w.heap.size 30 (qvs H bvQ))=>qbx_cells hW)
 clear hq hr he hl
 simp only [qval,qvs] at K0 KI hw1 HQ⊢
 go_enter Tryz.func29,Tryz.ntmps29
 go_upto_region 1 with fail
 clear hw1
 obtain ⟨q0,q1,q2,q3,q4,q5,q6,q7,q8,q9,q10,q11,q12,q13⟩:=HQ.out w1 HQ1.out
 go_wp2_with fail
 refine K0.out.mono ?_
 clear K0 q0 q1 q2 q3 q4 q5 q6 q7 q8 q9 q10 q11 q12 q13
 rintro e w2 ⟨rfl,hf2⟩
 have HF2:=Lib.hid (HF1.out.then_ hf2)
 have HQ2:=Lib.hid (HQ1.out.keep hf2)
 have KL2:=Lib.hid (KL.out w2 HF2.out)
 clear hf2 HF1 HQ1 KL
 go_wp2_with fail
 refine KL2.out.mono ?_
 clear KL2
 rintro e w3 ⟨A3,c3,hs3,rfl,hn3,hm3,hf3⟩
 have HF3:=Lib.hid (HF2.out.then_ hf3)
 have HQ3:=Lib.hid (HQ2.out.keep hf3)
 have HN3:=Lib.hid hn3
 have HM3:=Lib.hid hm3
 clear hn3 hm3 hf3 HF2 HQ2
 have KCL:Hid (∀W,Fr [] w W→∀A' c' (hs':List Ls) m,0<m→m≤2→RdL W A' hs'→(A'=none→c'=0)→hs'.map (·.l)=bvL m→Calls Tryz.prog 18 #[.slice A' hs'.length c'] W fun e w'=>∃g c2,e= .returned (.slice (some ⟨g,0,none⟩) hs'.length c2)∧Fr [] W w'∧
   Calls Tryz.prog 59 #[.slice (some ⟨g,0,none⟩) hs'.length c2, .int .i64 0, .int .i64 1] w' fun e w2=>∃hs2:List Ls,e= .returned (.slice (some ⟨g,0,none⟩) hs2.length c2)∧hs2.map (·.l)=bvL (m-1)∧RdL w2 (some ⟨g,0,none⟩) hs2∧Fr [] W w2):=fun W hW A' c' hs' m h0 hm hr hn he=>by
  have hlen:=bvL_len he
  refine (clonel_calls W A' c' hs' hr hn (by omega)).mono ?_
  rintro e w' ⟨A2,c2,rfl,hrow,hnew,hf⟩
  rcases hrow.form with ⟨_,_,h3⟩ |⟨g,rfl,hg1,hg2⟩
  ·rw [h3] at hlen
   simp at hlen
   omega
  ·refine ⟨g,c2,rfl,hf,?_⟩
   have hgW:=hnew g (by simp [blks])
   have hd:=ldel_calls w' g c2 hs' hrow 0 (by omega) (by omega)
   refine (show Calls Tryz.prog 59 #[.slice (some ⟨g,0,none⟩) hs'.length c2, .int .i64 0, .int .i64 1] w' _ from hd).mono ?_
   rintro e w2 ⟨rfl,hrow2,hf2⟩
   have hfW:Fr [] W w2:=hf.trans hf2 (fun k hk=> .inr (by rw [List.mem_singleton.1 hk];exact hgW))
   refine ⟨_,rfl,bvL_tail he,hrow2.rdl (fun j hj=> ?_),hfW⟩
   have hle:(hs'.eraseIdx 0).length=hs'.length-1:=List.length_eraseIdx_of_lt (by omega)
   have h1:(hs'.eraseIdx 0)[j]! =hs'[j+1]! :=by
    rw [List.eraseIdx_zero]
    simp [List.getElem!_eq_getElem?_getD,List.getElem?_tail]
   rw [h1]
   exact (hr.2 (j+1) (by omega)).keep hfW
 go_wp2_with fail
 go_loopg [7,8] 2 (fun gk x7 x8 wr=>∃(A':Option Addr) (c':Nat) (hs':List Ls) (i m:Nat),((gk=2∧i=0∧m=2)∨(gk=1∧i=0∧m=1)∨(gk=0∧i=1∧m=1))∧x7= .slice A' m c'∧x8= .int .i64 (i:Int)∧(A'=none→c'=0)∧Hid (RdL wr A' hs')∧Hid (hs'.map (·.l)=bvL m)∧Hid (Fr [] w wr)∧Hid (At wr w.heap.size 30 (qvs H bvQ)))
 case atStart=>
  have h3:=HM3.out.trans HE.out
  refine ⟨A3,c3,hs3,0,2, .inl ⟨rfl,rfl,rfl⟩,by rw [bvL_len h3],rfl,fun e=> ?_,HN3.out.rdl,h3,HF3,HQ3⟩
  rcases HN3.out.row.2 with ⟨hv,_⟩ |⟨g,cap,cur,hv,_⟩
  ·simp only [Value.slice.injEq] at hv
   exact hv.2.2
  ·simp only [Value.slice.injEq] at hv
   rw [e] at hv
   cases hv.1
 case round=>
  obtain ⟨A',c',hs',i,m,hcase,rfl,rfl,hn,HR,HM,HF,HQW⟩:=hrel
  rcases hcase with ⟨rfl,rfl,rfl⟩ |⟨rfl,rfl,rfl⟩ |⟨rfl,rfl,rfl⟩
  ·have hlen:=bvL_len HM.out
   have KC:=Lib.hid (KCL.out wr HF.out A' c' hs' 2 (by decide) (by decide) HR.out hn HM.out)
   rw [hlen] at KC
   clear hlen KCL hn HR HM
   go_wp2_with fail
   refine KC.out.mono ?_
   clear KC
   rintro e w4 ⟨g,c2,rfl,-,hd⟩
   have KD:=Lib.hid hd
   clear hd
   go_wp2_with fail
   refine KD.out.mono ?_
   clear KD
   rintro e w5 ⟨hs2,rfl,hm2,hr2,hf5⟩
   have HF5:=Lib.hid (HF.out.then_ hf5)
   have HQ5:=Lib.hid (HQW.out.keep hf5)
   have HR5:=Lib.hid hr2
   have HM5:=Lib.hid hm2
   have KI5:=Lib.hid (KI.out w5 HF5.out _ c2 hs2 hr2 1 (by decide) hm2)
   have hlen:=bvL_len hm2
   rw [hlen] at KI5⊢
   rw [if_neg (by decide)] at KI5
   clear hf5 HF HQW hr2 hm2 hlen KI
   obtain ⟨q0,q1,q2,q3,q4,q5,q6,q7,q8,q9,q10,q11,q12,q13⟩:=HQ.out w5 HQ5.out
   go_wp2_with fail
   refine KI5.out.mono ?_
   clear KI5 q0 q1 q2 q3 q4 q5 q6 q7 q8 q9 q10 q11 q12 q13
   rintro e w6 ⟨rfl,hf6⟩
   have HF6:=Lib.hid (HF5.out.then_ hf6)
   have HQ6:=Lib.hid (HQ5.out.keep hf6)
   have HR6:=Lib.hid (HR5.out.keep hf6)
   clear hf6
   go_wp2_with fail
   go_roundg 1
   case measure=>decide
   case rel=>exact ⟨_,c2,hs2,0,1, .inr (.inl ⟨rfl,rfl,rfl⟩),rfl,rfl,(fun e=>by cases e),HR6,HM5,HF6,HQ6⟩
  ·have hlen:=bvL_len HM.out
   have KC:=Lib.hid (KCL.out wr HF.out A' c' hs' 1 (by decide) (by decide) HR.out hn HM.out)
   rw [hlen] at KC
   clear hlen KCL
   go_wp2_with fail
   refine KC.out.mono ?_
   clear KC
   rintro e w4 ⟨g,c2,rfl,-,hd⟩
   have KD:=Lib.hid hd
   clear hd
   go_wp2_with fail
   refine KD.out.mono ?_
   clear KD
   rintro e w5 ⟨hs2,rfl,hm2,hr2,hf5⟩
   have hf05:=hf5
   have HF5:=Lib.hid (HF.out.then_ hf5)
   have HQ5:=Lib.hid (HQW.out.keep hf5)
   have HR5:=Lib.hid hr2
   have HM5:=Lib.hid hm2
   have KI5:=Lib.hid (KI.out w5 HF5.out _ c2 hs2 hr2 0 (by decide) hm2)
   have hlen:=bvL_len hm2
   rw [hlen] at KI5⊢
   rw [if_pos (by decide)] at KI5
   clear hf5 HF HQW hr2 hm2 hlen KI
   obtain ⟨q0,q1,q2,q3,q4,q5,q6,q7,q8,q9,q10,q11,q12,q13⟩:=HQ.out w5 HQ5.out
   go_wp2_with fail
   refine KI5.out.mono ?_
   clear KI5 q0 q1 q2 q3 q4 q5 q6 q7 q8 q9 q10 q11 q12 q13
   rintro e w6 ⟨rfl,hf6⟩
   have HF6:=Lib.hid (HF5.out.then_ hf6)
   have HQ6:=Lib.hid (HQ5.out.keep hf6)
   have HR6:=Lib.hid (HR.out.keep (hf05.then_ hf6))
   clear hf6 hf05
   go_wp2_with fail
   go_roundg 0
   case measure=>decide
   case rel=>exact ⟨A',c',hs',1,1, .inr (.inr ⟨rfl,rfl,rfl⟩),rfl,rfl,hn,HR6,HM,HF6,HQ6⟩
  ·clear KCL KI
   go_wp2_with fail
   go_ret2
   exact ⟨⟨A',c',rfl⟩,HF.out⟩
theorem bv_lists (w:World):RdL (((w.alloc (.cells #[.int .i64 (-1)] 3)).alloc (.cells #[.int .i64 (-1)] 3)).alloc (.cells #[.slice (some ⟨w.heap.size,0,none⟩) 1 1, .slice (some ⟨w.heap.size+1,0,none⟩) 1 1] 22)) (some ⟨w.heap.size+1+1,0,none⟩) [⟨some ⟨w.heap.size,0,none⟩,1,[-1]⟩,⟨some ⟨w.heap.size+1,0,none⟩,1,[-1]⟩]:=by
 obtain ⟨w1,hw1⟩:∃W,w.alloc (.cells #[.int .i64 (-1)] 3)=W:=⟨_,rfl⟩
 obtain ⟨w2,hw2⟩:∃W,w1.alloc (.cells #[.int .i64 (-1)] 3)=W:=⟨_,rfl⟩
 have s1:w1.heap.size=w.heap.size+1:=by rw [←hw1];simp
 have s2:w2.heap.size=w.heap.size+1+1:=by rw [←hw2];simp [s1]
 have h1:At w1 w.heap.size 3 #[.int .i64 (-1)]:=hw1▸At.new _ _ _
 have h2:At w2 (w.heap.size+1) 3 #[.int .i64 (-1)]:=by
  rw [←s1]
  exact hw2▸At.new _ _ _
 have h1':At w2 w.heap.size 3 #[.int .i64 (-1)]:=h1.keep (hw2▸box_fr' _ _)
 rw [hw1,hw2,←s2]
 obtain ⟨w3,hw3⟩:∃W,w2.alloc (.cells #[.slice (some ⟨w.heap.size,0,none⟩) 1 1, .slice (some ⟨w.heap.size+1,0,none⟩) 1 1] 22)=W:=⟨_,rfl⟩
 have hf:Fr [] w2 w3:=hw3▸box_fr' _ _
 have h3:At w3 w2.heap.size 22 #[.slice (some ⟨w.heap.size,0,none⟩) 1 1, .slice (some ⟨w.heap.size+1,0,none⟩) 1 1]:=hw3▸At.new _ _ _
 rw [hw3]
 have ok:∀g,At w2 g 3 #[.int .i64 (-1)]→OkL w3 ⟨some ⟨g,0,none⟩,1,[-1]⟩:=fun g hg=>⟨fun _=>⟨_,_,rfl,fun j hj=>by
  have hj0:j=0:=by simpa using hj
  subst hj0
  exact (hg.keep hf).cell 0⟩,fun j hj=>by
  have hj0:j=0:=by simpa using hj
  subst hj0
  show -9223372036854775808≤(-1:Int)∧(-1:Int)≤9223372036854775807
  exact ⟨by decide,by decide⟩,(by show 1≤17592186044416;decide),fun h=>by cases h⟩
 refine ⟨fun _=>⟨_,_,rfl,fun j hj=> ?_⟩,fun j hj=> ?_⟩
 ·have hj0:j=0∨j=1:=by simp at hj;omega
  rcases hj0 with rfl |rfl
  ·exact h3.cell 0
  ·exact h3.cell 1
 ·have hj0:j=0∨j=1:=by simp at hj;omega
  rcases hj0 with rfl |rfl
  ·exact ok _ h1'
  ·exact ok _ h2
theorem alive37_calls (w:World):Calls Tryz.prog 12 #[] w fun e w'=>e= .returned (.bool true)∧Fr [] w w':=by
 obtain ⟨w1,hw1⟩:∃W,w.alloc (.cells #[.int .i64 2, .int .i64 2, .int .i64 0] 63)=W:=⟨_,rfl⟩
 obtain ⟨w2,hw2⟩:∃W,w1.alloc (.cells #[.int .i64 2] 3)=W:=⟨_,rfl⟩
 obtain ⟨w3,hw3⟩:∃W,w2.alloc (.cells (qvs (bvH w.heap.size w1.heap.size) bvQ) 30)=W:=⟨_,rfl⟩
 have h1:At w1 w.heap.size 63 #[.int .i64 2, .int .i64 2, .int .i64 0]:=hw1▸At.new _ _ _
 have h2:At w2 w1.heap.size 3 #[.int .i64 2]:=hw2▸At.new _ _ _
 have hf3:Fr [] w2 w3:=hw3▸box_fr' _ _
 have HF3:Hid (Fr [] w w3):=(hw1▸box_fr' _ _:Fr [] w w1).then_ ((hw2▸box_fr' _ _:Fr [] w1 w2).then_ hf3)
 have HA:Hid (At w3 w2.heap.size 30 (qvs (bvH w.heap.size w1.heap.size) bvQ)):=hw3▸At.new _ _ _
 have HQ:=(bvQ_at (h1.keep (hw2▸box_fr' _ _:Fr [] w1 w2)) h2).keep hf3
 have hf6:Fr [] w3 (((w3.alloc (.cells #[.int .i64 (-1)] 3)).alloc (.cells #[.int .i64 (-1)] 3)).alloc (.cells #[.slice (some ⟨w3.heap.size,0,none⟩) 1 1, .slice (some ⟨w3.heap.size+1,0,none⟩) 1 1] 22)):=(box_fr' _ _).then_ ((box_fr' _ _).then_ (box_fr' _ _))
 have KS:=Lib.hid (sinv_calls _ _ (HQ.keep hf6) _ 2 _ (bv_lists w3) rfl)
 have HF6:=Lib.hid (HF3.out.then_ hf6)
 have HC:=Lib.hid (qbx_cells HA.out)
 simp only [qval,qvs,bvH,bvQ,bvC,List.length_nil,List.length_cons,Nat.zero_add] at KS HC hw3
 have HW3:=Lib.hid hw3
 clear h1 h2 hf3 HQ hf6 HF3 HA hw3
 go_enter Tryz.func12,Tryz.ntmps12
 go_upto_region 2 with fail
 rw [HW3.out]
 clear hw1 hw2 HW3
 obtain ⟨q0,q1,q2,q3,q4,q5,q6,q7,q8,q9,q10,q11,q12,q13⟩:=HC.out
 go_wp2_with fail
 refine KS.out.mono ?_
 clear KS q0 q1 q2 q3 q4 q5 q6 q7 q8 q9 q10 q11 q12 q13 HC
 rintro e w7 ⟨⟨A',c',rfl⟩,hf7⟩
 have HF7:=Lib.hid (HF6.out.then_ hf7)
 clear hf7 HF6
 go_wp2_with fail
 go_ret
 exact ⟨rfl,HF7.out⟩
theorem swlaw_calls (w:World) (H:Qh) (q:Qn) (h:QuAt w H q) (b:Int) (st:List UInt8) (hst:st.length≤1048576) (A:Option Addr) (c:Nat) (il:List (List UInt8)) (hr:RdS w A il) (hn:A=none→c=0) (hil:∀s∈il,s.length≤1048576) (hl:il.length≤1048576):
  Calls Tryz.prog 4 #[qval H q, .agg (wvs b st A il.length c)] w fun e w'=>e= .returned (.bool true)∧Fr [] w w':=by
 obtain ⟨w1,hw1⟩:∃W,w.alloc (.cells (qvs H q) 30)=W:=⟨_,rfl⟩
 obtain ⟨w2,hw2⟩:∃W,w1.alloc (.cells (wvs b st A il.length c) 43)=W:=⟨_,rfl⟩
 have hf1:Fr [] w w1:=hw1▸box_fr' _ _
 have hf2:Fr [] w1 w2:=hw2▸box_fr' _ _
 have s1:w1.heap.size=w.heap.size+1:=by rw [←hw1];simp
 have HQ2:Hid (At w2 w.heap.size 30 (qvs H q)):=hf2.at_ (hw1▸At.new _ _ _) (by simp)
 have HW2:Hid (At w2 (w.heap.size+1) 43 (wvs b st A il.length c)):=by
  have :=hw2▸At.new w1 43 (wvs b st A il.length c)
  rw [s1] at this
  exact this
 have HF2:=Lib.hid (hf1.then_ hf2)
 have KA:=Lib.hid (alive37_calls w2)
 have KS:=Lib.hid (fun W (hW:Fr [] w W)=>swit_calls W H q (h.keep hW) b st hst A c il (hr.keep hW) hn hil hl)
 have KW:=Lib.hid (fun W (hW:Fr [] w W)=>cwit_calls W H q (h.keep hW) b st (by unfold maxLen;omega) A c il (hr.keep hW) (fun s hs=>by have :=hil s hs;unfold maxLen;omega) hl)
 obtain ⟨n,hnn⟩:∃n,il.length=n:=⟨_,rfl⟩
 obtain ⟨K,hK⟩:∃K,witI q b st il=K:=⟨_,rfl⟩
 unfold SwP at KS
 simp only [hnn,hK] at KS KW
 rw [hnn] at hw2 HW2⊢
 obtain ⟨Z,hZ⟩:∃Z:ByteArray,sv st= .string Z:=⟨_,rfl⟩
 have hwv:wvs b st A n c=#[.int .i64 b, .string Z, .slice A n c]:=by rw [←hZ];rfl
 rw [hwv] at hw2 HW2⊢
 simp only [hwv] at KS KW
 have HQ:=Lib.hid (fun W (hW:At W w.heap.size 30 (qvs H q))=>qbx_cells hW)
 have hn1:n≤1048576:=by rw [←hnn];exact hl
 have HNN:=Lib.hid hnn
 have HKK:=Lib.hid hK
 have HZZ:=Lib.hid hZ
 have HH:=Lib.hid h
 have HRR:=Lib.hid hr
 have HIL:=Lib.hid hil
 clear h hr hil hnn hK hZ hwv hf1 hf2
 simp only [qval,qvs] at KS KW hw1 HQ⊢
 go_enter Tryz.func4,Tryz.ntmps4
 go_upto_region 1 with fail
 clear hw1 hw2 s1
 go_wp2_with fail
 refine KA.out.mono ?_
 clear KA
 rintro e w3 ⟨rfl,hf3⟩
 have HF3:=Lib.hid (HF2.out.then_ hf3)
 have HQ3:=Lib.hid (HQ2.out.keep hf3)
 have HW3:=Lib.hid (HW2.out.keep hf3)
 clear hf3 HF2 HQ2 HW2
 go_upto_region 3 with fail
 obtain ⟨q0,q1,q2,q3,q4,q5,q6,q7,q8,q9,q10,q11,q12,q13⟩:=HQ.out w3 HQ3.out
 obtain ⟨⟨a0,a1,a2⟩,-⟩:=wbx_cells HW3.out
 have KS3:=Lib.hid (KS.out w3 HF3.out)
 go_wp2_with fail
 refine KS3.out.mono ?_
 clear KS3 KS q0 q1 q2 q3 q4 q5 q6 q7 q8 q9 q10 q11 q12 q13 a0 a1 a2
 rintro e w4 ⟨hf4,⟨hk,rfl⟩ |⟨hk,A4,c4,rfl,hr4⟩⟩
 ·have HF4:=Lib.hid (HF3.out.then_ hf4)
  have HQ4:=Lib.hid (HQ3.out.keep hf4)
  have HW4:=Lib.hid (HW3.out.keep hf4)
  have hk1:(K==(0:Int))=false:=by simpa using hk
  have hk2:(K !=(0:Int))=true:=by simpa using hk
  have hk3:(K==K)=true:=by simp
  have HK:=Lib.hid hk
  clear hf4 HF3 HQ3 HW3 hk
  go_upto_region 4 with fail
  obtain ⟨w5,hw5⟩:∃W,w4.alloc (.cells #[.int .i64 0, .string ⟨#[]⟩, .slice none 0 0] 43)=W:=⟨_,rfl⟩
  have hf5:Fr [] w4 w5:=hw5▸box_fr' _ _
  have HV5:Hid (At w5 w4.heap.size 43 #[.int .i64 0, .string ⟨#[]⟩, .slice none 0 0]):=hw5▸At.new _ _ _
  have HF5:=Lib.hid (HF4.out.then_ hf5)
  have HQ5:=Lib.hid (HQ4.out.keep hf5)
  have HW5:=Lib.hid (HW4.out.keep hf5)
  rw [hw5]
  obtain ⟨g,hg⟩:∃g,w4.heap.size=g:=⟨_,rfl⟩
  rw [hg] at HV5⊢
  clear hw5 hf5 HF4 HQ4 HW4 hg
  obtain ⟨q0,q1,q2,q3,q4,q5,q6,q7,q8,q9,q10,q11,q12,q13⟩:=HQ.out w5 HQ5.out
  obtain ⟨⟨a0,a1,a2⟩,-⟩:=wbx_cells HW5.out
  have KW5:=Lib.hid (KW.out w5 HF5.out)
  go_wp2_with fail
  refine KW5.out.mono ?_
  clear KW5 KW q0 q1 q2 q3 q4 q5 q6 q7 q8 q9 q10 q11 q12 q13 a0 a1 a2
  rintro e w6 ⟨rfl,hf6⟩
  have HF6:=Lib.hid (HF5.out.then_ hf6)
  have HV6:=HV5.out.keep hf6
  obtain ⟨⟨v0,v1,v2⟩,-⟩:=wbx_cells HV6
  clear hf6 HF5 HQ5 HW5 HV5 HV6
  go_wp2_with fail
  go_ret
  exact ⟨rfl,HF6.out⟩
 ·have HF4:=Lib.hid (HF3.out.then_ hf4)
  have HQ4:=Lib.hid (HQ3.out.keep hf4)
  have HW4:=Lib.hid (HW3.out.keep hf4)
  subst hk
  have hok:=Wp.lft_ok (R:=rgt q b) (st:=st) (il:=il) (by unfold rgt;rw [HKK.out];rfl)
  have HU:Hid (Wp.Und (Wp.lft (rgt q b) st il).1 st):=Wp.few_und _ _ _
  have HI:Hid (∀i:Nat,Wp.Und (Wp.lft (rgt q b) st il).2[i]! il[i]!):=fun i=>Wp.fewI_und _ _ _ _
  have HL:Hid ((Wp.lft (rgt q b) st il).2.length=n):=(Wp.fewI_len _ _ _).trans HNN.out
  obtain ⟨s1,hs1⟩:∃s1,(Wp.lft (rgt q b) st il).1=s1:=⟨_,rfl⟩
  obtain ⟨l1,hl1⟩:∃l1,(Wp.lft (rgt q b) st il).2=l1:=⟨_,rfl⟩
  rw [hs1,hl1] at hok
  rw [hs1] at HU⊢
  rw [hl1] at HI HL hr4
  have hsl:s1.length≤1048576:=by rw [HU.out.1];exact hst
  have hll:∀s∈l1,s.length≤1048576:=fun s hs=>by
   obtain ⟨i,hi,rfl⟩:=List.getElem_of_mem hs
   have h1:=(HI.out i).1
   rw [List.getElem!_eq_getElem?_getD,List.getElem?_eq_getElem hi,Option.getD_some] at h1
   rw [h1]
   have h2:=HL.out
   have h3:=HNN.out
   exact HIL.out _ (mem_get (by omega))
  have hw0:witI q b s1 l1=0:=by
   unfold rgt at hok
   simpa using hok
  obtain ⟨Z1,hz1⟩:∃Z1:ByteArray,sv s1= .string Z1:=⟨_,rfl⟩
  have hwv1:wvs b s1 A4 n c4=#[.int .i64 b, .string Z1, .slice A4 n c4]:=by rw [←hz1];rfl
  have KV:=Lib.hid (fun W (hW:Fr [] w4 W)=>cwit_calls W H q (HH.out.keep (HF4.out.then_ hW)) b s1 (by unfold maxLen;omega) A4 c4 l1 (hr4.rd.keep hW) (fun s hs=>by have :=hll s hs;unfold maxLen;omega) (by rw [HL.out,←HNN.out];exact hl))
  have KU:=Lib.hid (fun W=>under_calls W s1 st HU.out hsl)
  have KUI:=Lib.hid (fun W (i:Nat) (hi:i<n)=>under_calls W l1[i]! il[i]! (HI.out i) (hll _ (mem_get (by rw [HL.out];exact hi))))
  rw [hwv1]
  simp only [hw0,HL.out,hwv1] at KV
  simp only [hz1,HZZ.out] at KU
  have HR4:=Lib.hid hr4
  simp only [qval,qvs] at KV
  clear hf4 HF3 HQ3 HW3 hr4 hs1 hl1 hok hsl hll hw0 hz1 hwv1 HU HI HZZ HIL HKK HH
  go_upto_region 4 with fail
  obtain ⟨w5,hw5⟩:∃W,w4.alloc (.cells #[.int .i64 b, .string Z1, .slice A4 n c4] 43)=W:=⟨_,rfl⟩
  have hf5:Fr [] w4 w5:=hw5▸box_fr' _ _
  have HV5:Hid (At w5 w4.heap.size 43 #[.int .i64 b, .string Z1, .slice A4 n c4]):=hw5▸At.new _ _ _
  have HF5:=Lib.hid (HF4.out.then_ hf5)
  have HQ5:=Lib.hid (HQ4.out.keep hf5)
  have HW5:=Lib.hid (HW4.out.keep hf5)
  have HF45:=Lib.hid hf5
  rw [hw5]
  obtain ⟨g,hg⟩:∃g,w4.heap.size=g:=⟨_,rfl⟩
  rw [hg] at HV5⊢
  clear hw5 hf5 HF4 HQ4 HW4 hg
  obtain ⟨q0,q1,q2,q3,q4,q5,q6,q7,q8,q9,q10,q11,q12,q13⟩:=HQ.out w5 HQ5.out
  obtain ⟨⟨a0,a1,a2⟩,-⟩:=wbx_cells HW5.out
  have KW5:=Lib.hid (KW.out w5 HF5.out)
  go_wp2_with fail
  refine KW5.out.mono ?_
  clear KW5 KW q0 q1 q2 q3 q4 q5 q6 q7 q8 q9 q10 q11 q12 q13 a0 a1 a2
  rintro e w6 ⟨rfl,hf6⟩
  have HF6:=Lib.hid (HF5.out.then_ hf6)
  have HF46:=Lib.hid (HF45.out.then_ hf6)
  have HQ6:=Lib.hid (HQ5.out.keep hf6)
  have HW6:=Lib.hid (HW5.out.keep hf6)
  have HV6:=Lib.hid (HV5.out.keep hf6)
  clear hf6 HF5 HQ5 HW5 HV5 HF45
  go_upto_region 7 with fail
  obtain ⟨q0,q1,q2,q3,q4,q5,q6,q7,q8,q9,q10,q11,q12,q13⟩:=HQ.out w6 HQ6.out
  obtain ⟨⟨a0,a1,a2⟩,-⟩:=wbx_cells HW6.out
  obtain ⟨⟨v0,v1,v2⟩,-⟩:=wbx_cells HV6.out
  have t1:((n:Int) !=(n:Int))=false:=by simp
  have KV6:=Lib.hid (KV.out w6 HF46.out)
  clear KV
  go_wp2_with fail
  refine KV6.out.mono ?_
  clear KV6 q0 q1 q2 q3 q4 q5 q6 q7 q8 q9 q10 q11 q12 q13 a0 a1 a2 v0 v1 v2
  rintro e w7 ⟨rfl,hf7⟩
  have HF7:=Lib.hid (HF6.out.then_ hf7)
  have HF47:=Lib.hid (HF46.out.then_ hf7)
  have HW7:=Lib.hid (HW6.out.keep hf7)
  have HV7:=Lib.hid (HV6.out.keep hf7)
  clear hf7 HF6 HQ6 HW6 HV6 HF46 HQ
  obtain ⟨⟨a0,a1,a2⟩,-⟩:=wbx_cells HW7.out
  obtain ⟨⟨v0,v1,v2⟩,-⟩:=wbx_cells HV7.out
  have KU7:=Lib.hid (KU.out w7)
  clear KU
  go_wp2_with fail
  refine KU7.out.mono ?_
  clear KU7 a0 a1 a2 v0 v1 v2
  rintro e w8 ⟨rfl,hf8⟩
  have HF8:=Lib.hid (HF7.out.then_ hf8)
  have HF48:=Lib.hid (HF47.out.then_ hf8)
  have HW8:=Lib.hid (HW7.out.keep hf8)
  have HV8:=Lib.hid (HV7.out.keep hf8)
  clear hf8 HF7 HW7 HV7 HF47
  obtain ⟨⟨a0,a1,a2⟩,-⟩:=wbx_cells HW8.out
  obtain ⟨⟨v0,v1,v2⟩,-⟩:=wbx_cells HV8.out
  go_wp2_with fail
  go_loopg [8] n (fun gg x8 wr=>∃k:Nat,k+gg=n∧x8= .int .i64 k∧Hid (Fr [] w8 wr))
  case atStart=>exact ⟨0,by omega,rfl,Fr.refl _ _⟩
  case round=>
   obtain ⟨k,hk,rfl,HX⟩:=hrel
   have HK:=Lib.hid hk
   have hkn:k≤n:=by omega
   clear hk a0 a1 a2 v0 v1 v2
   obtain ⟨⟨a0,a1,a2⟩,-⟩:=wbx_cells (HW8.out.keep HX.out)
   obtain ⟨⟨v0,v1,v2⟩,-⟩:=wbx_cells (HV8.out.keep HX.out)
   by_cases hlt:k<n
   ·have hlt2:(k:Int)<(n:Int):=by omega
    obtain ⟨b1,o1,x1,hA1,e1,c1⟩:=RdS.one (HR4.out.rd.keep (HF48.out.then_ HX.out)) (j:=k) (by rw [HL.out];exact hlt)
    obtain ⟨b2,o2,x2,hA2,e2,c2⟩:=RdS.one (HRR.out.keep (HF8.out.then_ HX.out)) (j:=k) (by rw [HNN.out];exact hlt)
    have KUk:=Lib.hid (fun W=>KUI.out W k hlt)
    simp only [e1.out,e2.out,sv] at KUk
    obtain ⟨y1,hy1⟩:∃y:ByteArray,(⟨x1.toArray⟩:ByteArray)=y:=⟨_,rfl⟩
    obtain ⟨y2,hy2⟩:∃y:ByteArray,(⟨x2.toArray⟩:ByteArray)=y:=⟨_,rfl⟩
    rw [hy1] at c1
    rw [hy2] at c2
    simp only [hy1,hy2] at KUk
    subst hA1
    subst hA2
    clear hy1 hy2 e1 e2 KUI
    have d1:=Ext.cell c1
    have d2:=Ext.cell c2
    have d3:=Ext.cell a2
    have d4:=Ext.cell v2
    go_upto_region 12 with fail
    clear c1 c2 a0 a1 a2 v0 v1 v2
    refine wp_region_ext (by kernel_rfl) (by kernel_rfl) ?_
    repeat (go_big_quiet_step (exact call_ext (KUk.out _)))
    refine wpQuiet_nil ?_
    rintro w9 ⟨u2,hu2⟩
    have HF_w9:Hid (Fr [] wr w9):=hu2▸u2.fr
    clear hu2 u2
    clear KUk
    have HF9:=Lib.hid (HX.out.then_ HF_w9.out)
    go_wp2_with fail
    go_roundg (gk-1)
    case measure=>have :=HK.out;omega
    case rel=>exact ⟨k+1,by have :=HK.out;omega,by go_num,HF9⟩
   ·obtain rfl :k=n:=by omega
    clear KUI
    go_wp2_with fail
    go_ret
    exact ⟨rfl,HF8.out.then_ HX.out⟩
end Go.Proofs.YtjmmpfjcpdepjaaGreatDoor
