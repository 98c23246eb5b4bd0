/- Parts of a proof. -/
import Derived.Test.YtjmmpfjcpdepjaaGreatDoorGAO
import Derived.Lib.Builder
import Derived.Shelf.Strings.Builder1
set_option linter.unusedVariables false
set_option linter.unusedSimpArgs false
set_option maxHeartbeats 8000000
set_option maxRecDepth 100000
namespace Go.Proofs.YtjmmpfjcpdepjaaGreatDoor
open Go.RowKit Go.Shelf
theorem infoByteB:(Tryz.prog.info? 5).map (fun i=>(i.zero,i.size,i.bytes))=some (some (.int .u8 0),1,1):=by kernel_rfl
theorem sizeBd:(Tryz.prog.info? 168).map (·.size)=some 2:=by kernel_rfl
theorem liesBd:liesAt Tryz.prog Tryz.prog.depth 168 (2/Tryz.prog.cellsOf 168) 0 168 1=true:=by kernel_rfl
abbrev IsB (B b:Nat) (bs:List Value) (w:World):Prop:=Lib.IsBuilder 168 5 B b bs w
theorem bcheck_used (b:Nat) (w:World) (h0:w.cell? ⟨b,0,none⟩=some (.pointer (some ⟨b,0,none⟩))):
  Calls Tryz.prog 163 #[.pointer (some ⟨b,0,none⟩)] w fun e w'=>e= .returned (.tuple #[])∧w'=w:=by
 obtain ⟨j,hj,_⟩:=Option.map_eq_some_iff.1 sizeBd
 go_enter Tryz.func163,Tryz.ntmps163
 go_wp2
 rw [Lib.run_neq_ptr_same w _ Tryz.underlying166 hj]
 go_wp2
 go_end0
 exact ⟨rfl,rfl⟩
theorem bcheck_fresh (b:Nat) (w:World) (h0:w.cell? ⟨b,0,none⟩=some (.pointer none)) (hsh:w.shape? b=some (168,2)) (hfz:w.frozen? ⟨b,0,none⟩=false):
  Calls Tryz.prog 163 #[.pointer (some ⟨b,0,none⟩)] w fun e w'=>e= .returned (.tuple #[])∧w'=w.setCell ⟨b,0,none⟩ (.pointer (some ⟨b,0,none⟩)):=by
 obtain ⟨j,hj,hjs⟩:=Option.map_eq_some_iff.1 sizeBd
 go_enter Tryz.func163,Tryz.ntmps163
 go_wp2
 rw [Lib.run_to_unsafe w ⟨b,0,none⟩ Tryz.underlying166 Tryz.underlying218 hj (by rw [hjs];decide) hsh (Nat.zero_lt_succ 1)]
 simp only [Result.andThen]
 rw [Oper.upon_value]
 go_wp2
 rw [run_callFunc_extern Tryz.func197 (by kernel_rfl) (by kernel_rfl) (by kernel_rfl) (e:=Extern.AbiNoEscape.same) (by kernel_rfl)]
 rw [Lib.run_noEscape]
 simp only [Result.andThen]
 rw [Oper.upon_value]
 go_wp2
 rw [Lib.run_from_unsafe w ⟨b,0,none⟩ Tryz.underlying218 Tryz.underlying166 hj hsh liesBd]
 simp only [Result.andThen]
 rw [Oper.upon_value]
 go_wp2
 go_end0
 exact ⟨rfl,rfl⟩
theorem bcheck_calls (B b:Nat) (bs:List Value) (w:World) (h:IsB B b bs w):
  Calls Tryz.prog 163 #[.pointer (some ⟨b,0,none⟩)] w fun e w'=>e= .returned (.tuple #[])∧(Lib.BuilderAt 168 5 B b (.pointer (some ⟨b,0,none⟩)) bs w'∧Below B w w'):=by
 rcases h with h |h
 ·refine (bcheck_fresh b w h.cell0 h.shape h.frozen0).mono ?_
  rintro e w' ⟨rfl,rfl⟩
  exact ⟨rfl,h.used _,(Below.refl B w).setCell (p:=⟨b,0,none⟩) h.1 _⟩
 ·refine (bcheck_used b w h.cell0).mono ?_
  rintro e w' ⟨rfl,rfl⟩
  exact ⟨rfl,h,Below.refl B _⟩
theorem bwrite_calls (B b:Nat) (bs:List Value) (c:Int) (w:World) (h:IsB B b bs w) (hlen:bs.length+1≤140737488355328) (hBw:B≤w.heap.size):
  Calls Tryz.prog 132 #[.pointer (some ⟨b,0,none⟩), .int .u8 c] w fun e w'=>e= .returned .nilIface∧(Lib.BuilderAt 168 5 B b (.pointer (some ⟨b,0,none⟩)) (bs++[.int .u8 c]) w'∧Below B w w'):=by
 obtain ⟨i0,hi,hz0,hz1,hz2⟩:=info_parts infoByteB
 have KC:=bcheck_calls B b bs w h
 go_enter Tryz.func132,Tryz.ntmps132
 go_wp2_with fail
 refine KC.mono ?_
 rintro e w1 ⟨rfl,h1,hb1⟩
 obtain ⟨hB,v,hbk,hown,hne⟩:=h1
 have c0:w1.cell? ⟨b,0,none⟩=some (.pointer (some ⟨b,0,none⟩)):=by rw [Lib.cell_of_heap hbk];rfl
 have c1:w1.cell? ⟨b,1,none⟩=some v:=by rw [Lib.cell_of_heap hbk];rfl
 go_wp2_with (at_builtin;refine wpList_append_own _ rfl _ _ 142 rfl B 5 i0 (.int .u8 0) 1 1 Tryz.underlying142 hi hz0 hz1 hz2 rfl (by decide) _ _ _ rfl (hown.alloc _) ⟨w1.heap.size,0,none⟩ 1 1 [.int .u8 c] rfl rfl ?c1 ?c2 ?c3 ?c4 ?c5 ?_)
 case c1=>
  intro j u hj
  match j,hj with
  |0,hj=>simp at hj;subst hj;simp [Addr.add]
 case c2=>intro u hu;simp at hu;subst hu;rfl
 case c3=>unfold maxLen;omega
 case c4=>omega
 case c5=>have :=hb1.size;simp;omega
 intro v' w2 hown' hgrow _
 have hlt:b<w1.heap.size:=by
  rcases Nat.lt_or_ge b w1.heap.size with h' |h'
  ·exact h'
  ·simp [Array.getElem?_eq_none h'] at hbk
 have hb2:w2.heap[b]? =some (.cells #[.pointer (some ⟨b,0,none⟩),v] 168 (0,0)):=by
  rw [hgrow.block b (by simp;omega) (fun e=>hne e.symm),Lib.alloc_old w1 _ b hlt]
  exact hbk
 have d0:w2.cell? ⟨b,0,none⟩=some (.pointer (some ⟨b,0,none⟩)):=by rw [Lib.cell_of_heap hb2];rfl
 have d1:w2.cell? ⟨b,1,none⟩=some v:=by rw [Lib.cell_of_heap hb2];rfl
 have f1:w2.frozen? ⟨b,1,none⟩=false:=Lib.frozen_of_heap hb2 1
 obtain ⟨g,cap,rfl⟩:∃g cap,v'= .slice (some ⟨g,0,none⟩) (bs.length+1) cap:=by
  rcases hown'.2 with ⟨_,h0⟩ |⟨g,cap,cur,hv,_⟩
  ·omega
  ·exact ⟨g,cap,hv⟩
 go_wp2
 go_ret
 refine ⟨rfl,?_,?_⟩
 ·exact Lib.BuilderAt.put (T:=168) (e:=5) hB hb2 (bs':=bs++[.int .u8 c]) (by simpa using hown') (by decide)
 ·exact ((hb1.alloc (by have :=hb1.size;omega) _).grown hgrow (by have :=hb1.size;simp;omega) (fun k hk=>(hown.lt k hk).1)).setCell (p:=⟨b,1,none⟩) hB _
structure BdSt (B b:Nat) (l:List UInt8) (w:World):Prop where
 is:IsB B b (Lib.byteCells l) w
 le:B≤w.heap.size
 fresh:l=[]→w.heap[b]? =some (.cells #[.pointer none, .slice none 0 0] 168 (0,0))
theorem BdSt.start (w:World):BdSt w.heap.size w.heap.size [] (w.alloc (.cells #[.pointer none, .slice none 0 0] 168)):=
 ⟨Lib.fresh_isBuilder _ _ w,((Fr.refl [] w).alloc _).size,fun _=>heap_alloc_new w _⟩
theorem isB_keep {B b:Nat} {bs:List Value} {w w':World} (h:IsB B b bs w) (hf:Fr [] w w'):IsB B b bs w':=by
 have key:∀p,Lib.BuilderAt 168 5 B b p bs w→Lib.BuilderAt 168 5 B b p bs w':=fun p ⟨h1,v,h2,h3,h4⟩=>by
  have hlt:b<w.heap.size:=by
   rcases Nat.lt_or_ge b w.heap.size with h' |h'
   ·exact h'
   ·simp [Array.getElem?_eq_none h'] at h2
  exact ⟨h1,v,(hf.block b hlt (by simp)).trans h2,hf.own h3 (by simp),h4⟩
 exact h.elim (fun h=> .inl (key _ h)) (fun h=> .inr (key _ h))
theorem BdSt.keep {B b:Nat} {l:List UInt8} {w w':World} (h:BdSt B b l w) (hf:Fr [] w w'):BdSt B b l w':=
 ⟨isB_keep h.is hf,Nat.le_trans h.le hf.size,fun e=>by
  have h2:=h.fresh e
  have hlt:b<w.heap.size:=by
   rcases Nat.lt_or_ge b w.heap.size with h' |h'
   ·exact h'
   ·simp [Array.getElem?_eq_none h'] at h2
  exact (hf.block b hlt (by simp)).trans h2⟩
theorem BdSt.write {B b:Nat} {l:List UInt8} {w:World} (h:BdSt B b l w) (c:UInt8) (hl:l.length+1≤140737488355328):
  Calls Tryz.prog 132 #[.pointer (some ⟨b,0,none⟩), .int .u8 (c.toNat:Int)] w fun e w'=>e= .returned .nilIface∧BdSt B b (l++[c]) w'∧Below B w w':=
 (bwrite_calls B b (Lib.byteCells l) c.toNat w h.is (by simpa [Lib.byteCells] using hl) h.le).mono fun e w' ⟨h1,h2,h3⟩=>
  ⟨h1,⟨.inr (by simpa [Lib.byteCells] using h2),Nat.le_trans h.le h3.size,fun e=>by simp at e⟩,h3⟩
theorem BdSt.string {B b:Nat} {l:List UInt8} {w:World} (hb:BdSt B b l w):
  Calls Tryz.prog 133 #[.pointer (some ⟨b,0,none⟩)] w fun e w'=>e= .returned (.string ⟨l.toArray⟩)∧Below B w w':=by
 have mixed:Tryz.prog.follows Departure.mixedOrders=true:=by kernel_rfl
 by_cases h0:l=[]
 ·subst h0
  have hbk:=hb.fresh rfl
  have c1:w.drew.cell? ⟨b,1,none⟩=some (.slice none 0 0):=by
   have :w.drew.heap[b]? =some (.cells #[.pointer none, .slice none 0 0] 168 (0,0)):=hbk
   rw [Lib.cell_of_heap this];rfl
  have hUS:(Builtin.unsafeString_ #[190,3] 9 #[.pointer none, .int .i64 0]).run Tryz.prog w.drew= .ok (.string .empty) w.drew:=Lib.run_unsafeString_none w.drew _ _ _ _
  have hSD:(Builtin.unsafeSliceData_ #[142] 190 #[.slice none 0 0]).run Tryz.prog w.drew= .ok (.pointer none) w.drew:=rfl
  clear hb hbk
  go_enter Tryz.func133,Tryz.ntmps133
  go_wp2
  go_region_o
  all_goals (go_wp2;go_ret;exact ⟨rfl,Below.drew (Below.refl B w)⟩)
 ·obtain ⟨p,hB,v,hbk,hown,hne⟩:∃p,Lib.BuilderAt 168 5 B b p (Lib.byteCells l) w:=by
   rcases hb.is with h |h
   ·exact ⟨_,h⟩
   ·exact ⟨_,h⟩
  have hl0:l.length≠0:=by simpa using h0
  rw [Lib.byteCells_length] at hown
  obtain ⟨g,cap,cur,rfl,hbg,hg,hnc,hcm,hcs,htake⟩:∃g cap cur,v= .slice (some ⟨g,0,none⟩) l.length cap∧B≤g∧w.heap[g]? =some (.cells cur 5 (0,0))∧l.length≤cap∧cap≤maxLen∧cur.size=cap*1∧cur.toList.take (l.length*1)=Lib.byteCells l:=by
   rcases hown.2 with ⟨_,hz⟩ |⟨g,cap,cur,hv,r⟩
   ·exact absurd hz hl0
   ·exact ⟨g,cap,cur,hv,r⟩
  have c1:w.drew.cell? ⟨b,1,none⟩=some (.slice (some ⟨g,0,none⟩) l.length cap):=by
   have :w.drew.heap[b]? =some (.cells #[p, .slice (some ⟨g,0,none⟩) l.length cap] 168 (0,0)):=hbk
   rw [Lib.cell_of_heap this];rfl
  have hSD:(Builtin.unsafeSliceData_ #[142] 190 #[.slice (some ⟨g,0,none⟩) l.length cap]).run Tryz.prog w.drew= .ok (.pointer (some ⟨g,0,none⟩)) w.drew:=
   Lib.run_unsafeSliceData_row _ _ _ _ _ _ (by omega)
  have hUS:(Builtin.unsafeString_ #[190,3] 9 #[.pointer (some ⟨g,0,none⟩), .int .i64 l.length]).run Tryz.prog w.drew= .ok (.string ⟨l.toArray⟩) (w.drew.freeze ⟨g,0,none⟩ l.length):=by
   refine Lib.run_unsafeString_row w.drew 190 3 9 5 Tryz.underlying190 (by kernel_rfl) g cur.size (by have hg':w.drew.heap[g]? =some (.cells cur 5 (0,0)):=hg;simp [World.shape?,hg']) l h0 (by omega) (by unfold maxLen at hcm;omega) ?_
   intro j x hx
   have :=hown.cells (g:=g) rfl j (.int .u8 x.toNat) (by simp [Lib.byteCells,hx])
   exact this
  clear hb hbk
  go_enter Tryz.func133,Tryz.ntmps133
  go_wp2
  go_region_o
  all_goals (go_wp2;go_ret;exact ⟨rfl,Lib.below_freeze (Below.drew (Below.refl B w)) (p:=⟨g,0,none⟩) hbg _⟩)
theorem Cx.below {w wr w':World} {H:Hd} {C:Pc} {B:Nat} (h:Cx w wr H C) (hB:w.heap.size<B) (hb:Below B wr w'):Cx w w' H C:=
 ⟨⟨hb.os.trans h.fr.os,hb.tape.trans h.fr.tape,hb.output.trans h.fr.output,Nat.le_trans h.fr.size hb.size,fun k hk hm=>(hb.block k (by omega)).trans (h.fr.block k hk hm)⟩,(hb.block _ hB).trans h.bx⟩
theorem RdB.below {w w':World} {g B:Nat} {l:List UInt8} (h:RdB w g l) (hB:g<B) (hb:Below B w w'):RdB w' g l:=fun j hj=>by
 rw [World.cell?_of_block (hb.block g hB)]
 exact h j hj
theorem nxt_take (C:Pc) (f:T3→UInt8) (k:Nat) (h:k<C.lat.length):(C.lat.take (k+1)).map f=(C.lat.take k).map f++[f C.lat[k]!]:=map_next f h
theorem snext_calls (w:World) (H:Hd) (C:Pc) (h:CiAt w H C) (hv:Valid C) (st inp:List UInt8) (hst:Wp.bits st C.lat.length=true) (hin:Wp.bits inp C.ins.length=true):
  Calls Tryz.prog 103 #[cval H C,sv st,sv inp] w fun e w'=>e= .returned (.tuple #[sv (Wp.nxt C st inp), .int .i64 0])∧Fr [] w w':=by
 have HX:=Lib.hid (Cx.start w H C)
 have KV:=Lib.hid (fun W (hW:Fr [] w W)=>svalues_calls W H C (h.keep hW) hv st inp hst hin)
 have hl64:=hv.l
 have hm0:=hv.m0
 have hm1:=hv.m1
 have KLT:=Lib.hid (fun W (hW:Fr [] w W) k (hk:k<C.lat.length)=>(h.keep hW).l.one (h.keep hW).lr hk)
 have HRN:=Lib.hid (fun k (hk:k<C.lat.length)=>valid_next hv k hk)
 have hvl:(Wp.val C st inp).length≤4096:=by rw [Wp.val_len,Wp.zr_len C hm0];omega
 obtain ⟨V,hV⟩:∃V,Wp.val C st inp=V:=⟨_,rfl⟩
 have HNX:Hid (Wp.nxt C st inp=C.lat.map fun x=>Wp.of V x.b):=by
  show _=_
  unfold Wp.nxt
  rw [hV]
 rw [HNX.out]
 rw [hV] at KV hvl
 have HTK:=Lib.hid (fun k h=>nxt_take C (fun x=>Wp.of V x.b) k h)
 have KOF:=Lib.hid (fun W g c l hb (h0:0≤l) (h1:l≤9000)=>sof_calls W g c V l hb h0 h1 hvl)
 obtain ⟨ZV,hZV⟩:∃ZV:ByteArray,(⟨V.toArray⟩:ByteArray)=ZV:=⟨_,rfl⟩
 have hzv:=sv_size hZV
 have HBW:=Lib.hid (fun W=>bw_rd W V ZV hZV)
 have hcv:=fun W=>Lib.run_convert_string_bytes (P:=Tryz.prog) W 9 143 5 ZV Tryz.underlying9 Tryz.underlying143 Tryz.underlying5
 obtain ⟨ZN,hZN⟩:∃ZN:ByteArray,(⟨(C.lat.map fun x=>Wp.of V x.b).toArray⟩:ByteArray)=ZN:=⟨_,rfl⟩
 have HZN:=Lib.hid hZN
 unfold sv at *
 rw [hZN]
 simp only [hZV] at KV
 clear h hv hst hin hV hZV hZN HNX
 obtain ⟨mx,ins,lat,outs,bads,invs,ands,nms⟩:=C
 obtain ⟨iA,iC,lA,lC,oA,oC,bA,bC,vA,vC,gA,gC,nA,nC⟩:=H
 simp only [cval,cvs] at *
 obtain ⟨c0,c1,c2,c3,c4,c5,c6,c7⟩:=HX.out.cells
 try simp only at c0 c1 c2 c3 c4 c5 c6 c7
 go_enter Tryz.func103,Tryz.ntmps103
 go_wp2_with fail
 refine (KV.out _ HX.out.fr).mono ?_
 rintro e w2 ⟨rfl,hf2⟩
 have HX2:=Lib.hid (HX.out.keep hf2)
 clear hf2 c0 c1 c2 c3 c4 c5 c6 c7 KV HX
 have hcv2:=hcv w2
 have HBW2:=Lib.hid (HBW.out w2)
 obtain ⟨w3,hw3⟩:∃W,Lib.bytesWorld w2 5 ZV=W:=⟨_,rfl⟩
 have hf3:Fr [] w2 w3:=hw3▸bytes_fr w2 5 ZV
 have hs3:w3.heap.size=w2.heap.size+1:=by rw [←hw3,Lib.bytesWorld_size]
 obtain ⟨cap,hcap⟩:∃cap,grownCap w2 ZV.size 0 5 =cap:=⟨_,rfl⟩
 rw [hw3] at hcv2 HBW2
 rw [hcap,hzv] at hcv2
 obtain ⟨w4,hw4⟩:∃W,w3.alloc (.cells #[.pointer none, .slice none 0 0] 168)=W:=⟨_,rfl⟩
 have HB4:=BdSt.start w3
 rw [hw4] at HB4
 have hf4:Fr [] w3 w4:=hw4▸box_fr' _ _
 have HX4:=Lib.hid (HX2.out.keep (hf3.then_ hf4))
 have HG4:=Lib.hid (HBW2.out.keep hf4)
 obtain ⟨B,hB⟩:∃B,w3.heap.size=B:=⟨_,rfl⟩
 rw [hB] at HB4
 have HB4:=Lib.hid HB4
 obtain ⟨gb,hgb⟩:∃gb,w2.heap.size=gb:=⟨_,rfl⟩
 rw [hgb] at HG4 hcv2
 have HGB:Hid (gb<B):=by show _<_;omega
 have HSZ:Hid (w.heap.size<B):=by
  show _<_
  have :=HX2.out.bx.lt
  omega
 clear hcv hw3 hf3 hs3 hcap hf4 HBW HBW2 HX2 hzv
 obtain ⟨d0,d1,d2,d3,d4,d5,d6,d7⟩:=HX4.out.cells
 try simp only at d0 d1 d2 d3 d4 d5 d6 d7
 go_wp2_with fail
 clear hw4 hB hgb hcv2 d0 d1 d2 d3 d4 d5 d6 d7
 go_loopg [29] lat.length (fun gg x29 wr=>∃k:Nat,k+gg=lat.length∧x29= .int .i64 k∧Hid (BdSt B B ((lat.take k).map fun x=>Wp.of V x.b) wr)∧Hid (Cx w wr ⟨iA,iC,lA,lC,oA,oC,bA,bC,vA,vC,gA,gC,nA,nC⟩ ⟨mx,ins,lat,outs,bads,invs,ands,nms⟩)∧Hid (RdB wr gb V))
 case atStart=>exact ⟨0,by omega,rfl,HB4,HX4,HG4⟩
 case round=>
  clear HB4 HX4 HG4
  obtain ⟨k,hk,rfl,HB,HXR,HG⟩:=hrel
  have HK:=Lib.hid hk
  have hkn:k≤lat.length:=by omega
  clear hk
  by_cases hlt:k<lat.length
  ·have hlt2:(k:Int)<(lat.length:Int):=by omega
   obtain ⟨ab,o,x,y,z,hA,he,cx,cy,cz,hx1,hx2,hx3⟩:=KLT.out wr HXR.out.fr k hlt
   try simp only at hA cx cy cz
   subst hA
   have hxr:=HRN.out k hlt
   have htk:=HTK.out k hlt
   try simp only at hxr htk
   rw [he.out] at hxr htk
   try simp only at hxr htk
   have HT:=Lib.hid htk
   obtain ⟨wx,hwx⟩:∃W,wr.alloc (.cells #[.int .i64 x, .int .i64 y, .int .i64 z] 63)=W:=⟨_,rfl⟩
   have hrx:At wx wr.heap.size 63 #[.int .i64 x, .int .i64 y, .int .i64 z]:=hwx▸At.new _ _ _
   have hfx:Fr [] wr wx:=hwx▸box_fr' _ _
   have HBX:=Lib.hid (HB.out.keep hfx)
   have HXX:=Lib.hid (HXR.out.keep hfx)
   have HGX:=Lib.hid (HG.out.keep hfx)
   have e0:=hrx.cell 0
   have e1:=hrx.cell 1
   have e2:=hrx.cell 2
   simp at e0 e1 e2
   have KO:=Lib.hid (KOF.out wx gb cap y HGX.out hxr.1 (by omega))
   obtain ⟨u,hu⟩:∃u,Wp.of V y=u:=⟨_,rfl⟩
   rw [hu] at KO HT
   have KW:=Lib.hid (HBX.out.write u (by rw [List.length_map,List.length_take];omega))
   clear he hx1 hx2 hx3 hxr htk hu HB HXR HG hrx hfx
   go_wp2_with fail
   refine KO.out.mono ?_
   clear KO
   rintro e w5 ⟨rfl,rfl⟩
   go_wp2_with fail
   refine KW.out.mono ?_
   clear KW
   rintro e w6 ⟨rfl,h6,b6⟩
   have HB6:Hid (BdSt B B ((lat.take (k+1)).map fun x=>Wp.of V x.b) w6):=by
    show BdSt _ _ _ _
    rw [HT.out]
    exact h6
   have HX6:=Lib.hid (HXX.out.below HSZ.out b6)
   have HG6:=Lib.hid (HGX.out.below HGB.out b6)
   clear h6 b6 hwx cx cy cz e0 e1 e2
   go_wp2_with fail
   go_roundg (gk-1)
   case measure=>have :=HK.out;omega
   case rel=>exact ⟨k+1,by have :=HK.out;omega,by go_num,HB6,HX6,HG6⟩
  ·obtain rfl :k=lat.length:=by omega
   have hbs:=HB.out
   rw [List.take_length] at hbs
   have KS:=hbs.string
   rw [HZN.out] at KS
   have KS:=Lib.hid KS
   clear HK HB hbs
   go_wp2_with fail
   refine KS.out.mono ?_
   clear KS
   rintro e w6 ⟨rfl,b6⟩
   have HX6:=Lib.hid (HXR.out.below HSZ.out b6)
   clear b6
   go_wp2_with fail
   go_ret2
   exact ⟨rfl,HX6.out.fr⟩
theorem valid_rst {C:Pc} (h:Valid C) (j:Nat) (hj:j<C.lat.length):(C.lat[j]!).c=0∨(C.lat[j]!).c=1∨(C.lat[j]!).c=(C.lat[j]!).a:=by
 have h2:=h.lat j hj
 simp only [latB,rstB,Bool.and_eq_true,Bool.or_eq_true,decide_eq_true_eq] at h2
 rcases h2.1 with (h3 |h3) |h3
 ·exact .inl h3
 ·exact .inr (.inl h3)
 ·exact .inr (.inr h3)
theorem sreset_calls (w:World) (x y z:Int) (f:UInt8) (hz:z=0∨z=1∨z=x) (hx:2≤x∧x≤4096):
  Calls Tryz.prog 162 #[.agg #[.int .i64 x, .int .i64 y, .int .i64 z], .int .u8 (f.toNat:Int)] w fun e w'=>e= .returned (.int .u8 ((Wp.rst ⟨x,y,z⟩ f).toNat:Int))∧Fr [] w w':=by
 obtain ⟨wx,hwx⟩:∃W,w.alloc (.cells #[.int .i64 x, .int .i64 y, .int .i64 z] 63)=W:=⟨_,rfl⟩
 have hrx:At wx w.heap.size 63 #[.int .i64 x, .int .i64 y, .int .i64 z]:=hwx▸At.new _ _ _
 have HF:Hid (Fr [] w wx):=hwx▸box_fr' _ _
 have e0:=hrx.cell 0
 have e1:=hrx.cell 1
 have e2:=hrx.cell 2
 simp at e0 e1 e2
 obtain ⟨r,hr⟩:∃r,Wp.rst ⟨x,y,z⟩ f=r:=⟨_,rfl⟩
 rw [hr]
 unfold Wp.rst at hr
 simp only at hr
 by_cases h:z=x
 ·rw [if_pos h] at hr
  subst hr
  have d:(z==x)=true:=by simpa using h
  clear h hz
  go_enter Tryz.func162,Tryz.ntmps162
  go_wp2_with fail
  go_ret
  exact ⟨rfl,HF.out⟩
 ·rw [if_neg h] at hr
  have d:(z==x)=false:=by simpa using h
  rcases hz with rfl |rfl |hz
  ·subst hr
   clear h
   go_enter Tryz.func162,Tryz.ntmps162
   go_wp2_with fail
   go_ret
   exact ⟨rfl,HF.out⟩
  ·subst hr
   clear h
   go_enter Tryz.func162,Tryz.ntmps162
   go_wp2_with fail
   go_ret
   exact ⟨rfl,HF.out⟩
  ·exact absurd hz h
theorem fst_next (C:Pc) (st:List UInt8) (k:Nat) (h:k<C.lat.length):((List.range (k+1)).map fun k=>Wp.rst C.lat[k]! st[k]!)=((List.range k).map fun k=>Wp.rst C.lat[k]! st[k]!)++[Wp.rst C.lat[k]! st[k]!]:=by
 rw [List.range_succ,List.map_append]
 rfl
theorem sfirst_calls (w:World) (H:Hd) (C:Pc) (h:CiAt w H C) (hv:Valid C) (st:List UInt8) (hst:Wp.bits st C.lat.length=true):
  Calls Tryz.prog 131 #[cval H C,sv st] w fun e w'=>e= .returned (.tuple #[sv (Wp.fst C st), .int .i64 0])∧Fr [] w w':=by
 have HX:=Lib.hid (Cx.start w H C)
 have hl64:=hv.l
 have hm1:=hv.m1
 have hsl:=Wp.bits_len hst
 have KC:=Lib.hid (fun W (hW:Fr [] w W)=>ccheck_ok W H C (h.keep hW) hv)
 have KB:=Lib.hid (fun W=>sbits_calls W st C.lat.length (by unfold maxLen;omega) (by omega))
 rw [hst] at KB
 have KLT:=Lib.hid (fun W (hW:Fr [] w W) k (hk:k<C.lat.length)=>(h.keep hW).l.one (h.keep hW).lr hk)
 have HRR:=Lib.hid (fun k (hk:k<C.lat.length)=>valid_rst hv k hk)
 have HRL:=Lib.hid (fun k (hk:k<C.lat.length)=>valid_lat hv k hk)
 have HTK:=Lib.hid (fun k h=>fst_next C st k h)
 obtain ⟨Z,hZ⟩:∃Z:ByteArray,(⟨st.toArray⟩:ByteArray)=Z:=⟨_,rfl⟩
 have hz:=sv_size hZ
 have HG:=Lib.hid (fun k h=>sv_get hZ k h)
 obtain ⟨ZN,hZN⟩:∃ZN:ByteArray,(⟨(Wp.fst C st).toArray⟩:ByteArray)=ZN:=⟨_,rfl⟩
 have HZN:=Lib.hid hZN
 have HFS:Hid (Wp.fst C st=(List.range C.lat.length).map fun k=>Wp.rst C.lat[k]! st[k]!):=(rfl :_=_)
 rw [HFS.out] at HZN
 obtain ⟨RS,hRS⟩:∃RS:Nat→UInt8,(fun k=>Wp.rst C.lat[k]! st[k]!)=RS:=⟨_,rfl⟩
 have HRS:Hid (∀k x y z,C.lat[k]! =⟨x,y,z⟩→Wp.rst ⟨x,y,z⟩ st[k]! =RS k):=fun k x y z hx=>by rw [←hx,←hRS]
 have hRS2:∀k:Nat,Wp.rst C.lat[k]! st[k]! =RS k:=fun k=>congrFun hRS k
 simp only [hRS2] at HZN HTK
 unfold sv at *
 rw [hZN,hZ]
 rw [hZ] at KB
 have hzl:Z.size=C.lat.length:=by omega
 clear h hv hst hZ hZN HFS hRS hRS2 hz hsl
 obtain ⟨mx,ins,lat,outs,bads,invs,ands,nms⟩:=C
 obtain ⟨iA,iC,lA,lC,oA,oC,bA,bC,vA,vC,gA,gC,nA,nC⟩:=H
 simp only [cval,cvs] at *
 obtain ⟨c0,c1,c2,c3,c4,c5,c6,c7⟩:=HX.out.cells
 try simp only at c0 c1 c2 c3 c4 c5 c6 c7
 go_enter Tryz.func131,Tryz.ntmps131
 go_wp2_with fail
 refine (KC.out _ HX.out.fr).mono ?_
 rintro e w2 ⟨rfl,hf2⟩
 have HX2:=Lib.hid (HX.out.keep hf2)
 clear hf2 c0 c1 c2 c3 c4 c5 c6 c7 KC HX
 obtain ⟨c0,c1,c2,c3,c4,c5,c6,c7⟩:=HX2.out.cells
 try simp only at c0 c1 c2 c3 c4 c5 c6 c7
 go_wp2_with fail
 refine (KB.out _).mono ?_
 rintro e w3 ⟨rfl,hf3⟩
 have HX3:=Lib.hid (HX2.out.keep hf3)
 clear hf3 c0 c1 c2 c3 c4 c5 c6 c7 KB HX2
 obtain ⟨w4,hw4⟩:∃W,w3.alloc (.cells #[.pointer none, .slice none 0 0] 168)=W:=⟨_,rfl⟩
 have HB4:=BdSt.start w3
 rw [hw4] at HB4
 have hf4:Fr [] w3 w4:=hw4▸box_fr' _ _
 have HX4:=Lib.hid (HX3.out.keep hf4)
 obtain ⟨B,hB⟩:∃B,w3.heap.size=B:=⟨_,rfl⟩
 rw [hB] at HB4
 have HB4:=Lib.hid HB4
 have HSZ:Hid (w.heap.size<B):=by
  show _<_
  have :=HX3.out.bx.lt
  omega
 clear hf4 HX3
 obtain ⟨d0,d1,d2,d3,d4,d5,d6,d7⟩:=HX4.out.cells
 try simp only at d0 d1 d2 d3 d4 d5 d6 d7
 go_wp2_with fail
 clear hw4 hB d0 d1 d2 d3 d4 d5 d6 d7
 go_loopg [24] lat.length (fun gg x24 wr=>∃k:Nat,k+gg=lat.length∧x24= .int .i64 k∧Hid (BdSt B B ((List.range k).map RS) wr)∧Hid (Cx w wr ⟨iA,iC,lA,lC,oA,oC,bA,bC,vA,vC,gA,gC,nA,nC⟩ ⟨mx,ins,lat,outs,bads,invs,ands,nms⟩))
 case atStart=>exact ⟨0,by omega,rfl,HB4,HX4⟩
 case round=>
  clear HB4 HX4
  obtain ⟨k,hk,rfl,HB,HXR⟩:=hrel
  have HK:=Lib.hid hk
  have hkn:k≤lat.length:=by omega
  clear hk
  by_cases hlt:k<lat.length
  ·have hlt2:(k:Int)<(lat.length:Int):=by omega
   obtain ⟨ab,o,x,y,z,hA,he,cx,cy,cz,hx1,hx2,hx3⟩:=KLT.out wr HXR.out.fr k hlt
   try simp only at hA cx cy cz
   subst hA
   have hxr:=HRR.out k hlt
   have hxl:=HRL.out k hlt
   try simp only at hxr hxl
   rw [he.out] at hxr hxl
   try simp only at hxr hxl
   have hkz:k<Z.size:=by omega
   obtain ⟨wx,hwx⟩:∃W,wr.alloc (.cells #[.int .i64 x, .int .i64 y, .int .i64 z] 63)=W:=⟨_,rfl⟩
   have HRX:Hid (At wx wr.heap.size 63 #[.int .i64 x, .int .i64 y, .int .i64 z]):=hwx▸At.new _ _ _
   have hfx:Fr [] wr wx:=hwx▸box_fr' _ _
   have HBX:=Lib.hid (HB.out.keep hfx)
   have HXX:=Lib.hid (HXR.out.keep hfx)
   have hrs:=HRS.out k x y z he.out
   obtain ⟨u,hu⟩:∃u,((Z[k]).toNat:Int)=u:=⟨_,rfl⟩
   have KR:Hid (∀W,Calls Tryz.prog 162 #[.agg #[.int .i64 x, .int .i64 y, .int .i64 z], .int .u8 u] W fun e w'=>e= .returned (.int .u8 ((RS k).toNat:Int))∧Fr [] W w'):=fun W=>by
    rw [←hrs,←hu,HG.out k hkz]
    exact sreset_calls W x y z st[k]! hxr (by omega)
   have KW:=Lib.hid (fun W (hW:Fr [] wx W)=>(HBX.out.keep hW).write (RS k) (by rw [List.length_map,List.length_range];omega))
   have HT:=Lib.hid (HTK.out k hlt)
   clear he hx1 hx2 hx3 hxr hxl hrs HB HXR hfx
   go_upto_region 10 with fail
   try rw [hwx]
   clear hwx
   refine wp_region_noPanic ?_
   refine wp_region_C (fun w':World=>Fr [] wx w') 5 (by kernel_rfl) ((Fr.refl _ wx).drew) (fun hT0=> ?_)
   apply TB 4 [(0,[0,4,5]),(1,[]),(2,[]),(3,[])];kernel_rfl;rfl;· (repeat (apply TBc;rfl;rfl;(· intro w hSw;(try (have hSw:=hSw.resolve_left (List.cons_ne_nil _ _);(have s0:=hSw.cellS (HRX.out.cell 0);have s1:=hSw.cellS (HRX.out.cell 1);have s2:=hSw.cellS (HRX.out.cell 2);simp at s0 s1 s2)));go_simp<;>with_reducible rfl);try simp only [Act.put,q5,q6,q7]));exact TBn
   exact hT0;intro hT0
   refine R2 4 (by kernel_rfl) (by rfl) hT0 fun K hK hSx=> ?_
   (go_simp;refine (KR.out _).mono ?_;rintro e w5 ⟨rfl,hf5⟩;dsimp only)
   refine hK.out _ _ (.inr ?_) (fun hT5=> ?_)
   ·first |exact hSx.then_ hf5 |exact hSx
   clear hK K
   try simp only [Act.put,q5,q6,q7]
   refine R2 5 (by kernel_rfl) (by rfl) hT5 fun K hK hSx=> ?_
   (go_simp;refine (KW.out _ hSx).mono ?_;rintro e w6 ⟨rfl,h6,b6⟩;dsimp only)
   refine hK.out _ _ (.inl rfl) (fun hT6=> ?_)
   clear hK K
   try simp only [Act.put,q5,q6,q7]
   refine wpAnyC_done (by kernel_rfl) ?_ _
   refine NoPanic.normal ?_
   have HB6:Hid (BdSt B B ((List.range (k+1)).map RS) w6):=by
    show BdSt _ _ _ _
    rw [HT.out]
    exact h6
   have HX6:=Lib.hid ((HXX.out.keep hSx).below HSZ.out b6)
   clear h6 b6 hSx
   go_wp2_with fail
   go_roundg (gk-1)
   case measure=>have :=HK.out;omega
   case rel=>exact ⟨k+1,by have :=HK.out;omega,by go_num,HB6,HX6⟩
  ·obtain rfl :k=lat.length:=by omega
   have KS:=HB.out.string
   rw [HZN.out] at KS
   have KS:=Lib.hid KS
   clear HK HB
   go_wp2_with fail
   refine KS.out.mono ?_
   clear KS
   rintro e w6 ⟨rfl,b6⟩
   have HX6:=Lib.hid (HXR.out.below HSZ.out b6)
   clear b6
   go_wp2_with fail
   go_ret2
   exact ⟨rfl,HX6.out.fr⟩
theorem sinitial_calls (w:World) (H:Hd) (C:Pc) (h:CiAt w H C) (hv:Valid C) (st:List UInt8) (hst:Wp.bits st C.lat.length=true):
  Calls Tryz.prog 102 #[cval H C,sv st] w fun e w'=>e= .returned (.bool (decide (Wp.fst C st=st)))∧Fr [] w w':=by
 have HX:=Lib.hid (Cx.start w H C)
 have KF:=Lib.hid (sfirst_calls _ H C (h.keep HX.out.fr) hv st hst)
 obtain ⟨F,hF⟩:∃F,Wp.fst C st=F:=⟨_,rfl⟩
 rw [hF] at KF⊢
 obtain ⟨Z,hZ⟩:∃Z:ByteArray,(⟨st.toArray⟩:ByteArray)=Z:=⟨_,rfl⟩
 obtain ⟨ZF,hZF⟩:∃Z:ByteArray,(⟨F.toArray⟩:ByteArray)=Z:=⟨_,rfl⟩
 obtain ⟨q,hq⟩:∃q,(ZF.toList==Z.toList)=q:=⟨_,rfl⟩
 have HQ:Hid (decide (F=st)=q):=by
  show _=_
  rw [←hq,←hZ,←hZF,Lib.toList_data,Lib.toList_data,Bool.eq_iff_iff,decide_eq_true_eq,beq_iff_eq]
 rw [HQ.out]
 unfold sv at *
 rw [hZ,hZF] at KF
 rw [hZ]
 clear h hv hst hF hZ hZF HQ
 obtain ⟨mx,ins,lat,outs,bads,invs,ands,nms⟩:=C
 obtain ⟨iA,iC,lA,lC,oA,oC,bA,bC,vA,vC,gA,gC,nA,nC⟩:=H
 simp only [cval,cvs] at *
 obtain ⟨c0,c1,c2,c3,c4,c5,c6,c7⟩:=HX.out.cells
 try simp only at c0 c1 c2 c3 c4 c5 c6 c7
 go_enter Tryz.func102,Tryz.ntmps102
 go_wp2_with fail
 refine KF.out.mono ?_
 rintro e w2 ⟨rfl,hf2⟩
 have HF:=Lib.hid (HX.out.fr.then_ hf2)
 clear hf2 KF
 go_wp2_with fail
 go_ret
 exact ⟨rfl,HF.out⟩
namespace Wp
theorem all_set {v:List UInt8} {p:UInt8→Bool} (h:v.all p=true) (i:Nat) {x:UInt8} (hx:p x=true):(v.set i x).all p=true:=by
 rw [List.all_eq_true] at h⊢
 intro y hy
 rcases List.mem_or_eq_of_mem_set hy with h1 |h1
 ·exact h y h1
 ·rw [h1];exact hx
theorem get_ok {v:List UInt8} (h:v.all bitOk=true) {i:Nat} (hi:i<v.length):bitOk v[i]! =true:=by
 rw [List.all_eq_true] at h
 exact h _ (mem_get hi)
theorem of_ok {v:List UInt8} (h:v.all bitOk=true) (l:Int):bitOk (of v l)=true:=by
 have hc:bitOk (if (l/2).toNat<v.length then v[(l/2).toNat]! else 48)=true:=by
  split
  ·rename_i h1;exact get_ok h h1
  ·rfl
 unfold of
 simp only
 revert hc
 generalize (if (l/2).toNat<v.length then v[(l/2).toNat]! else 48)=c
 intro hc
 split
 ·unfold bitOk at hc⊢
  simp only [Bool.or_eq_true,beq_iff_eq] at hc
  rcases hc with rfl |rfl <;>rfl
 ·exact hc
theorem ins_ok {il:List Int} {inp v:List UInt8} (hv:v.all bitOk=true) (hi:inp.all bitOk=true) (hl:inp.length=il.length):∀k,k≤il.length→(ins il inp v k).all bitOk=true
 |0,_=>hv
 |k+1,h=>all_set (ins_ok hv hi hl k (by omega)) _ (get_ok hi (by omega))
theorem lat_ok {ll:List T3} {st v:List UInt8} (hv:v.all bitOk=true) (hi:st.all bitOk=true) (hl:st.length=ll.length):∀k,k≤ll.length→(lat ll st v k).all bitOk=true
 |0,_=>hv
 |k+1,h=>all_set (lat_ok hv hi hl k (by omega)) _ (get_ok hi (by omega))
theorem gt_ok {al:List T3} {v:List UInt8} (hv:v.all bitOk=true):∀k,(gt al v k).all bitOk=true
 |0=>hv
 |k+1=>all_set (gt_ok hv k) _ (by
  unfold mn
  split
  ·exact of_ok (gt_ok hv k) _
  ·exact of_ok (gt_ok hv k) _)
theorem val_ok {C:Pc} {st inp:List UInt8} (hs:bits st C.lat.length=true) (hi:bits inp C.ins.length=true):(val C st inp).all bitOk=true:=by
 refine gt_ok (lat_ok (ins_ok ?_ (bits_ok hi) (bits_len hi) _ (Nat.le_refl _)) (bits_ok hs) (bits_len hs) _ (Nat.le_refl _)) _
 unfold zr
 rw [List.all_eq_true]
 intro x hx
 rw [List.eq_of_mem_replicate hx]
 rfl
theorem nxt_bits {C:Pc} {st inp:List UInt8} (hs:bits st C.lat.length=true) (hi:bits inp C.ins.length=true):bits (nxt C st inp) C.lat.length=true:=by
 unfold bits
 rw [Bool.and_eq_true]
 refine ⟨decide_eq_true (nxt_len C st inp),?_⟩
 rw [List.all_eq_true]
 intro x hx
 obtain ⟨y,hy,rfl⟩:=List.mem_map.1 hx
 exact of_ok (val_ok hs hi) _
theorem stt_bits {C:Pc} {st:List UInt8} {il:List (List UInt8)} (hs:bits st C.lat.length=true) (hi:∀s∈il,bits s C.ins.length=true):∀k,k≤il.length→bits (stt C st il k) C.lat.length=true
 |0,_=>hs
 |k+1,h=>nxt_bits (stt_bits hs hi k (by omega)) (hi _ (mem_get (by omega)))
theorem form_ok {C:Pc} {st:List UInt8} {il:List (List UInt8)} (h:form C st il=0):il.length≠0∧bits st C.lat.length=true∧(∀s∈il,bits s C.ins.length=true)∧fst C st=st:=by
 unfold form at h
 split at h
 ·cases h
 ·rename_i h1
  split at h
  ·cases h
  ·rename_i h2
   split at h
   ·rename_i h3
    simp only [Bool.or_eq_true,Bool.not_eq_true',not_or,List.any_eq_true,not_exists,not_and,Bool.not_eq_false] at h2
    exact ⟨h1,h2.1,h2.2,h3⟩
   ·cases h
end Wp
theorem wpList_append_strs (w:World) {ops:Array Oper} {rest:List Oper} {o:Oper} {a:Act} {Q:Exit→Act→World→Prop} (hgd:o.guard=none) (s x:Operand)
  (ho:o.op= .call { callee:= .builtin .append,args:=#[s,x],argTypes:=#[38,38] }) (A:Option Addr) (c:Nat) (l:List (List UInt8)) (n:Nat) (hs:a.eval s= .slice A n c) (hn:n=l.length) (hown:StrR w A c l)
  (ad:Addr) (m d:Nat) (ms:List (List UInt8)) (hx:a.eval x= .slice (some ad) m d) (hm:m=ms.length) (hr:∀j:Nat,j<ms.length→w.cell? (ad.add j)=some (sv ms[j]!)) (hlen:l.length+ms.length≤4194304)
  (h:∀A' cap w',StrR w' A' cap (l++ms)→Fr (blks A) w w'→(∀k,k∈blks A'→k∈blks A∨k=w.heap.size)→wpList Tryz.prog ops Q rest (a.put o.dst (.slice A' (n+m) cap)) w'):
  wpList Tryz.prog ops Q (o::rest) a w:=by
 subst hn hm
 refine wpList_plain hgd fun K hK=> ?_
 obtain ⟨A',cap,w',hrun,h2,h3,h4,h5,h6,h7⟩:=run_append_row w 38 o.type 9 (.string ⟨#[]⟩) 1 16 Tryz.underlying38 infoStrA rfl (by decide) A c l.length (l.map sv) hown ad ms.length d (ms.map sv) (by simp) (fun j u hu=>by
  simp only [List.getElem?_map,Option.map_eq_some_iff] at hu
  obtain ⟨y,hy,rfl⟩:=hu
  have hj:=(List.getElem?_eq_some_iff.1 hy).1
  have :=hr j hj
  rw [List.getElem!_eq_getElem?_getD,hy] at this
  exact this) (fun u hu=>by
  obtain ⟨y,_,rfl⟩:=List.mem_map.1 hu
  rfl) (by unfold maxLen;omega) (by omega)
 unfold Oper.wp execOp
 simp only [ho,resolve,invoke,builtin,Sem.run_bind,Sem.run_pure,Result.andThen_ok,List.map_toArray,List.map_cons,List.map_nil,hs,hx,hrun]
 refine hK _ _ (h A' cap w' ?_ h3 h4)
 unfold StrR
 rw [List.length_append,List.map_append]
 exact h2
theorem stt_next (C:Pc) (st:List UInt8) (il:List (List UInt8)) (k:Nat):(List.range (k+1+1)).map (Wp.stt C st il)=(List.range (k+1)).map (Wp.stt C st il)++[Wp.stt C st il (k+1)]:=by
 rw [List.range_succ,List.map_append]
 rfl
theorem rstates_calls (w:World) (H:Hd) (C:Pc) (h:CiAt w H C) (hv:Valid C) (st:List UInt8) (hst:Wp.bits st C.lat.length=true) (A:Option Addr) (c:Nat) (il:List (List UInt8)) (hr:RdS w A il) (hil:∀s∈il,Wp.bits s C.ins.length=true) (hl:il.length≤1048576):
  Calls Tryz.prog 62 #[cval H C,sv st, .slice A il.length c] w fun e w'=>∃A' c',e= .returned (.tuple #[.slice A' (il.length+1) c', .int .i64 0])∧StrR w' A' c' ((List.range (il.length+1)).map (Wp.stt C st il))∧Fr [] w w':=by
 have HX:=Lib.hid (Cx.start w H C)
 have hl64:=hv.l
 have hsl:=Wp.bits_len hst
 have KC:=Lib.hid (fun W (hW:Fr [] w W)=>ccheck_ok W H C (h.keep hW) hv)
 have KB:=Lib.hid (fun W=>sbits_calls W st C.lat.length (by unfold maxLen;omega) (by omega))
 rw [hst] at KB
 have KN:=Lib.hid (fun W (hW:Fr [] w W) k (hk:k<il.length)=>snext_calls W H C (h.keep hW) hv (Wp.stt C st il k) il[k]! (Wp.stt_bits hst hil k (by omega)) (hil _ (mem_get hk)))
 have HR:=Lib.hid hr
 have HN:=Lib.hid (stt_next C st il)
 obtain ⟨SS,hSS⟩:∃SS,Wp.stt C st il=SS:=⟨_,rfl⟩
 have HS0:Hid (SS 0=st):=hSS▸rfl
 have HSN:Hid (∀k,Wp.nxt C (SS k) il[k]! =SS (k+1)):=fun k=>by rw [←hSS];rfl
 simp only [hSS] at KN HN
 rw [hSS]
 clear h hv hst hil hr hsl hSS
 obtain ⟨mx,ins,lat,outs,bads,invs,ands,nms⟩:=C
 obtain ⟨iA,iC,lA,lC,oA,oC,bA,bC,vA,vC,gA,gC,nA,nC⟩:=H
 simp only [cval,cvs] at *
 obtain ⟨c0,c1,c2,c3,c4,c5,c6,c7⟩:=HX.out.cells
 try simp only at c0 c1 c2 c3 c4 c5 c6 c7
 unfold sv at KN⊢
 go_enter Tryz.func62,Tryz.ntmps62
 go_wp2_with fail
 refine (KC.out _ HX.out.fr).mono ?_
 rintro e w2 ⟨rfl,hf2⟩
 have HX2:=Lib.hid (HX.out.keep hf2)
 clear hf2 c0 c1 c2 c3 c4 c5 c6 c7 KC HX
 obtain ⟨c0,c1,c2,c3,c4,c5,c6,c7⟩:=HX2.out.cells
 try simp only at c0 c1 c2 c3 c4 c5 c6 c7
 go_wp2_with fail
 refine (KB.out _).mono ?_
 rintro e w3 ⟨rfl,hf3⟩
 have HX3:=Lib.hid (HX2.out.keep hf3)
 clear hf3 c0 c1 c2 c3 c4 c5 c6 c7 KB HX2
 obtain ⟨w4,hw4⟩:∃W,w3.alloc (.cells #[.string ⟨st.toArray⟩] 9)=W:=⟨_,rfl⟩
 have HX4:=Lib.hid (HX3.out.keep (hw4▸box_fr' _ _))
 have HS4:Hid (StrR w4 (some ⟨w3.heap.size,0,none⟩) 1 ((List.range (0+1)).map SS)):=by
  show StrR _ _ _ _
  have e:(List.range (0+1)).map SS=[st]:=by rw [←HS0.out];rfl
  rw [e,←hw4]
  exact World.ownsRow_lit w3 #[.string ⟨st.toArray⟩] 1 (Nat.zero_le _) (by simp [maxLen]) (by simp)
 have HB4:Hid (∀k∈blks (some (⟨w3.heap.size,0,none⟩:Addr)),w.heap.size<k):=fun k hk=>by
  have :=HX3.out.bx.lt
  simp [blks] at hk
  omega
 clear HX3
 go_wp2_with fail
 clear hw4
 rw [←HS0.out]
 go_loopg [1,9,29] il.length (fun gg x1 x9 x29 wr=>∃(k:Nat) (A':Option Addr) (c':Nat),k+gg=il.length∧x1= .string ⟨(SS k).toArray⟩∧x9= .slice A' (k+1) c'∧x29= .int .i64 k∧Hid (StrR wr A' c' ((List.range (k+1)).map SS))∧Hid (∀k∈blks A',w.heap.size<k)∧Hid (Cx w wr ⟨iA,iC,lA,lC,oA,oC,bA,bC,vA,vC,gA,gC,nA,nC⟩ ⟨mx,ins,lat,outs,bads,invs,ands,nms⟩))
 case atStart=>exact ⟨0,_,_,by omega,rfl,rfl,rfl,HS4,HB4,HX4⟩
 case round=>
  clear HS4 HB4 HX4
  obtain ⟨k,A',c',hk,rfl,rfl,rfl,HS,HB,HXR⟩:=hrel
  have HK:=Lib.hid hk
  have hkn:k≤il.length:=by omega
  clear hk
  by_cases hlt:k<il.length
  ·have hlt2:(k:Int)<(il.length:Int):=by omega
   obtain ⟨ab,o,s,hA,he,cx⟩:=(HR.out.keep HXR.out.fr).one hlt
   subst hA
   have KN1:=KN.out wr HXR.out.fr k hlt
   rw [HSN.out k,he.out] at KN1
   have KN1:=Lib.hid KN1
   have HNK:=Lib.hid (HN.out k)
   have HLN:Hid (((List.range (k+1)).map SS).length=k+1):=by show _=_;simp
   obtain ⟨d0,d1,d2,d3,d4,d5,d6,d7⟩:=HXR.out.cells
   try simp only at d0 d1 d2 d3 d4 d5 d6 d7
   go_wp2_with fail
   refine KN1.out.mono ?_
   clear KN1
   rintro e w5 ⟨rfl,hf5⟩
   have HX5:=Lib.hid (HXR.out.keep hf5)
   have HS5:=Lib.hid (HS.out.keep hf5)
   clear hf5 d0 d1 d2 d3 d4 d5 d6 d7 cx
   obtain ⟨V,hV⟩:∃V:ByteArray,(⟨(SS (k+1)).toArray⟩:ByteArray)=V:=⟨_,rfl⟩
   have HV:=Lib.hid hV
   rw [hV]
   clear hV
   go_wp2_with (at_builtin;(refine wpList_append_strs _ rfl _ _ rfl A' c' ((List.range (k+1)).map SS) (k+1) rfl HLN.out.symm (HS5.out.keep (box_fr' _ _)) _ 1 1 [SS (k+1)] rfl rfl (fun j hj=>by (have hj0:j=0:=by simpa using hj);subst hj0;(show _=some (sv (SS (k+1))));unfold sv;rw [HV.out,addr_add];exact lit_cell _ _ _) (by simp;omega) ?_;intro A6 c6 w6 hr6 hf6 hb6;have HR6:=Lib.hid hr6;have HF6:=Lib.hid hf6;have HB6:=Lib.hid hb6;clear hr6 hf6 hb6))
   have HX6:Hid (Cx w w6 ⟨iA,iC,lA,lC,oA,oC,bA,bC,vA,vC,gA,gC,nA,nC⟩ ⟨mx,ins,lat,outs,bads,invs,ands,nms⟩):=by
    have h1:=HX5.out.keep (box_fr' w5 (.cells #[.string V] 9))
    exact ⟨h1.fr.trans HF6.out (fun x hx=> .inr (Nat.le_of_lt (HB.out x hx))),HF6.out.at_ h1.bx (fun hm=>by have :=HB.out _ hm;omega)⟩
   have HS6:Hid (StrR w6 A6 c6 ((List.range (k+1+1)).map SS)):=by
    show StrR _ _ _ _
    rw [HNK.out]
    exact HR6.out
   have HN6:Hid (∀x∈blks A6,w.heap.size<x):=fun x hx=>by
    rcases HB6.out x hx with h |h
    ·exact HB.out x h
    ·rw [h]
     have :=HX5.out.bx.lt
     simp
     omega
   clear HR6 HF6 HB6 HX5 HS5
   go_roundg (gk-1)
   case measure=>have :=HK.out;omega
   case rel=>exact ⟨k+1,A6,c6,by have :=HK.out;omega,by rw [HV.out],rfl,by go_num,HS6,HN6,HX6⟩
  ·obtain rfl :k=il.length:=by omega
   clear HK
   go_wp2_with fail
   go_ret2
   exact ⟨A',c',rfl,HS.out,HXR.out.fr⟩
theorem rform1_calls (w:World) (g:Nat) (A:Option Addr) (n c:Nat) (hc:w.cell? ⟨g,1,none⟩=some (.slice A n c)) (hn:n≤64) (s:List UInt8) (hs:s.length≤maxLen):
  Calls Tryz.prog 101 #[sv s, .pointer (some ⟨g,0,none⟩)] w fun e w'=>e= .returned (.bool (!Wp.bits s n))∧Fr [] w w':=by
 have KB:=Lib.hid (sbits_calls w s n hs (by omega))
 obtain ⟨b,hb⟩:∃b,Wp.bits s n=b:=⟨_,rfl⟩
 rw [hb] at KB⊢
 clear hb
 unfold sv
 go_enter Tryz.func101,Tryz.ntmps101
 go_wp2_with fail
 refine KB.out.mono ?_
 rintro e w2 ⟨rfl,hf⟩
 have HF:=Lib.hid hf
 clear hf
 go_wp2_with fail
 go_ret
 exact ⟨rfl,HF.out⟩
theorem enters_rform1:∀args w,(callFunc 101 args).run Tryz.prog w= .ok (.enter 101 args) w:=enters_of Tryz.func101 (by kernel_rfl) rfl
def wvs (b:Int) (st:List UInt8) (A:Option Addr) (n c:Nat):Array Value:=#[.int .i64 b,sv st, .slice A n c]
theorem rform_calls (w:World) (H:Hd) (C:Pc) (h:CiAt w H C) (hv:Valid C) (b:Int) (hb:0≤b∧b<C.bads.length) (st:List UInt8) (hst:st.length≤maxLen) (A:Option Addr) (c:Nat) (il:List (List UInt8)) (hr:RdS w A il) (hil:∀s∈il,s.length≤maxLen) (hl:il.length≤1048576):
  Calls Tryz.prog 61 #[cval H C, .agg (wvs b st A il.length c)] w fun e w'=>e= .returned (.int .i64 (Wp.form C st il))∧Fr [] w w':=by
 obtain ⟨w1,hw1⟩:∃W,w.alloc (.cells (cvs H C) 27)=W:=⟨_,rfl⟩
 have HX1:Hid (Cx w w1 H C):=hw1▸Cx.start w H C
 obtain ⟨wa,hwa⟩:∃W,w1.alloc (.cells (wvs b st A il.length c) 43)=W:=⟨_,rfl⟩
 have HW1:Hid (At wa w1.heap.size 43 (wvs b st A il.length c)):=hwa▸At.new _ _ _
 have HXA:=Lib.hid (HX1.out.keep (hwa▸box_fr' _ _))
 have hi64:=hv.i
 have hl64:=hv.l
 have KC:=Lib.hid (fun W (hW:Fr [] w W)=>ccheck_ok W H C (h.keep hW) hv)
 have KB:=Lib.hid (fun W=>sbits_calls W st C.lat.length hst (by omega))
 have KI:=Lib.hid (fun W (hW:Fr [] w W) (hs:Wp.bits st C.lat.length=true)=>sinitial_calls W H C (h.keep hW) hv st hs)
 have KCT:Hid (∀W,Fr [] wa W→Calls Tryz.prog 100 #[.slice A il.length c, .func (.func 101) #[] #[.pointer (some ⟨w.heap.size,0,none⟩)]] W fun e w'=>e= .returned (.bool (il.any fun s=> !Wp.bits s C.ins.length))∧Fr [] W w'):=fun W hW=>
  contains_texts W A c il 101 #[.pointer (some ⟨w.heap.size,0,none⟩)] (fun s=> !Wp.bits s C.ins.length) enters_rform1 (hr.keep (HXA.out.fr.then_ hW)) (by omega) (fun W' hW' s hs=>rform1_calls W' w.heap.size H.iA C.ins.length H.iC (by
   rw [((hW.then_ hW').at_ HXA.out.bx (by simp)).cell]
   rfl) (by omega) s (hil s hs))
 obtain ⟨R,hR⟩:∃R,Wp.form C st il=R:=⟨_,rfl⟩
 rw [hR]
 unfold Wp.form at hR
 obtain ⟨b1,hb1⟩:∃b,Wp.bits st C.lat.length=b:=⟨_,rfl⟩
 obtain ⟨b2,hb2⟩:∃b,(il.any fun s=> !Wp.bits s C.ins.length)=b:=⟨_,rfl⟩
 obtain ⟨b3,hb3⟩:∃b,decide (Wp.fst C st=st)=b:=⟨_,rfl⟩
 have HR:Hid (R=if il.length=0 then 8 else if (!b1 ||b2)=true then 5 else if b3=true then 0 else 9):=by
  show _=_
  rw [←hR,hb1,hb2,←hb3]
  simp only [decide_eq_true_eq]
 rw [hb1] at KB KI
 rw [hb2] at KCT
 rw [hb3] at KI
 have d1:decide (b<0)=false:=decide_eq_false (by omega)
 have d2:decide ((C.bads.length:Int)≤b)=false:=decide_eq_false (by omega)
 have HWC:=Lib.hid (fun W (hW:Fr [] wa W)=>(show W.cell? ⟨w1.heap.size,0,none⟩=some (.int .i64 b)∧W.cell? ⟨w1.heap.size,1,none⟩=some (sv st)∧W.cell? ⟨w1.heap.size,2,none⟩=some (.slice A il.length c) from by
  have :=hW.at_ HW1.out (by simp)
  refine ⟨?_,?_,?_⟩<;>(rw [this.cell];rfl)))
 clear h hv hst hr hil hR hb1 hb2 hb3
 unfold wvs at *
 unfold sv at *
 obtain ⟨Z,hZ⟩:∃Z:ByteArray,(⟨st.toArray⟩:ByteArray)=Z:=⟨_,rfl⟩
 simp only [hZ] at *
 clear hZ
 obtain ⟨mx,ins,lat,outs,bads,invs,ands,nms⟩:=C
 obtain ⟨iA,iC,lA,lC,oA,oC,bA,bC,vA,vC,gA,gC,nA,nC⟩:=H
 simp only [cval,cvs] at *
 obtain ⟨c0,c1,c2,c3,c4,c5,c6,c7⟩:=HXA.out.cells
 try simp only at c0 c1 c2 c3 c4 c5 c6 c7
 go_enter Tryz.func61,Tryz.ntmps61
 go_wp2_with fail
 refine (KC.out _ HXA.out.fr).mono ?_
 rintro e w2 ⟨rfl,hf2⟩
 have HF2:=Lib.hid hf2
 have HX2:=Lib.hid (HXA.out.keep hf2)
 clear hf2 c0 c1 c2 c3 c4 c5 c6 c7 KC hw1 hwa
 obtain ⟨c0,c1,c2,c3,c4,c5,c6,c7⟩:=HX2.out.cells
 try simp only at c0 c1 c2 c3 c4 c5 c6 c7
 obtain ⟨a0,a1,a2⟩:=HWC.out w2 HF2.out
 by_cases h0:il.length=0
 ·have d3:((il.length:Int)==0)=true:=by simpa using h0
  have hr:R=8:=by rw [HR.out,if_pos h0]
  subst hr
  clear h0 HR
  go_wp2_with fail
  go_ret
  exact ⟨rfl,HX2.out.fr⟩
 ·have d3:((il.length:Int)==0)=false:=by simpa using h0
  have HR2:Hid (R=if (!b1 ||b2)=true then 5 else if b3=true then 0 else 9):=by
   have :=HR.out
   rw [if_neg h0] at this
   exact this
  clear h0 HR
  go_wp2_with fail
  refine (KB.out _).mono ?_
  rintro e w3 ⟨rfl,hf3⟩
  have HF3:=Lib.hid (HF2.out.then_ hf3)
  have HX3:=Lib.hid (HX2.out.keep hf3)
  clear hf3 c0 c1 c2 c3 c4 c5 c6 c7 a0 a1 a2 KB HX2 HF2
  obtain ⟨c0,c1,c2,c3,c4,c5,c6,c7⟩:=HX3.out.cells
  try simp only at c0 c1 c2 c3 c4 c5 c6 c7
  obtain ⟨a0,a1,a2⟩:=HWC.out w3 HF3.out
  cases b1 with
  |false=>
   have hr:R=5:=HR2.out
   subst hr
   go_wp2_with fail
   go_ret
   exact ⟨rfl,HX3.out.fr⟩
  |true=>
   have KI2:=Lib.hid (fun W hW=>KI.out W hW rfl)
   clear KI
   go_wp2_with fail
   refine (KCT.out _ HF3.out).mono ?_
   rintro e w4 ⟨rfl,hf4⟩
   have HF4:=Lib.hid (HF3.out.then_ hf4)
   have HX4:=Lib.hid (HX3.out.keep hf4)
   clear hf4 c0 c1 c2 c3 c4 c5 c6 c7 a0 a1 a2 KCT HX3 HF3
   obtain ⟨c0,c1,c2,c3,c4,c5,c6,c7⟩:=HX4.out.cells
   try simp only at c0 c1 c2 c3 c4 c5 c6 c7
   obtain ⟨a0,a1,a2⟩:=HWC.out w4 HF4.out
   cases b2 with
   |true=>
    have hr:R=5:=HR2.out
    subst hr
    go_wp2_with fail
    go_ret
    exact ⟨rfl,HX4.out.fr⟩
   |false=>
    have HR3:Hid (R=if b3=true then 0 else 9):=HR2.out
    clear HR2
    go_wp2_with fail
    refine (KI2.out _ HX4.out.fr).mono ?_
    rintro e w5 ⟨rfl,hf5⟩
    have HF5:=Lib.hid (HX4.out.fr.then_ hf5)
    clear hf5 c0 c1 c2 c3 c4 c5 c6 c7 a0 a1 a2 KI2
    cases b3 with
    |true=>
     have hr:R=0:=HR3.out
     subst hr
     go_wp2_with fail
     go_ret
     exact ⟨rfl,HF5.out⟩
    |false=>
     have hr:R=9:=HR3.out
     subst hr
     go_wp2_with fail
     go_ret
     exact ⟨rfl,HF5.out⟩
theorem rng_any (p:Nat→Bool) (n:Nat):(List.range n).any p=true↔∃k,k<n∧p k=true:=by
 rw [List.any_eq_true]
 simp [List.mem_range]
theorem rpcheck_calls (w:World) (H:Hd) (C:Pc) (h:CiAt w H C) (hv:Valid C) (mA:Option Addr) (mc:Nat) (am:List Ls) (hm:RdL w mA am) (hmf:∀x∈am,Fine x.l) (hml:am.length≤64) (b:Int) (hb:0≤b∧b<C.bads.length) (st:List UInt8) (hst:st.length≤maxLen) (A:Option Addr) (c:Nat) (il:List (List UInt8)) (hr:RdS w A il) (hil:∀s∈il,s.length≤maxLen) (hl:il.length≤1048576):
  Calls Tryz.prog 32 #[cval H C, .slice mA am.length mc, .agg (wvs b st A il.length c)] w fun e w'=>e= .returned (.int .i64 (Wp.chk C (am.map (·.l)) b st il))∧Fr [] w w':=by
 obtain ⟨w1,hw1⟩:∃W,w.alloc (.cells (cvs H C) 27)=W:=⟨_,rfl⟩
 have HX1:Hid (Cx w w1 H C):=hw1▸Cx.start w H C
 obtain ⟨wa,hwa⟩:∃W,w1.alloc (.cells (wvs b st A il.length c) 43)=W:=⟨_,rfl⟩
 have HW1:Hid (At wa w1.heap.size 43 (wvs b st A il.length c)):=hwa▸At.new _ _ _
 have HXA:=Lib.hid (HX1.out.keep (hwa▸box_fr' _ _))
 have hm1:=hv.m1
 have hm0:=hv.m0
 have KF:=Lib.hid (fun W (hW:Fr [] w W)=>rform_calls W H C (h.keep hW) hv b hb st hst A c il (hr.keep hW) hil hl)
 obtain ⟨F,hF⟩:∃F,Wp.form C st il=F:=⟨_,rfl⟩
 obtain ⟨R,hR⟩:∃R,Wp.chk C (am.map (·.l)) b st il=R:=⟨_,rfl⟩
 rw [hR]
 unfold Wp.chk at hR
 obtain ⟨BD,hBD⟩:∃BD,Wp.bad C (am.map (·.l)) b st il=BD:=⟨_,rfl⟩
 rw [hF,hBD] at hR
 have KST:Hid (F=0→∀W,Fr [] w W→Calls Tryz.prog 62 #[cval H C,sv st, .slice A il.length c] W fun e w'=>∃A' c',e= .returned (.tuple #[.slice A' (il.length+1) c', .int .i64 0])∧StrR w' A' c' ((List.range (il.length+1)).map (Wp.stt C st il))∧Fr [] W w'):=fun h0 W hW=>by
  obtain ⟨k1,k2,k3,k4⟩:=Wp.form_ok (hF.trans h0)
  exact rstates_calls W H C (h.keep hW) hv st k2 A c il (hr.keep hW) k3 hl
 obtain ⟨VV,hVV⟩:∃VV:Nat→List UInt8,(fun k=>Wp.val C (Wp.stt C st il k) il[k]!)=VV:=⟨_,rfl⟩
 have hVV2:∀k:Nat,Wp.val C (Wp.stt C st il k) il[k]! =VV k:=fun k=>congrFun hVV k
 have KVL:Hid (F=0→∀W,Fr [] w W→∀k,k<il.length→Calls Tryz.prog 63 #[cval H C,sv (Wp.stt C st il k),sv il[k]!] W fun e w'=>e= .returned (.tuple #[sv (VV k), .int .i64 0])∧Fr [] W w'):=fun h0 W hW k hk=>by
  obtain ⟨k1,k2,k3,k4⟩:=Wp.form_ok (hF.trans h0)
  rw [←hVV2]
  exact svalues_calls W H C (h.keep hW) hv _ _ (Wp.stt_bits k2 k3 k (by omega)) (k3 _ (mem_get hk))
 have hvl:∀k,(VV k).length≤4096:=fun k=>by rw [←hVV2,Wp.val_len,Wp.zr_len C hm0];omega
 have KAL:=Lib.hid (fun k W (hW:Fr [] w W)=>rallowed_calls W H C (h.keep hW) hv mA mc am (hm.keep hW) hmf hml (VV k) (hvl k))
 obtain ⟨bn,hbn⟩:∃bn:Nat,b=bn:=⟨b.toNat,by omega⟩
 have hbl:bn<C.bads.length:=by omega
 obtain ⟨bb,bo,bx,hbA,hbe,cbx,-⟩:=h.b.one h.br hbl
 have hbr:0≤bx∧bx≤2*C.mx+1:=by
  have h1:=hv.b
  unfold allB at h1
  rw [Bool.and_eq_true,List.all_eq_true] at h1
  rw [←hbe.out]
  exact valid_lit hv (h1.1 _ (mem_get hbl))
 have KIS:=Lib.hid (fun k W=>ris_calls W (VV k) bx hbr.1 (by omega) (hvl k))
 have HBD:Hid (∀k,BD k=(!Wp.alw C (am.map (·.l)) (VV k) || (decide (k+1=il.length)&& !Wp.is (VV k) bx))):=fun k=>by
  rw [←hBD]
  unfold Wp.bad
  rw [hVV2,hbn,Int.toNat_natCast,hbe.out]
 obtain ⟨AL,hAL⟩:∃AL:Nat→Bool,(fun k=>Wp.alw C (am.map (·.l)) (VV k))=AL:=⟨_,rfl⟩
 have hAL2:∀k,Wp.alw C (am.map (·.l)) (VV k)=AL k:=fun k=>congrFun hAL k
 obtain ⟨IS,hIS⟩:∃IS:Nat→Bool,(fun k=>Wp.is (VV k) bx)=IS:=⟨_,rfl⟩
 have hIS2:∀k,Wp.is (VV k) bx=IS k:=fun k=>congrFun hIS k
 simp only [hAL2] at KAL HBD
 simp only [hIS2] at KIS HBD
 have HRB:Hid (F=0→(∃k,k<il.length∧BD k=true)→R=51):=fun h0 hk=>by
  rw [←hR,if_neg (by simpa using h0),if_pos ((rng_any BD il.length).2 hk)]
 have HRG:Hid (F=0→(∀k,k<il.length→BD k=false)→R=0):=fun h0 hk=>by
  rw [←hR,if_neg (by simpa using h0),if_neg]
  intro hc
  obtain ⟨k,h1,h2⟩:=(rng_any BD il.length).1 hc
  rw [hk k h1] at h2
  cases h2
 have HRF:Hid (¬F=0→R=F):=fun h0=>by rw [←hR,if_pos h0]
 obtain ⟨SS,hSS⟩:∃SS,Wp.stt C st il=SS:=⟨_,rfl⟩
 simp only [hSS] at KST KVL
 rw [hF] at KF
 have HWC:=Lib.hid (fun W (hW:Fr [] wa W)=>(show W.cell? ⟨w1.heap.size,0,none⟩=some (.int .i64 b)∧W.cell? ⟨w1.heap.size,1,none⟩=some (sv st)∧W.cell? ⟨w1.heap.size,2,none⟩=some (.slice A il.length c) from by
  have :=hW.at_ HW1.out (by simp)
  refine ⟨?_,?_,?_⟩<;>(rw [this.cell];rfl)))
 have HCB:Hid (w.cell? ⟨bb,bo+bn,none⟩=some (.int .i64 bx)):=cbx
 have HRS:=Lib.hid hr
 clear h hv hm hmf hb hst hr hil hF hR hBD hVV hVV2 hvl hbe cbx hbr hAL hAL2 hIS hIS2 hSS
 unfold wvs at *
 unfold sv at *
 obtain ⟨Z,hZ⟩:∃Z:ByteArray,(⟨st.toArray⟩:ByteArray)=Z:=⟨_,rfl⟩
 simp only [hZ] at *
 clear hZ
 obtain ⟨mx,ins,lat,outs,bads,invs,ands,nms⟩:=C
 obtain ⟨iA,iC,lA,lC,oA,oC,bA,bC,vA,vC,gA,gC,nA,nC⟩:=H
 simp only [cval,cvs] at *
 try simp only at hbA hbl
 subst hbA hbn
 have hbl2:(bn:Int)<(bads.length:Int):=by omega
 obtain ⟨c0,c1,c2,c3,c4,c5,c6,c7⟩:=HXA.out.cells
 try simp only at c0 c1 c2 c3 c4 c5 c6 c7
 obtain ⟨a0,a1,a2⟩:=HWC.out wa (Fr.refl _ _)
 go_enter Tryz.func32,Tryz.ntmps32
 go_wp2_with fail
 refine (KF.out _ HXA.out.fr).mono ?_
 rintro e w2 ⟨rfl,hf2⟩
 have HF2:=Lib.hid hf2
 have HX2:=Lib.hid (HXA.out.keep hf2)
 clear hf2 c0 c1 c2 c3 c4 c5 c6 c7 a0 a1 a2 KF hw1 hwa
 by_cases h0:F=0
 ·have KST1:=Lib.hid (KST.out h0)
  have KVL1:=Lib.hid (KVL.out h0)
  have HRB1:=Lib.hid (HRB.out h0)
  have HRG1:=Lib.hid (HRG.out h0)
  subst h0
  clear KST KVL HRB HRG HRF
  obtain ⟨c0,c1,c2,c3,c4,c5,c6,c7⟩:=HX2.out.cells
  try simp only at c0 c1 c2 c3 c4 c5 c6 c7
  obtain ⟨a0,a1,a2⟩:=HWC.out w2 HF2.out
  go_wp2_with fail
  refine (KST1.out _ HX2.out.fr).mono ?_
  clear KST1
  rintro e w3 ⟨A3,c3x,rfl,hr3,hf3⟩
  have HR3:=Lib.hid hr3
  have HF3:=Lib.hid (HF2.out.then_ hf3)
  have HX3:=Lib.hid (HX2.out.keep hf3)
  clear hr3 hf3 c0 c1 c2 c3 c4 c5 c6 c7 a0 a1 a2 HX2 HF2
  obtain ⟨g3,hg3⟩:=HR3.out.pos (by simp)
  subst hg3
  obtain ⟨a0,a1,a2⟩:=HWC.out w3 HF3.out
  go_wp2_with fail
  clear a0 a1 a2
  go_loopg [32] il.length (fun gg x32 wr=>∃k:Nat,k+gg=il.length∧x32= .int .i64 k∧Hid (Fr [] w3 wr)∧Hid (∀j,j<k→BD j=false))
  case atStart=>exact ⟨0,by omega,rfl,Fr.refl _ _,fun j hj=>absurd hj (Nat.not_lt_zero _)⟩
  case round=>
   obtain ⟨k,hk,rfl,HFR,HNB⟩:=hrel
   have HK:=Lib.hid hk
   have hkn:k≤il.length:=by omega
   clear hk
   have HXR:=Lib.hid (HX3.out.keep HFR.out)
   by_cases hlt:k<il.length
   ·have hlt2:(k:Int)<(il.length:Int):=by omega
    have hlt3:(k:Int)<(il.length:Int)+1:=by omega
    obtain ⟨ab,o,s,hA,he,cx⟩:=(HRS.out.keep HXR.out.fr).one hlt
    subst hA
    have hsc:=HFR.out.cellS (HR3.out.cell (j:=k) (by simp;omega))
    have hsk:((List.range (il.length+1)).map SS)[k]! =SS k:=by
     rw [List.getElem!_eq_getElem?_getD,List.getElem?_map,List.getElem?_range (by omega)]
     rfl
    rw [hsk] at hsc
    have HSC:Hid (wr.cell? ⟨g3,k,none⟩=some (.string ⟨(SS k).toArray⟩)):=hsc
    have KV1:=Lib.hid (fun W (hW:Fr [] w W)=>KVL1.out W hW k hlt)
    rw [he.out] at KV1
    have HBK:=Lib.hid (HBD.out k)
    have KA1:=Lib.hid (KAL.out k)
    have KI1:=Lib.hid (KIS.out k)
    have HB1:Hid (BD k=true→R=51):=fun hb=>HRB1.out ⟨k,hlt,hb⟩
    obtain ⟨V,hV⟩:∃V:ByteArray,(⟨(VV k).toArray⟩:ByteArray)=V:=⟨_,rfl⟩
    simp only [hV] at KV1 KA1 KI1
    obtain ⟨al,hal⟩:∃al,AL k=al:=⟨_,rfl⟩
    obtain ⟨is,his⟩:∃is,IS k=is:=⟨_,rfl⟩
    rw [hal] at KA1 HBK
    rw [his] at KI1 HBK
    clear hsc hsk hV hal his
    go_upto_region 8 with fail
    refine wp_region_noPanic ?_
    refine wp_region_C (fun w':World=>Fr [] wr w') 6 (by kernel_rfl) ((Fr.refl _ wr).drew) (fun hT0=> ?_)
    apply TB 6 [(0,[0,6]),(1,[]),(2,[]),(3,[]),(4,[4,6]),(5,[])];kernel_rfl;rfl;· (repeat (apply TBc;rfl;rfl;(· intro w hSw;(try (have hSw:=hSw.resolve_left (List.cons_ne_nil _ _);(obtain ⟨c0,c1,c2,c3,c4,c5,c6,c7⟩:=(HXR.out.keep hSw).cells;try simp only at c0 c1 c2 c3 c4 c5 c6 c7);(have s0:=hSw.cellS HSC.out)));go_simp<;>with_reducible rfl);try simp only [Act.put,q5,q6,q7]));exact TBn
    exact hT0;intro hT0
    refine R2 6 (by kernel_rfl) (by rfl) hT0 fun K hK hSx=> ?_
    (go_simp;refine (KV1.out _ (HXR.out.fr.then_ hSx)).mono ?_;rintro e w5 ⟨rfl,hf5⟩;dsimp only)
    refine hK.out _ _ (.inl rfl) (fun hT7=> ?_)
    clear hK K
    try simp only [Act.put,q5,q6,q7]
    apply TB 3 [(7,[]),(8,[]),(9,[])];kernel_rfl;rfl;· (repeat (apply TBc;rfl;rfl;(· intro w hSw;go_simp<;>with_reducible rfl);try simp only [Act.put,q5,q6,q7]));exact TBn
    exact hT7;intro hT7
    refine R1 (i:=10) (o:= ?or8u11) (by kernel_rfl) (by rfl) ?_
    intro K hK
    go_simp
    refine hK.out _ _ (.inl rfl) (fun hT11=> ?_)
    clear hK K
    try simp only [Act.put,q5,q6,q7]
    refine R1 (i:=11) (o:= ?or8u12) (by kernel_rfl) (by rfl) ?_
    intro K hK
    go_simp
    refine hK.out _ _ (.inl rfl) (fun hT12=> ?_)
    clear hK K
    try simp only [Act.put,q5,q6,q7]
    refine wpAnyC_done (by kernel_rfl) ?_ _
    refine NoPanic.normal ?_
    have HF5:=Lib.hid (HFR.out.then_ (hSx.then_ hf5))
    have HX5:=Lib.hid (HX3.out.keep HF5.out)
    clear hf5 hSx
    obtain ⟨c0,c1,c2,c3,c4,c5,c6,c7⟩:=HX5.out.cells
    try simp only at c0 c1 c2 c3 c4 c5 c6 c7
    go_wp2_with fail
    refine (KA1.out _ HX5.out.fr).mono ?_
    clear KA1
    rintro e w6 ⟨rfl,hf6⟩
    have HF6:=Lib.hid (HF5.out.then_ hf6)
    have HX6:=Lib.hid (HX5.out.keep hf6)
    clear hf6 c0 c1 c2 c3 c4 c5 c6 c7 HX5 HF5
    cases al with
    |false=>
     have hb:BD k=true:=HBK.out
     have hr:=HB1.out hb
     subst hr
     go_wp2_with fail
     go_ret
     exact ⟨rfl,HX6.out.fr⟩
    |true=>
     obtain ⟨c0,c1,c2,c3,c4,c5,c6,c7⟩:=HX6.out.cells
     try simp only at c0 c1 c2 c3 c4 c5 c6 c7
     obtain ⟨a0,a1,a2⟩:=HWC.out w6 (HF3.out.then_ HF6.out)
     have hwl:IntKind.i64.wrap ((il.length:Int)-1)=(il.length:Int)-1:=IntWalk.i64_in _ (by omega)
     by_cases hlast:k+1=il.length
     ·have d5:((k:Int)==(il.length:Int)-1)=true:=by rw [beq_iff_eq];omega
      have HB2:Hid (BD k= !is):=by
       have :=HBK.out
       rw [decide_eq_true hlast] at this
       show _=_
       simpa using this
      have cb:=HX6.out.fr.cellS HCB.out
      clear HBK
      go_wp2_with fail
      refine (KI1.out _).mono ?_
      clear KI1
      rintro e w7 ⟨rfl,hf7⟩
      have HF7:=Lib.hid (HF6.out.then_ hf7)
      have HX7:=Lib.hid (HX6.out.keep hf7)
      clear hf7 c0 c1 c2 c3 c4 c5 c6 c7 a0 a1 a2 cb hlast d5 hwl
      cases is with
      |false=>
       have hr:=HB1.out HB2.out
       subst hr
       go_wp2_with fail
       go_ret
       exact ⟨rfl,HX7.out.fr⟩
      |true=>
       have HN2:Hid (∀j,j<k+1→BD j=false):=fun j hj=>by
        rcases Nat.lt_or_ge j k with h1 |h1
        ·exact HNB.out j h1
        ·rw [show j=k by omega];exact HB2.out
       go_wp2_with fail
       go_roundg (gk-1)
       case measure=>have :=HK.out;omega
       case rel=>exact ⟨k+1,by have :=HK.out;omega,by go_num,HF7,HN2⟩
     ·have d5:((k:Int)==(il.length:Int)-1)=false:=by rw [beq_eq_false_iff_ne];omega
      have HB2:Hid (BD k=false):=by
       have :=HBK.out
       rw [decide_eq_false hlast] at this
       show _=_
       simpa using this
      have HN2:Hid (∀j,j<k+1→BD j=false):=fun j hj=>by
       rcases Nat.lt_or_ge j k with h1 |h1
       ·exact HNB.out j h1
       ·rw [show j=k by omega];exact HB2.out
      clear HBK
      go_wp2_with fail
      go_roundg (gk-1)
      case measure=>have :=HK.out;omega
      case rel=>exact ⟨k+1,by have :=HK.out;omega,by go_num,HF6,HN2⟩
   ·obtain rfl :k=il.length:=by omega
    have hr:=HRG1.out HNB.out
    subst hr
    clear HK
    go_wp2_with fail
    go_ret
    exact ⟨rfl,HXR.out.fr⟩
 ·have d0:(F==(0:Int))=false:=by simpa using h0
  have hr:=HRF.out h0
  subst hr
  clear h0
  go_wp2_with fail
  go_ret
  exact ⟨rfl,HX2.out.fr⟩
noncomputable def witI (q:Qn) (b:Int) (st:List UInt8) (il:List (List UInt8)):Int:=
 if ¬unI q=0 then unI q else if b=q.bad then Wp.chk q.C (q.am.map (·.l)) b st il else 4
theorem cwit_calls (w:World) (H:Qh) (q:Qn) (h:QuAt w H q) (b:Int) (st:List UInt8) (hst:st.length≤maxLen) (A:Option Addr) (c:Nat) (il:List (List UInt8)) (hr:RdS w A il) (hil:∀s∈il,s.length≤maxLen) (hl:il.length≤1048576):
  Calls Tryz.prog 14 #[qval H q, .agg (wvs b st A il.length c)] w fun e w'=>e= .returned (.int .i64 (witI q b st il))∧Fr [] w w':=by
 obtain ⟨w1,hw1⟩:∃W,w.alloc (.cells (qvs H q) 30)=W:=⟨_,rfl⟩
 have HQ1:Hid (At w1 w.heap.size 30 (qvs H q)):=hw1▸At.new _ _ _
 have HF1:Hid (Fr [] w w1):=hw1▸box_fr' _ _
 obtain ⟨wa,hwa⟩:∃W,w1.alloc (.cells (wvs b st A il.length c) 43)=W:=⟨_,rfl⟩
 have HW1:Hid (At wa w1.heap.size 43 (wvs b st A il.length c)):=hwa▸At.new _ _ _
 have HFA:Hid (Fr [] w1 wa):=hwa▸box_fr' _ _
 have HFW:=Lib.hid (HF1.out.then_ HFA.out)
 have KU:=Lib.hid (ucheck_calls wa H q (h.keep HFW.out))
 have KP:Hid (unI q=0→b=q.bad→∀W,Fr [] w W→Calls Tryz.prog 32 #[cval H.H q.C, .slice H.aA q.am.length H.aC, .agg (wvs b st A il.length c)] W fun e w'=>e= .returned (.int .i64 (Wp.chk q.C (q.am.map (·.l)) b st il))∧Fr [] W w'):=fun h0 hb W hW=>by
  obtain ⟨hv,hbd,ham⟩:=unI_ok h0
  have hq:=h.keep hW
  exact rpcheck_calls W H.H q.C hq.c hv H.aA H.aC q.am hq.a (ham.fine hv.m1) (by have :=ham.1;rwa [List.length_map] at this) b (by rw [hb];exact ⟨hbd.1,hbd.2.1⟩) st hst A c il (hr.keep hW) hil hl
 obtain ⟨R,hR⟩:∃R,witI q b st il=R:=⟨_,rfl⟩
 rw [hR]
 unfold witI at hR
 obtain ⟨u,hu⟩:∃u,unI q=u:=⟨_,rfl⟩
 obtain ⟨p,hp⟩:∃p,Wp.chk q.C (q.am.map (·.l)) b st il=p:=⟨_,rfl⟩
 rw [hu,hp] at hR
 rw [hu] at KU KP
 rw [hp] at KP
 have HR:Hid (R=if ¬u=0 then u else if b=q.bad then p else 4):=hR.symm
 have HQ:=Lib.hid (fun W (hW:Fr [] wa W)=>qbx_cells ((HFA.out.then_ hW).at_ HQ1.out (by simp)))
 have HWC:=Lib.hid (fun W (hW:Fr [] wa W)=>(show W.cell? ⟨w1.heap.size,0,none⟩=some (.int .i64 b)∧W.cell? ⟨w1.heap.size,1,none⟩=some (sv st)∧W.cell? ⟨w1.heap.size,2,none⟩=some (.slice A il.length c) from by
  have :=hW.at_ HW1.out (by simp)
  refine ⟨?_,?_,?_⟩<;>(rw [this.cell];rfl)))
 clear h hst hr hil hR hu hp
 unfold wvs at *
 unfold sv at *
 obtain ⟨Z,hZ⟩:∃Z:ByteArray,(⟨st.toArray⟩:ByteArray)=Z:=⟨_,rfl⟩
 simp only [hZ] at *
 clear hZ
 simp only [qval,qvs,cval,cvs] at KU KP hw1⊢
 obtain ⟨q0,q1,q2,q3,q4,q5,q6,q7,q8,q9,q10,q11,q12,q13⟩:=HQ.out wa (Fr.refl _ _)
 go_enter Tryz.func14,Tryz.ntmps14
 go_wp2_with fail
 refine KU.out.mono ?_
 rintro e w2 ⟨rfl,hf2⟩
 have HF2:=Lib.hid hf2
 have HG2:=Lib.hid (HFW.out.then_ hf2)
 clear hf2 q0 q1 q2 q3 q4 q5 q6 q7 q8 q9 q10 q11 q12 q13 KU hw1 hwa
 obtain ⟨q0,q1,q2,q3,q4,q5,q6,q7,q8,q9,q10,q11,q12,q13⟩:=HQ.out w2 HF2.out
 obtain ⟨a0,a1,a2⟩:=HWC.out w2 HF2.out
 by_cases h0:u=0
 ·have d0:(u==(0:Int))=true:=by simpa using h0
  by_cases hb:b=q.bad
  ·have d1:(b==q.bad)=true:=by simpa using hb
   have hr:R=p:=by rw [HR.out,if_neg (by simpa using h0),if_pos hb]
   have KP1:=Lib.hid (KP.out h0 hb)
   subst h0
   subst hr
   clear hb HR KP
   go_wp2_with fail
   refine (KP1.out _ HG2.out).mono ?_
   clear KP1
   rintro e w3 ⟨rfl,hf3⟩
   have HG3:=Lib.hid (HG2.out.then_ hf3)
   clear hf3
   go_wp2_with fail
   go_ret
   exact ⟨rfl,HG3.out⟩
  ·have d1:(b==q.bad)=false:=by simpa using hb
   have hr:R=4:=by rw [HR.out,if_neg (by simpa using h0),if_neg hb]
   subst h0
   subst hr
   clear hb HR KP
   go_wp2_with fail
   go_ret
   exact ⟨rfl,HG2.out⟩
 ·have d0:(u==(0:Int))=false:=by simpa using h0
  have hr:R=u:=by rw [HR.out,if_pos h0]
  subst hr
  clear h0 HR KP
  go_wp2_with fail
  go_ret
  exact ⟨rfl,HG2.out⟩
end Go.Proofs.YtjmmpfjcpdepjaaGreatDoor
