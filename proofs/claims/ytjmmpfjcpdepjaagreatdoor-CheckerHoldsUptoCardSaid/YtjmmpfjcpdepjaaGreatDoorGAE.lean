/- Parts of a proof. -/
import Derived.Test.YtjmmpfjcpdepjaaGreatDoorGAD
import Derived.Laws.MakeOwn
import Derived.Laws.AppendOwnNone
import Derived.Laws.BitsLemmas
import Derived.Maps.OwnOps
import Derived.Maps.OwnSet
import Derived.Shelf.Abstract
set_option linter.unusedVariables false
set_option linter.unusedSimpArgs false
set_option maxHeartbeats 8000000
set_option maxRecDepth 100000
namespace Go.Proofs.YtjmmpfjcpdepjaaGreatDoor
open Go.RowKit
theorem GA {x:Int} (h: -9223372036854775808<x):(if x< -x then -x else x)=tv x:=by
 by_cases h0:x<0
 ·rw[aae (by omega),qV h0 h]
 ·rw[aac (by omega),ni (by omega)]
theorem rW {l:List Int} {n:Nat} (h:n<l.length):(l.take (n+1)).reverse=l[n]! ::(l.take n).reverse:=by rw[List.take_add_one,List.reverse_append];simp only[ae,af h,fI,List.reverse_cons,List.reverse_nil,List.nil_append,List.cons_append,ay]
theorem Sv.Ok.pK {S:Sv} {m:Nat} (ok:S.Ok m) {i:Nat} (h:i<S.T.lits.length):1<=tv S.T.lits[i]! /\tv S.T.lits[i]! <=S.vars/\ -(S.vars:Int)<=S.T.lits[i]! /\S.T.lits[i]! <=S.vars/\S.T.lits[i]! ≠0:=by
 obtain⟨R,hR⟩:=ok.tr;have hm:S.T.lits[i]! ∈S.T.lits:=get_mem h;generalize S.T.lits[i]! =x at hm⊢;rw[hR.lits,aG]at hm;obtain⟨e,he,rfl⟩:=hm;have hb:=hR.bound e he;have hv:=ok.vl;refine⟨hb.2.2.1,hb.2.2.2,?_⟩;have h3:=hb.2.2.1;have h4:=hb.2.2.2;unfold tv at h3 h4;split at h3
 ·omega
 ·split at h3
  ·rename_i h5 h6;rw[aac h5,aae h6]at h4;omega
  ·rename_i h5 h6;rw[aac h5,aac h6]at h4;omega
theorem Sv.Ok.acG {S:Sv} {m:Nat} (ok:S.Ok m):S.T.Inv:=by obtain⟨R,hR⟩:=ok.tr;exact hR.inv
theorem Sv.Ok.ic {S:Sv} {m:Nat} (ok:S.Ok m):S.T.lits.length<=S.vars:=by obtain⟨R,hR⟩:=ok.tr;have :=hR.ic;rw[hR.lits,aq];exact this
theorem qa {T:Tr} {i:Nat} (h:i<T.lits.length):T.atB (i:Int)=T.lits[i]! :=by unfold Tr.atB;rw[aae (by omega),Int.toNat_natCast]
theorem VY {L L':aO} {w w':World} (h:L.ext L' w') (hs:w.heap.size<=w'.heap.size):L.ext L' w:=⟨h.1,h.2.1,fun k hk e=>h.2.2 k (aK hk hs) e⟩
theorem nW (w:World) (L:aO) (S:Sv) (h:aX w L S) (m:Nat) (ok:S.Ok m) (level:Nat) (mj:level<4611686018427387904):
  Calls Tryz.prog 115 #[.pointer (some ⟨L.a,0,none⟩), .int .i64 level] w (pz (.tuple #[]) (S.back level) L w):=by
 have HH:=aa h;have lz:=aa ok;have lx:=ok.vl;have Kf:=ok.ic;obtain⟨c0,-⟩:=h.cells;have e0:=Ext.cell c0;have KD:=aa (lO w L.tL S.T h.tr);have KL:=aa (kQ w L.tL S.T h.tr);by_cases hs:S.T.levels.length<=level
 ·have hb:S.back level=S:=by unfold Sv.back;rw[aae hs]
  rw[hb];have na:Hid (pz (.tuple #[]) S L w (.returned (.tuple #[])) w):=⟨rfl,L,h,aO.cv _ _,Fr.refl _ _⟩
  have hd:decide ((S.T.levels.length:Int)<=(level:Int))=true:=aai (by omega);clear h ok hb;go_enter Tryz.func115,Tryz.ntmps115;go_wp2_with fail;refine KD.out.mono ?_;rintro e w1 ⟨rfl,rfl⟩;go_wp2_with fail;refine bodyPost_ret (results_none rfl _ _ _) rfl ?_;exact na.out
 ·have hd:decide ((S.T.levels.length:Int)<=(level:Int))=false:=aah (by omega);obtain⟨Q,hQ⟩:∃Q,Sv.dY (level:Int) S.T.lits.reverse S=Q:=⟨_,rfl⟩
  have hb:S.back level={ Q with T:=Q.T.df level,head:=min Q.head (Q.T.df level).lits.length }:=by unfold Sv.back;rw[aac hs,hQ]
  have hQs:=Sv.jG (level:Int) S.T.lits.reverse S m ok;rw[hQ]at hQs;obtain⟨B,hB⟩:∃B,S.back level=B:=⟨_,rfl⟩
  rw[hB]at hb⊢;have HB:=aa hb;have HQ:=aa hQ;have HQS:=aa hQs;have HT0:Hid (S.T.lits.take S.T.lits.length=S.T.lits):=cN;have Sp:=aa (Nat.lt_of_not_le hs);clear h ok hb hQ hB hQs e0;go_enter Tryz.func115,Tryz.ntmps115;go_wp2_with fail;refine KD.out.mono ?_;rintro e w1 ⟨rfl,rfl⟩;go_wp2_with fail;refine KL.out.mono ?_;rintro e w1 ⟨rfl,rfl⟩;clear KD KL;go_wp2_with fail;clear c0;go_loopg [4] S.T.lits.length (fun g x4 wr=>∃(S1:Sv) (L1:aO),g<=S.T.lits.length/\x4= .int .i64 ((g:Int)-1)/\Hid (Sv.dY (level:Int) (S.T.lits.take g).reverse S1=Q)/\Hid (S1.T=S.T/\S1.vars=S.vars/\S1.head=S.head)/\Hid (S1.Ok m)/\Hid (aX wr L1 S1)/\Hid (L.ext L1 w)/\Hid (Fr (L.own w) w wr));case atStart=>exact⟨S,L,ap _,by go_num,by rw[HT0.out];exact HQ.out,⟨rfl,rfl,rfl⟩,lz.out,HH.out,aO.cv _ _,Fr.refl _ _⟩
  case round=>
   obtain⟨S1,L1,hg,rfl,HB1,qP,kt,H1,fa,dI⟩:=hrel;have mB:L1.a=L.a:=fa.out.1;obtain⟨c0,c1,-,-,-,c5,-,-,c8,-⟩:=H1.out.cells;rw[mB]at c0 c1 c5 c8;have vS:=aa c0;have qr:=aa c1;have Yi:=aa c5;have HC8:=aa c8;have HEA:=aa mB;clear mB;by_cases hg0:gk=0
   ·subst hg0;have oO:Hid (S1=Q):=HB1.out;have FJ:decide ((0:Int)<=(((0:Nat):Int)-1))=false:=(by decide)
    clear c0 c1 c5 c8

    have KB:=vY wr L1.tL S1.T H1.out.tr kt.out.acG (level:Int);rw[Int.toNat_natCast,qP.out.1]at KB;have KB:=aa KB;have c0:=vS.out;go_wp2_with fail;refine KB.out.mono ?_;clear KB;rintro e w2 ⟨rfl,Qa,bW⟩;obtain⟨L2,g2,XQ,XP⟩:=H1.out.vZ Qa (eM.cv _ _) bW;have Tg:S1.T.df level=Q.T.df level:=(by rw[oO.out])
    rw[qP.out.1.symm.trans (by rw[qP.out.1]) ]at g2;have G2:Hid (aX w2 L2 { Q with T:=Q.T.df level }):=by
     have e1:S.T=Q.T:=(by rw[<-oO.out,qP.out.1])
     rw[<-e1,<-oO.out];exact g2
    have dn:=aa (aO.aV fa.out XQ dI.out.size);have cw:=aa (aO.aQ fa.out dI.out XP);have Jq:Hid (L2.a=L.a):=dn.out.1;have yG:=G2.out.cells;rw[Jq.out]at yG;obtain⟨d0,-,-,-,-,-,-,-,d8,-⟩:=yG;have WP:=aa d0;have SO:=aa d8;have tN:=G2.out.obj.frozen 8;rw[Jq.out]at tN;have HFZ:=aa tN;have KL:=aa (fun W (hW:Fr [] w2 W)=>kQ W L2.tL (Q.T.df level) (G2.out.tr.fr hW (by simp)));have Qy:(if(Q.T.df level).lits.length<Q.head then((Q.T.df level).lits.length:Int)else(Q.head:Int))=((min Q.head (Q.T.df level).lits.length:Nat):Int):=by rw[Nat.min_def];split<;>split<;>omega
    clear c0 Qa bW g2 XQ XP Tg d0 d8 tN;go_upto_region 10 with fail;refine aam ?_;refine bi (fun w':World=>Fr [] w2 w') 13 (by kernel_rfl) ((Fr.refl [] w2).drew) (fun cZ=> ?_);apply TB 9 [(0,[]),(1,[]),(2,[]),(3,[]),(4,[4,13]),(5,[]),(6,[]),(7,[]),(8,[8,13])];kernel_rfl;rfl;· (repeat (apply eH;rfl;rfl;(· intro w bl;(try(have bl:=bl.resolve_left (aF _ _);(have s8:=bl.aN SO.out;have s0:=bl.aN WP.out)));go_simp<;>with_reducible rfl);try simp only[Act.put,q5,q6,q7]));exact eG
    exact cZ;intro cZ;refine R2 9 (by kernel_rfl) (by rfl) cZ fun K hK aw=> ?_
    (go_simp;refine(KL.out _ aw).mono ?_;rintro e w5 ⟨rfl,rfl⟩;dsimp only)
    refine hK.out _ _ (.inr ?_) (fun js=> ?_)
    ·exact aw
    clear hK K;try simp only[Act.put,q5,q6,q7]
    apply TB 3 [(10,[]),(11,[]),(12,[])];kernel_rfl;rfl;· (repeat (apply eH;rfl;rfl;(· intro w bl;go_simp<;>with_reducible rfl);try simp only[Act.put,q5,q6,q7]));exact eG
    exact js;intro js;refine R2 13 (by kernel_rfl) (by rfl) js fun K hK aw=> ?_
    (have sb:=aw.aN SO.out;have fb:World.frozen? _ _=_:=(World.frozen?_of_block (aw.block L.a (bM SO.out) (by simp))).trans HFZ.out;go_simp)
    refine hK.out _ _ (.inl rfl) (fun mq=> ?_);clear hK K;try simp only[Act.put,q5,q6,q7]
    refine aD (by kernel_rfl) ?_ _;refine NoPanic.normal ?_;have g5:=G2.out.vo (min Q.head (Q.T.df level).lits.length);rw[Jq.out]at g5;try simp only[Qy]
    have h6:=g5.1.keep (Fr.refl [] _).drew;have f6:=g5.2.drew;have hF:Fr (L.own w) w _:=aO.aQ dn.out cw.out f6;have FF:Hid (pz (.tuple #[]) B L w (.returned (.tuple #[])) _):=⟨rfl,L2,by rw[HB.out];exact h6,dn.out,hF⟩
    go_wp2_with fail;go_end0;exact FF.out
   ·obtain⟨i,rfl⟩:∃i,gk=i+1:=⟨gk-1,by omega⟩
    have m7:i<S.T.lits.length:=(by omega)
    have hei:((i+1:Nat):Int)-1=(i:Int):=(by omega)
    rw[hei];have FJ:decide ((0:Int)<=(i:Int))=true:=aai (by omega);obtain⟨x,hx⟩:∃x,S.T.lits[i]! =x:=⟨_,rfl⟩
    have qk:=HB1.out;rw[rW m7,hx]at qk;have SU:=aa qk;have kR:=lz.out.pK m7;rw[hx]at kR;obtain⟨fN,gd,BP,P9,hx5⟩:=kR;have KA:=aa (kU wr L1.tL S1.T H1.out.tr (i:Int));rw[qP.out.1,qa m7,hx]at KA;have KV:=aa (jQ wr L1.tL S1.T H1.out.tr (tv x));obtain⟨lv,ZI⟩:∃lv,S1.T.dp (tv x)=lv:=⟨_,rfl⟩
    rw[ZI]at KV;have HLX:=aa ZI;have rF:=GA (x:=x) (by omega);obtain⟨v,hv⟩:∃v:Nat,tv x=v:=⟨(tv x).toNat,by omega⟩
    rw[hv]at fN gd KV rF;have HV:=aa hv;have dP:IntKind.i64.wrap (-x)= -x:=IntWalk.i64_in _ (by omega);clear qk hx ZI hv HB1;go_wp2_with fail;refine KA.out.mono ?_;rintro e w1 ⟨rfl,rfl⟩;clear KA;by_cases hle:lv<=(level:Int)
    ·have qj:decide (lv<=(level:Int))=true:=aai hle;have oO:Hid (S1=Q):=by have :=SU.out;rw[Sv.rz (by rw[HLX.out];exact hle)]at this;exact this
     go_wp2_with fail;refine KV.out.mono ?_;rintro e w1 ⟨rfl,rfl⟩;clear KV;clear c0 c1 c5 c8;have KB:=vY wr L1.tL S1.T H1.out.tr kt.out.acG (level:Int);rw[Int.toNat_natCast,qP.out.1]at KB;have KB:=aa KB;have c0:=vS.out;go_wp2_with fail;refine KB.out.mono ?_;clear KB;rintro e w2 ⟨rfl,Qa,bW⟩;obtain⟨L2,g2,XQ,XP⟩:=H1.out.vZ Qa (eM.cv _ _) bW;have Tg:S1.T.df level=Q.T.df level:=(by rw[oO.out])
     rw[qP.out.1.symm.trans (by rw[qP.out.1]) ]at g2;have G2:Hid (aX w2 L2 { Q with T:=Q.T.df level }):=by
      have e1:S.T=Q.T:=(by rw[<-oO.out,qP.out.1])
      rw[<-e1,<-oO.out];exact g2
     have dn:=aa (aO.aV fa.out XQ dI.out.size);have cw:=aa (aO.aQ fa.out dI.out XP);have Jq:Hid (L2.a=L.a):=dn.out.1;have yG:=G2.out.cells;rw[Jq.out]at yG;obtain⟨d0,-,-,-,-,-,-,-,d8,-⟩:=yG;have WP:=aa d0;have SO:=aa d8;have tN:=G2.out.obj.frozen 8;rw[Jq.out]at tN;have HFZ:=aa tN;have KL:=aa (fun W (hW:Fr [] w2 W)=>kQ W L2.tL (Q.T.df level) (G2.out.tr.fr hW (by simp)));have Qy:(if(Q.T.df level).lits.length<Q.head then((Q.T.df level).lits.length:Int)else(Q.head:Int))=((min Q.head (Q.T.df level).lits.length:Nat):Int):=by rw[Nat.min_def];split<;>split<;>omega
     clear c0 Qa bW g2 XQ XP Tg d0 d8 tN;go_upto_region 10 with fail;refine aam ?_;refine bi (fun w':World=>Fr [] w2 w') 13 (by kernel_rfl) ((Fr.refl [] w2).drew) (fun cZ=> ?_);apply TB 9 [(0,[]),(1,[]),(2,[]),(3,[]),(4,[4,13]),(5,[]),(6,[]),(7,[]),(8,[8,13])];kernel_rfl;rfl;· (repeat (apply eH;rfl;rfl;(· intro w bl;(try(have bl:=bl.resolve_left (aF _ _);(have s8:=bl.aN SO.out;have s0:=bl.aN WP.out)));go_simp<;>with_reducible rfl);try simp only[Act.put,q5,q6,q7]));exact eG
     exact cZ;intro cZ;refine R2 9 (by kernel_rfl) (by rfl) cZ fun K hK aw=> ?_
     (go_simp;refine(KL.out _ aw).mono ?_;rintro e w5 ⟨rfl,rfl⟩;dsimp only)
     refine hK.out _ _ (.inr ?_) (fun js=> ?_)
     ·exact aw
     clear hK K;try simp only[Act.put,q5,q6,q7]
     apply TB 3 [(10,[]),(11,[]),(12,[])];kernel_rfl;rfl;· (repeat (apply eH;rfl;rfl;(· intro w bl;go_simp<;>with_reducible rfl);try simp only[Act.put,q5,q6,q7]));exact eG
     exact js;intro js;refine R2 13 (by kernel_rfl) (by rfl) js fun K hK aw=> ?_
     (have sb:=aw.aN SO.out;have fb:World.frozen? _ _=_:=(World.frozen?_of_block (aw.block L.a (bM SO.out) (by simp))).trans HFZ.out;go_simp)
     refine hK.out _ _ (.inl rfl) (fun mq=> ?_);clear hK K;try simp only[Act.put,q5,q6,q7]
     refine aD (by kernel_rfl) ?_ _;refine NoPanic.normal ?_;have g5:=G2.out.vo (min Q.head (Q.T.df level).lits.length);rw[Jq.out]at g5;try simp only[Qy]
     have h6:=g5.1.keep (Fr.refl [] _).drew;have f6:=g5.2.drew;have hF:Fr (L.own w) w _:=aO.aQ dn.out cw.out f6;have FF:Hid (pz (.tuple #[]) B L w (.returned (.tuple #[])) _):=⟨rfl,L2,by rw[HB.out];exact h6,dn.out,hF⟩
     go_wp2_with fail;go_end0;exact FF.out
    ·have qj:decide (lv<=(level:Int))=false:=aah hle;have pF:Hid (Sv.dY (level:Int) (S.T.lits.take i).reverse (S1.qN x)=Q):=by have :=SU.out;rw[Sv.yg (by rw[HLX.out];exact hle)]at this;exact this
     have hvp:v<S1.phase.length:=by rw[kt.out.ph,qP.out.2.1];omega
     obtain⟨gp,XB,sp,fp,h2,bW⟩:=H1.out.WW hvp (decide (0<x));have c1':=h2.cells.2.1;rw[HEA.out]at c1';have c0':=h2.cells.1;rw[HEA.out]at c0';rw[XB]at c5;have adC:(v:Int)<(S1.phase.length:Int):=(by omega)
     go_wp2_with fail;refine KV.out.mono ?_;rintro e w1 ⟨rfl,rfl⟩;clear KV;go_upto_region 8 with fail;obtain⟨W2,XK⟩:∃W,wr.setCell ⟨gp,v,none⟩ (.bool (decide (0<x)))=W:=⟨_,rfl⟩
     rw[XK]at h2 bW c0' c1'⊢;have hhl:S1.H.at_.length<=262145:=by rw[kt.out.hl,qP.out.2.1];omega
     have KP:=aa (xr W2 L1.hL S1.H h2.hp kt.out.hi hhl (v:Int));have H2:=aa h2;have cw:=aa bW;clear c0 c1 c5 c8 sp fp XK h2 bW XB qj rF dP c0';go_wp2_with fail;refine KP.out.mono ?_;clear KP;rintro e w3 ⟨b,rfl,hL3,h3,yF,dh⟩;obtain⟨L3,g3,ge3,gf3⟩:=H2.out.heap h3 yF dh;have G3:Hid (aX w3 L3 (S1.qN x)):=by unfold Sv.qN;rw[HV.out,Int.toNat_natCast];exact g3
     have db:Hid (Fr (L1.own wr) wr w3):=cw.out.trans gf3 (fun k hk=>by
      rw[aO.bT]at hk;rcases bv k wr.heap.size with hl |hl
      ·exact .inl (aO.bT.2 ⟨hl,hk.2⟩)
      ·exact .inr hl)
     have GE3:=aa (VY ge3 cw.out.size);clear g3 h3 yF dh ge3 gf3 c1';go_wp2_with fail;go_roundg i;case measure=>omega
     case rel=>exact⟨S1.qN x,L3,by omega,by go_num,pF.out,⟨qP.out.1,qP.out.2.1,qP.out.2.2⟩,kt.out.qN x,G3.out,aO.aV fa.out GE3.out dI.out.size,aO.aQ fa.out dI.out db.out⟩
theorem LY (W:World) (n:Nat) (h:n<=maxLen):Ints (W.alloc (.cells (madeCells #[.int .i64 0] n) 3)) (some ⟨W.heap.size,0,none⟩) n (List.replicate n 0):=by have :=World.ownsRow_lit (base:=0) (e:=3) (size:=1) W (madeCells #[.int .i64 0] n) n (bR _) h (by rw[size_madeCells];omega);rw[toList_madeCells_one]at this;unfold Ints;rw[aW,List.map_replicate];exact this
theorem D2:(Tryz.prog.info? 4).map (fun i=>(i.zero,i.size,i.bytes))=some (some (.bool false),1,1):=by kernel_rfl
theorem mf (W:World) (z:Int) (h0:0<=z) (h1:z<=1099511627776):
  (Instr.makeSlice 119 (.int .i64 z) (.int .i64 z)).run Tryz.prog W= .ok (.slice (some ⟨W.heap.size,0,none⟩) z.toNat z.toNat) (W.alloc (.cells (madeCells #[.bool false] z.toNat) 4)):=by
 obtain⟨i0,hi,vy,nN,za⟩:=info_parts D2;obtain⟨n,rfl⟩:=Int.eq_ofNat_of_zero_le h0;have hr:=run_make (P:=Tryz.prog) W 119 4 i0 (.bool false) Tryz.underlying119 hi vy .i64 .i64 n n (by omega) (my _) (by rw[za];omega) (by omega);simp only[Int.toNat_natCast]at hr⊢;rw[nN,ku]at hr;exact hr
theorem qZ (W:World) (n:Nat) (h:n<=maxLen):Bools (W.alloc (.cells (madeCells #[.bool false] n) 4)) (some ⟨W.heap.size,0,none⟩) n (List.replicate n false):=by have :=World.ownsRow_lit (base:=0) (e:=4) (size:=1) W (madeCells #[.bool false] n) n (bR _) h (by rw[size_madeCells];omega);rw[toList_madeCells_one]at this;unfold Bools;rw[aW,List.map_replicate];exact this
theorem aX.qe {w:World} {L:aO} {S:Sv} (h:aX w L S) (i:Nat) (v:Value) (S':Sv) (he:(pM L S).setIfInBounds i v=pM L S')
  (hS:S'.T=S.T/\S'.H=S.H/\S'.list=S.list/\S'.watch=S.watch/\S'.phase=S.phase/\S'.model=S.model/\S'.core=S.core):
  aX (w.setCell ⟨L.a,i,none⟩ v) L S'/\Fr (L.own w) w (w.setCell ⟨L.a,i,none⟩ v):=by
 have hf:Fr [L.a] w (w.setCell ⟨L.a,i,none⟩ v):=(Fr.refl _ w).setCell (.inl (by simp)) _;obtain⟨h1,_,h3⟩:=h.top (L':=L) (S':=S') hf (by have :=h.obj.eu i v;rw[he]at this;exact this) ⟨rfl,rfl,rfl,rfl,rfl,rfl,rfl,rfl,rfl,rfl,rfl,rfl,rfl,rfl,rfl,rfl,rfl⟩ hS;exact⟨h1,h3⟩
theorem aX.model {w w1:World} {L:aO} {S:Sv} (h:aX w L S) {g n:Nat} {ms:List Bool} (hr:Bools w1 (some ⟨g,0,none⟩) n ms) (hg:w.heap.size<=g) (hf:Fr [] w w1):
  ∃L',aX (w1.setCell ⟨L.a,6,none⟩ (.slice (some ⟨g,0,none⟩) ms.length n)) L' { S with model:=ms }/\L.ext L' w/\Fr (L.own w) w (w1.setCell ⟨L.a,6,none⟩ (.slice (some ⟨g,0,none⟩) ms.length n))/\
   L'={ L with mA:=some ⟨g,0,none⟩,mC:=n,cY:=L.re w (6,0) }:=by
 have bW:Fr [L.a] w (w1.setCell ⟨L.a,6,none⟩ (.slice (some ⟨g,0,none⟩) ms.length n)):=(hf.mono (fun k hk=>by cases hk)).setCell (.inl (by simp)) _;have hF:∀k,k∈[L.a]->k<w.heap.size->L.cY k=(L.id,0,0):=fun k hk _=>by simp at hk;subst hk;exact h.t0
 have o:=h.off (P:=(· =(0,0))) bW (fun k hk hl=>⟨_,rfl,hF k hk hl⟩);have gt:=h.tags (6,0);have dS:L.a≠g:=by have :=h.obj.lt;omega
 refine⟨{ L with mA:=some ⟨g,0,none⟩,mC:=n,cY:=L.re w (6,0) },⟨?_,o.tr (by decide),o.hp (by decide),h.iQ,h.Cb,h.B9,o.vt (by decide),o.rws (by decide),o.vp (by decide),?_,o.uQ (by decide),fun n hn=>o.ql n hn (by simp),fun n hn=>o.sD n hn (by simp),
  gt.t0,gt.t1,gt.t2,gt.t3,gt.t4,gt.t5,fun k hk=> ?_,gt.t7,gt.t8,gt.t9⟩,⟨rfl,rfl,fun k hk e=>aO.o7 hk e⟩,aO.gS bW (fun k hk hl=>by rw[hF k hk hl]),rfl⟩
 ·have :=(hf.at_ h.obj (by simp)).eu 6 (.slice (some ⟨g,0,none⟩) ms.length n);simpa[pM]using this
 ·have dh:Fr [L.a] w1 (w1.setCell ⟨L.a,6,none⟩ (.slice (some ⟨g,0,none⟩) ms.length n)):=(Fr.refl _ w1).setCell (.inl (by simp)) _;refine fc hr dh (fun k hk hm=> ?_);simp[ak]at hk hm;omega
 ·simp[ak]at hk;subst hk;exact aO.Pt hg
theorem aX.ac9 {w:World} {L:aO} {S:Sv} (h:aX w L S) {v:Nat} (hv:v<S.model.length) (b:Bool):
  ∃gp,L.mA=some ⟨gp,0,none⟩/\w.cell? ⟨gp,v,none⟩=some (.bool S.model[v]!)/\w.frozen? ⟨gp,v,none⟩=false/\aX (w.setCell ⟨gp,v,none⟩ (.bool b)) L { S with model:=S.model.set v b }/\Fr (L.own w) w (w.setCell ⟨gp,v,none⟩ (.bool b)):=by
 have r:=h.yz;unfold Bools at r;obtain⟨gp,hg,uy⟩:∃gp,L.mA=some ⟨gp,0,none⟩/\gp<w.heap.size:=by
  rcases r.2 with⟨_,h2⟩ |⟨g,cap,cur,hv,_,hg,_⟩
  ·omega
  ·simp only[Value.slice.injEq,true_and]at hv;exact⟨g,hv.1,At.lt (t:=4) hg⟩
 rw[hg]at r;have lf:L.cY gp=(L.id,6,0):=h.t6 gp (by rw[hg];simp[ak]);have hf:Fr [gp] w (w.setCell ⟨gp,v,none⟩ (.bool b)):=(Fr.refl _ w).setCell (.inl (by simp)) _;have o:=h.off (P:=(· =(6,0))) hf (fun k hk hl=>⟨_,rfl,by simp at hk;subst hk;exact lf⟩);have gU:=(World.ownsRow.stored r v (.bool b)).1;refine⟨gp,hg,?_,World.ownsRow.frozenAt r v,⟨?_,o.tr (by decide),o.hp (by decide),h.iQ,h.Cb,h.B9,o.vt (by decide),o.rws (by decide),o.vp (by decide),?_,o.uQ (by decide),fun n hn=>o.ql n hn (by simp),fun n hn=>o.sD n hn (by simp),
  h.t0,h.t1,h.t2,h.t3,h.t4,h.t5,h.t6,h.t7,h.t8,h.t9⟩,aO.gS hf (fun k hk hl=>by simp at hk;subst hk;rw[lf])⟩
 ·rw[World.ownsRow.cellAt r v (by omega)];simp only[aJ,af hv,cD,ae,ay]
 ·have :=o.obj (by decide);simp only[pM,ao]at this⊢;exact this
 ·unfold Bools;simp only[ao,List.map_set];rw[hg];exact gU
namespace Sv
def pop (S:Sv):Sv:={ S with H:=S.H.kc }
theorem Ok.pop {S:Sv} {m:Nat} (ok:S.Ok m) (h0:0<S.H.items.length):S.pop.Ok m:=by have h:=ok.hi.pop h0;exact⟨ok.vl,ok.tr,h.1,by show S.H.kc.at_.length=_;rw[h.2.2.2.1];exact ok.hl,ok.ph,ok.wl,ok.ll,ok.wb,ok.wt,ok.lr,ok.ln,ok.lb,ok.hd,ok.rs⟩
theorem DE {S:Sv} {f:Nat} (h:S.H.items.length=0):cQ f S=(S,0):=by
 cases f with
 |zero=>rfl
 |succ f=>simp only[cQ];rw[aae h]
theorem DF {S:Sv} {f:Nat} (h:S.H.items.length≠0) (hv:S.val (S.H.it 0)≠0):cQ (f+1) S=cQ f S.pop:=by simp only[cQ];rw[aac h,aae (by exact hv)];rfl
theorem Aa {S:Sv} {f:Nat} (h:S.H.items.length≠0) (hv:S.val (S.H.it 0)=0):cQ (f+1) S=(S.pop,if S.phase[(S.H.it 0).toNat]! =true then S.H.it 0 else -(S.H.it 0)):=by simp only[cQ];rw[aac h,aac (by exact not_not_intro hv)];rfl
theorem Ok.cQ {m:Nat}:∀(f:Nat) (S:Sv),S.Ok m->(cQ f S).1.Ok m/\(Sv.cQ f S).1.T=S.T/\(Sv.cQ f S).1.vars=S.vars/\(Sv.cQ f S).1.list=S.list/\(Sv.cQ f S).1.head=S.head/\ -(S.vars:Int)<=(Sv.cQ f S).2/\(Sv.cQ f S).2<=S.vars
 |0,S,ok=>⟨ok,rfl,rfl,rfl,rfl,by simp only[Sv.cQ];omega,by simp only[Sv.cQ];omega⟩
 |f+1,S,ok=>by
  by_cases h:S.H.items.length=0
  ·rw[DE h];exact⟨ok,rfl,rfl,rfl,rfl,by simp only;omega,by simp only;omega⟩
  ·have hp:=ok.pop (by omega);by_cases hv:S.val (S.H.it 0)=0
   ·rw[Aa h hv];have hr:=ok.hi.pc.oF 0 (by omega);have hl:=ok.hl;have e:S.H.it 0=S.H.items[0]! :=jB S.H 0;refine⟨hp,rfl,rfl,rfl,rfl,?_⟩;simp only;split<;>omega
   ·rw[DF h hv];exact Ok.cQ f S.pop hp
theorem Ok.pick {S:Sv} {m:Nat} (ok:S.Ok m):S.pick.1.Ok m/\S.pick.1.T=S.T/\S.pick.1.vars=S.vars/\S.pick.1.list=S.list/\S.pick.1.head=S.head/\ -(S.vars:Int)<=S.pick.2/\S.pick.2<=S.vars:=Ok.cQ _ _ ok
end Sv
theorem Gq (w:World) (L:aO) (S:Sv) (h:aX w L S) (m:Nat) (ok:S.Ok m):
  Calls Tryz.prog 174 #[.pointer (some ⟨L.a,0,none⟩)] w (pz (.int .i64 S.pick.2) S.pick.1 L w):=by
 obtain⟨cT,de⟩:∃cT,S.pick=cT:=⟨_,rfl⟩
 have dM:Hid (Sv.cQ (S.H.items.length+1) S=cT):=de;rw[de];have na:Hid (∀(S':Sv) (r:Int),cT=(S',r)->∀W L',aX W L' S'->L.ext L' w->Fr (L.own w) w W->pz (.int .i64 cT.2) cT.1 L w (.returned (.int .i64 r)) W):=fun S' r e W L' g1 g2 g3=>by subst e;exact⟨rfl,L',g1,g2,g3⟩
 have HH:=aa h;have lz:=aa ok;have lx:=ok.vl;clear de h ok;go_enter Tryz.func174,Tryz.ntmps174;go_wp2_with fail;go_loopg [] (S.H.items.length+1) (fun g wr=>∃(S1:Sv) (L1:aO),Hid (Sv.cQ g S1=cT)/\S1.H.items.length+1<=g/\Hid (S1.T=S.T/\S1.vars=S.vars)/\Hid (S1.Ok m)/\Hid (aX wr L1 S1)/\Hid (L.ext L1 w)/\Hid (Fr (L.own w) w wr));case atStart=>exact⟨S,L,dM.out,ap _,⟨rfl,rfl⟩,lz.out,HH.out,aO.cv _ _,Fr.refl _ _⟩
 case round=>
  obtain⟨S1,L1,tf,hg,qP,kt,H1,fa,dI⟩:=hrel;have HG:=aa hg;have mB:L1.a=L.a:=fa.out.1;obtain⟨-,c1,-⟩:=H1.out.cells;rw[mB]at c1;have HEA:=aa mB;have qh:=kt.out.hi.pc.len;have hhl:=kt.out.hl;have Th:S1.vars=S.vars:=qP.out.2;clear mB hg;by_cases h0:S1.H.items.length=0
  ·have hn:S1.H.items=[]:=aP h0;have KP:=aa (ED wr L1.hL S1.H H1.out.hp hn);have HK:Hid (cT=(S1,0)):=by have :=tf.out;rw[Sv.DE h0]at this;exact this.symm
   clear hn;go_wp2_with fail;refine KP.out.mono ?_;rintro e w2 ⟨rfl,rfl⟩;clear c1;have FF:=aa (na.out S1 0 HK.out _ L1 H1.out fa.out dI.out);go_wp2_with fail;go_ret;exact FF.out
  ·obtain⟨f,rfl⟩:∃f,gk=f+1:=⟨gk-1,by have :=HG.out;omega⟩
   obtain⟨n,hn⟩:∃n,S1.H.items.length=n+1:=⟨S1.H.items.length-1,by omega⟩
   have KP:=aa (BZ wr L1.hL S1.H H1.out.hp kt.out.hi.pc.oF n hn (by omega));have hr:=kt.out.hi.pc.oF 0 (by omega);have Oy:S1.H.it 0=S1.H.items[0]! :=jB S1.H 0;rw[<-Oy]at hr;obtain⟨v,hv⟩:∃v:Nat,S1.H.it 0=v:=⟨(S1.H.it 0).toNat,by omega⟩
   rw[hv]at hr KP;have HP:=aa (kt.out.hi.pop (by omega));have HV:=aa hv;have HN:=aa hn;have Ji:=aa (kt.out.pop (by omega));clear Oy hv hn;go_wp2_with fail;refine KP.out.mono ?_;clear KP c1;rintro e w2 ⟨rfl,hp2,bW⟩;obtain⟨L2,g2,XQ,XP⟩:=H1.out.heap hp2 (fW.cv _ _) bW;have G2:Hid (aX w2 L2 S1.pop):=g2;have dn:=aa (aO.aV fa.out XQ dI.out.size);have cw:=aa (aO.aQ fa.out dI.out XP);have aeF:L2.a=L.a:=dn.out.1;obtain⟨c0,-,-,-,-,c5,-⟩:=G2.out.cells;rw[aeF]at c0 c5;have hvp:v<S1.pop.phase.length:=by rw[Ji.out.ph];show v<S1.vars+1;omega
   obtain⟨gp,XB,sp,fp⟩:=G2.out.YC hvp;rw[XB]at c5;obtain⟨b,hb⟩:∃b,S1.pop.phase[v]! =b:=⟨_,rfl⟩
   rw[hb]at sp;have HB:=aa hb;have adC:(v:Int)<(S1.pop.phase.length:Int):=by omega
   obtain⟨pl,Ap⟩:∃pl,S1.pop.phase.length=pl:=⟨_,rfl⟩
   rw[Ap]at c5 adC hvp;have KV:=ee w2 L2.tL S1.pop.T G2.out.tr (v:Int) (by omega) (by omega) Ji.out.small;obtain⟨y,hy⟩:∃y,S1.pop.T.lB (v:Int)=y:=⟨_,rfl⟩
   rw[hy]at KV;have KV:=aa KV;have HY:=aa hy;have dP:IntKind.i64.wrap (-(v:Int))= -(v:Int):=IntWalk.i64_in _ (by omega);clear hb hy Ap g2 XQ XP bW hp2 aeF XB fp;by_cases jX:y=0
   ·have hd:decide (y≠0)=false:=by simp[jX]
    have qj:(y !=0)=false:=(by simp[jX])
    have HK:Hid (cT=(S1.pop,if b=true then(v:Int)else -(v:Int))):=by have :=tf.out;rw[Sv.Aa h0 (by rw[HV.out];exact HY.out.trans jX),HV.out,Int.toNat_natCast]at this;rw[<-HB.out];exact this.symm
    subst jX;cases b with
    |true=>
     have FF:=aa (na.out S1.pop (v:Int) HK.out _ L2 G2.out dn.out cw.out);go_wp2_with fail;refine KV.out.mono ?_;rintro e w3 ⟨rfl,rfl⟩;clear KV;go_wp2_with fail;go_ret;exact FF.out
    |false=>
     have FF:=aa (na.out S1.pop (-(v:Int)) HK.out _ L2 G2.out dn.out cw.out);go_wp2_with fail;refine KV.out.mono ?_;rintro e w3 ⟨rfl,rfl⟩;clear KV;go_wp2_with fail;go_ret;exact FF.out
   ·have qj:(y !=0)=true:=by simp[jX]
    have HK:Hid (Sv.cQ f S1.pop=cT):=by have :=tf.out;rw[Sv.DF h0 (by rw[HV.out];exact fun h=>jX (HY.out.symm.trans h))]at this;exact this
    go_wp2_with fail;refine KV.out.mono ?_;rintro e w3 ⟨rfl,rfl⟩;clear KV;go_wp2_with fail;go_roundg f;case measure=>omega
    case rel=>exact⟨S1.pop,L2,HK.out,by have :=HG.out;have :=HP.out.2.2.1;have e:S1.pop.H.items.length=S1.H.kc.items.length:=rfl;omega,⟨qP.out.1,qP.out.2⟩,Ji.out,G2.out,dn.out,cw.out⟩
theorem Sv.Ok.keep {S:Sv} {m:Nat} (ok:S.Ok m):S.keep.Ok m:=
 ⟨ok.vl,ok.tr,ok.hi,ok.hl,ok.ph,ok.wl,ok.ll,ok.wb,ok.wt,ok.lr,ok.ln,ok.lb,ok.hd,ok.rs⟩
theorem GN (w:World) (L:aO) (S:Sv) (h:aX w L S) (m:Nat) (ok:S.Ok m):
  Calls Tryz.prog 175 #[.pointer (some ⟨L.a,0,none⟩)] w (pz (.tuple #[]) S.keep L w):=by
 have HH:=aa h;have lz:=aa ok;have lx:=ok.vl;obtain⟨-,-,c2,-,-,-,d6,-⟩:=h.cells;obtain⟨n,hn⟩:∃n,((S.vars:Int)+1).toNat=n:=⟨_,rfl⟩
 have ke:n=S.vars+1:=by omega
 have FI:=fun W=>mf W ((S.vars:Int)+1) (by omega) (by omega);simp only[hn]at FI;have dP:IntKind.i64.wrap ((S.vars:Int)+1)=(S.vars:Int)+1:=IntWalk.i64_in _ (by omega);have HN:=aa ke;have gW:=(h.obj.alloc (.cells (madeCells #[.bool false] n) 4)).frozen 6;have hs6:=(aH w (.cells (madeCells #[.bool false] n) 4)).aN d6;obtain⟨L1,g1,ge1,gf1,gl1⟩:=h.model (qZ w n (by unfold maxLen;omega)) (ap _) ((Fr.refl [] w).alloc _);rw[aW]at g1 gf1;obtain⟨W1,jO⟩:∃W,(w.alloc (.cells (madeCells #[.bool false] n) 4)).setCell ⟨L.a,6,none⟩ (.slice (some ⟨w.heap.size,0,none⟩) n n)=W:=⟨_,rfl⟩
 have NR:=aa jO;rw[jO]at g1 gf1;have G1:=aa g1;have GE1:=aa ge1;have GF1:=aa gf1;have mB:L1.a=L.a:=ge1.1;have hc6:=g1.cells.2.2.2.2.2.2.1;rw[gl1]at hc6;simp only[aW]at hc6;have N4:=aa hc6;clear g1 ge1 gf1 gl1 jO hn ke h ok mB hc6 d6;go_enter Tryz.func175,Tryz.ntmps175;go_upto_region 1 with fail;rw[NR.out];clear FI dP gW c2 hs6;have c6:=N4.out;go_wp2_with fail;clear c6;go_loopg [17] n (fun g Yp wr=>∃(i:Nat) (L2:aO) (ms:List Bool),i+g=n/\Yp= .int .i64 i/\Hid (ms.length=n)/\Hid (∀j:Nat,j<i->ms[j]! =decide (0<S.val (j:Int)))/\Hid (aX wr L2 { S with model:=ms })/\Hid (L.ext L2 w)/\Hid (Fr (L.own w) w wr));case atStart=>exact⟨0,L1,List.replicate n false,by omega,rfl,aW,fun j hj=>absurd hj (aI _),G1.out,GE1.out,GF1.out⟩
 case round=>
  obtain⟨i,L2,ms,hi,rfl,OP,Yd,H2,dn,cw⟩:=hrel;have HI:=aa hi;have kF:i<=n:=by omega
  have mB:L2.a=L.a:=dn.out.1;clear hi;by_cases bw:i<n
  ·obtain⟨gp,XB,sp,fp,h3,dh⟩:=H2.out.ac9 (v:=i) (by show i<ms.length;rw[OP.out];exact bw) (decide (0<S.val (i:Int)));obtain⟨c0,-,-,-,-,-,c6,-⟩:=H2.out.cells;rw[mB]at c0 c6;simp only[OP.out]at c6;rw[XB]at c6;have vS:=aa c0;have anI:=aa c6;have R9:=aa sp;have HFP:=aa fp;have H3:=aa h3;have db:=aa dh;have hd:decide ((i:Int)<(n:Int))=true:=aai (by omega);have Xx:n<=262144:=by have :=HN.out;omega
   have ml:(i:Int)<(n:Int):=by omega
   obtain⟨y,hy⟩:∃y,S.T.lB (i:Int)=y:=⟨_,rfl⟩
   have KV:=aa (fun W (hW:Fr [] wr W)=>ee W L2.tL S.T (H2.out.tr.fr hW (by simp)) (i:Int) (by omega) (by omega) lz.out.small);simp only[hy]at KV;have HY:Hid (S.val (i:Int)=y):=hy;rw[HY.out]at H3 db;clear XB sp fp h3 dh c0 c6 mB hy;go_upto_region 4 with fail;refine aam ?_;refine bi (fun w':World=>Fr [] wr w') 13 (by kernel_rfl) ((Fr.refl [] wr).drew) (fun cZ=> ?_);apply TB 10 [(0,[]),(1,[]),(2,[]),(3,[3,13]),(4,[]),(5,[]),(6,[]),(7,[]),(8,[8,13]),(9,[])];kernel_rfl;rfl;· (repeat (apply eH;rfl;rfl;(· intro w bl;(try(have bl:=bl.resolve_left (aF _ _);(have s0:=bl.aN vS.out;have s6:=bl.aN anI.out)));go_simp<;>with_reducible rfl);try simp only[Act.put,q5,q6,q7]));exact eG
   exact cZ;intro cZ;refine R2 10 (by kernel_rfl) (by rfl) cZ fun K hK aw=> ?_
   (go_simp;refine(KV.out _ aw).mono ?_;rintro e w5 ⟨rfl,rfl⟩;dsimp only)
   refine hK.out _ _ (.inr ?_) (fun fo=> ?_)
   ·exact aw
   clear hK K;try simp only[Act.put,q5,q6,q7]
   apply TB 2 [(11,[]),(12,[])];kernel_rfl;rfl;· (repeat (apply eH;rfl;rfl;(· intro w bl;go_simp<;>with_reducible rfl);try simp only[Act.put,q5,q6,q7]));exact eG
   exact fo;intro fo;refine R2 13 (by kernel_rfl) (by rfl) fo fun K hK aw=> ?_
   (have sb:=aw.aN R9.out;have fb:World.frozen? _ _=_:=(World.frozen?_of_block (aw.block gp (bM R9.out) (by simp))).trans HFP.out;go_simp)
   refine hK.out _ _ (.inl rfl) (fun mq=> ?_);clear hK K;try simp only[Act.put,q5,q6,q7]
   refine aD (by kernel_rfl) ?_ _;refine NoPanic.normal ?_;have h5:=H3.out.keep (Fr.refl [] _).drew;have f5:=db.out.drew;have am1:Hid (∀j:Nat,j<i+1->(ms.set i (decide (0<y)))[j]! =decide (0<S.val (j:Int))):=fun j hj=>by
    rw[ef];by_cases e:i=j
    ·subst e;rw[aae ⟨rfl,by rw[OP.out];exact bw⟩,HY.out]
    ·rw[aac (fun x=>e x.1)];exact Yd.out j (by omega)
   obtain⟨W5,VS⟩:∃W,((wr.setCell ⟨gp,i,none⟩ (.bool (decide (0<y)))).drew)=W:=⟨_,rfl⟩
   rw[VS]at h5 f5;have H5:=aa h5;have F5:=aa f5;try rw[VS]
   clear h5 f5 VS;go_wp2_with fail;go_roundg (n-(i+1));case measure=>have :=HI.out;omega
   case rel=>exact⟨i+1,L2,ms.set i (decide (0<y)),by omega,by go_num,(by rw[ao];exact OP.out),am1.out,H5.out,dn.out,aO.aQ dn.out cw.out F5.out⟩
  ·obtain rfl :i=n:=by omega
   have hd:decide ((i:Int)<(i:Int))=false:=by simp
   have f14:=H2.out.obj.frozen 14;rw[mB]at f14;obtain⟨-,-,-,-,-,-,-,-,-,-,-,-,-,-,s14⟩:=H2.out.cells;rw[mB]at s14;obtain⟨h3,dh⟩:=H2.out.qe 14 (.bool true) ({ S with model:=ms,has:=true }:Sv) rfl ⟨rfl,rfl,rfl,rfl,rfl,rfl,rfl⟩;rw[mB]at h3 dh;have hK:({ S with model:=ms,has:=true }:Sv)=S.keep:=by
    unfold Sv.keep;congr 1;apply List.ext_getElem
    ·rw[OP.out,aq,cu,HN.out]
    ·intro j h1 h2;have :=Yd.out j (by rw[OP.out]at h1;exact h1);simp only[List.getElem_map,List.getElem_range];rw[<-this];simp[ae,af h1]
   rw[hK]at h3;have FF:Hid (pz (.tuple #[]) S.keep L w (.returned (.tuple #[])) _):=⟨rfl,L2,h3,dn.out,aO.aQ dn.out cw.out dh⟩
   clear h3 dh hK;go_wp2_with fail;go_end0;exact FF.out
theorem uO {w:World} {ops:Array Oper} {o:Oper} {a:Act} {K:Act->World->Prop} {Q:Exit->Act->World->Prop} {E:Prop} (ow:o.guard=none) (s x:Operand) (t:TypeId)
  (ho:o.op= .call { callee:= .builtin .append,args:=#[s,x],argTypes:=#[t,t] }) (e:TypeId) (z:Value) (size bytes:Nat) (ht:Tryz.prog.underlying t=some (.slice e)) (hi:(Tryz.prog.info? e).map (fun i=>(i.zero,i.size,i.bytes))=some (some z,size,bytes)) (y9:z.cells.size=size) (ou:0<size)
  (A:Option Addr) (c n:Nat) (hs:a.eval s= .slice A n c) (xs:List Value) (dw:w.ownsRow 0 e size (.slice A n c) n xs) (ad:Addr) (c':Nat) (hx:a.eval x= .slice (some ad) 1 c') (news:List Value) (hl:news.length=size)
  (mO:∀j u,news[j]? =some u->w.cell? (ad.add j)=some u) (h1:∀u∈news,u.oneCell'=true) (OB:n+1<=maxLen) (kg:(n+1)*bytes<=140737488355328)
  (h:∀g cap w',w'.ownsRow 0 e size (.slice (some ⟨g,0,none⟩) (n+1) cap) (n+1) (xs++news)->Fr (ak A) w w'->(g∈ak A\/g=w.heap.size)->K (a.put o.dst (.slice (some ⟨g,0,none⟩) (n+1) cap)) w'):
  if Region.wanted o (yielded ops a.tmps)=true then Oper.wp Tryz.prog o a w K Q else E:=by
 have hw:Region.wanted o (yielded ops a.tmps)=true:=by simp[Region.wanted,ow]
 rw[aae hw];obtain⟨A',cap,w',hr,h2,h3,h4,h5,h6,h7⟩:=eN w t o.type e z size bytes ht hi y9 ou A c n xs dw ad 1 c' news (by omega) mO h1 OB kg;cases A' with
 |none=>exact absurd (h6 rfl).1 (by decide)
 |some a'=>
  obtain⟨g,rfl⟩:=h7 a' rfl;unfold Oper.wp execOp;simp only[ho,resolve,invoke,builtin,Sem.run_bind,Sem.run_pure,Result.andThen_ok,List.map_toArray,cj,dv,hs,hx,hr];exact h g cap w' h2 h3 (h4 g (by simp[ak]))
theorem aX.iJ {w w1:World} {L:aO} {S:Sv} (h:aX w L S) {A':Option Addr} {c':Nat} {F:List Nat} {x:Cw} (hi:sS w1 A' c' (L.cs++[x])) (hf:Fr F w w1) (hF:∀k,k∈F->k<w.heap.size->L.cY k=(L.id,3,0))
  (hA:∀k,k∈ak A'->(k<w.heap.size/\L.cY k=(L.id,3,0))\/w.heap.size<=k) (hx:Ints w x.A x.c x.lits) (J7:∀k,k∈ak x.A->L.cY k=(L.id,8,L.cs.length)):
  ∃L',aX (w1.setCell ⟨L.a,3,none⟩ (.slice A' (L.cs.length+1) c')) L' { S with list:=S.list++[x.rc] }/\L.ext L' w/\Fr (L.own w) w (w1.setCell ⟨L.a,3,none⟩ (.slice A' (L.cs.length+1) c'))/\L'={ L with cA:=A',cC:=c',cs:=L.cs++[x],cY:=L.re w (3,0) }:=by
 have bW:Fr (L.a::F) w (w1.setCell ⟨L.a,3,none⟩ (.slice A' (L.cs.length+1) c')):=(hf.mono (fun k hk=> .inl (by simp[hk]))).setCell (.inl (by simp)) _;have CS:∀k,k∈L.a::F->k<w.heap.size->∃t,(t=(3,0)\/t=(0,0))/\L.cY k=(L.id,t):=by
  intro k hk hl;rcases av.1 hk with rfl |hk
  ·exact⟨_, .inr rfl,h.t0⟩
  ·exact⟨_, .inl rfl,hF k hk hl⟩
 have o:=h.off (P:=fun t=>t=(3,0)\/t=(0,0)) bW CS;have o1:=h.off (P:=(· =(3,0))) hf (fun k hk hl=>⟨_,rfl,hF k hk hl⟩);have g:=h.tags (3,0);have dS:L.a∉ak A':=fun hk=>by
  rcases hA _ hk with⟨_,h2⟩ |h2
  ·rw[h.t0]at h2;simp at h2
  ·have :=h.obj.lt;omega
 have qi:∀j:Nat,(L.cs++[x])[j]! =if j=L.cs.length then x else L.cs[j]! :=fun j=>by
  simp only[ae,List.getElem?_append];split
  ·rw[aac (by omega)]
  ·rename_i hj;split
   ·rename_i e;subst e;simp
   ·rw[List.getElem?_eq_none (by simp;omega),List.getElem?_eq_none (by omega)]
 have hxw:Ints (w1.setCell ⟨L.a,3,none⟩ (.slice A' (L.cs.length+1) c')) x.A x.c x.lits:=hx.fr bW (fun k hk hm=>by obtain⟨t,ht,hl⟩:=CS k hm (hx.lt k hk);rw[J7 k hk]at hl;simp only[Prod.mk.injEq,true_and]at hl;rcases ht with rfl |rfl <;>simp at hl);refine⟨{ L with cA:=A',cC:=c',cs:=L.cs++[x],cY:=L.re w (3,0) },⟨?_,o.tr (by simp),o.hp (by simp),h.iQ,?_,h.B9,?_,o.rws (by simp),o.vp (by simp),o.yz (by simp),o.uQ (by simp),?_,fun c hc=>o.sD c hc (by simp),
  g.t0,g.t1,g.t2,fun k hk=>aO.nv (hA k hk),g.t4,g.t5,g.t6,g.t7,?_,g.t9⟩,⟨rfl,rfl,fun k hk e=>aO.o7 hk e⟩,aO.gS bW (fun k hk hl=>by obtain⟨t,_,e⟩:=CS k hk hl;rw[e]),rfl⟩
 ·have :=(o1.obj (by simp)).eu 3 (.slice A' (L.cs.length+1) c');simpa[pM]using this
 ·simp only[bH,cj,dv,h.Cb]
 ·unfold sS at hi⊢;have dh:Fr [L.a] w1 (w1.setCell ⟨L.a,3,none⟩ (.slice A' (L.cs.length+1) c')):=(Fr.refl _ w1).setCell (.inl (by simp)) _;exact fc hi dh (fun k hk hm=>dS (by simp at hm;subst hm;exact hk))
 ·intro j hj;simp only[aj,bN]at hj;simp only;rw[qi];split
  ·exact hxw
  ·exact o.ql j (by omega) (by simp)
 ·intro j hj k hk;simp only[aj,bN]at hj;simp only at hk;rw[qi]at hk;split at hk
  ·rename_i e;subst e;show L.re w (3,0) k=_;rw[aO.iG (hx.lt k hk)];exact J7 k hk
  ·exact g.t8 j (by omega) k hk
namespace Sv
def iJ (S:Sv) (ls:List Int) (b:Bool):Sv:={ S with list:=S.list++[⟨ls,b,S.used⟩] }
theorem vu (S:Sv) (ls:List Int) (b:Bool) (n:Nat):(S.iJ ls b).rc n=if n=S.list.length then⟨ls,b,S.used⟩else S.rc n:=by
 simp only[rc,iJ,ae,List.getElem?_append];split
 ·rw[aac (by omega)]
 ·rename_i hj;split
  ·rename_i e;subst e;simp
  ·rw[List.getElem?_eq_none (by simp;omega),List.getElem?_eq_none (by omega)]
structure Fits (S:Sv) (ls:List Int):Prop where
 two:2<=ls.length
 top:ls.length<=1048576
 lit:∀x∈ls,x≠0/\ -(S.vars:Int)<=x/\x<=S.vars
theorem Ok.iJ {S:Sv} {m:Nat} (ok:S.Ok m) {ls:List Int} (hl:S.Fits ls) (b:Bool) (hr:S.list.length<2199023255552):(S.iJ ls b).Ok (m+2):=by
 have hlen:(S.iJ ls b).list.length=S.list.length+1:=by simp[Sv.iJ]
 refine⟨ok.vl,ok.tr,ok.hi,ok.hl,ok.ph,ok.wl,by rw[hlen];omega,fun c n hn=> ?_,?_,fun n x hx=> ?_,fun n=> ?_,fun n=> ?_,ok.hd,fun v=> ?_⟩
 ·have :=ok.wb c n hn;omega
 ·rw[hlen];have :=ok.wt;show(S.watch.map List.length).sum+(m+2)<=_;omega
 ·rw[vu]at hx;split at hx
  ·exact hl.lit x hx
  ·exact ok.lr n x hx
 ·rw[vu];split
  ·have :=hl.two;show ls.length≠1;omega
  ·exact ok.ln n
 ·rw[vu];split
  ·exact hl.top
  ·exact ok.lb n
 ·rw[hlen];have :=ok.rs v;show 0<=S.T.fy v/\S.T.fy v<=_;omega
theorem Ok.V9 {S:Sv} {m:Nat} (ok:S.Ok m) {ls:List Int} (hl:S.Fits ls) (b:Bool) (hr:S.list.length<2199023255552):((S.iJ ls b).ii (aS ls[0]!) S.list.length).Ok (m+1):=by
 have h:=ok.iJ hl b hr;have h2:=hl.two;have hw:(S.iJ ls b).watch.length=2*S.vars+2:=ok.wl;have hlen:(S.iJ ls b).list.length=S.list.length+1:=by simp[Sv.iJ]
 have b0:=hl.lit _ (get_mem (l:=ls) (i:=0) (by omega));exact Ok.ii (S:=S.iJ ls b) (m:=m+1) h (c:=aS ls[0]!) (n:=S.list.length) (by rw[hw];exact gX b0.2.1 b0.2.2) (by omega)
theorem Ok.attach {S:Sv} {m:Nat} (ok:S.Ok m) {ls:List Int} (hl:S.Fits ls) (b:Bool) (hr:S.list.length<2199023255552):(S.attach ls b).Ok m:=by
 have h:=ok.iJ hl b hr;have h2:=hl.two;have hw:(S.iJ ls b).watch.length=2*S.vars+2:=ok.wl;have hlen:(S.iJ ls b).list.length=S.list.length+1:=by simp[Sv.iJ]
 have b0:=hl.lit _ (get_mem (l:=ls) (i:=0) (by omega));have b1:=hl.lit _ (get_mem (l:=ls) (i:=1) (by omega));have k1:=Ok.ii (S:=S.iJ ls b) (m:=m+1) h (c:=aS ls[0]!) (n:=S.list.length) (by rw[hw];exact gX b0.2.1 b0.2.2) (by omega);exact Ok.ii k1 (c:=aS ls[1]!) (n:=S.list.length) (by show aS ls[1]! <((S.iJ ls b).watch.set _ _).length;rw[ao,hw];exact gX b1.2.1 b1.2.2) (by show _<(S.iJ ls b).list.length;omega)
theorem cE (S:Sv) (ls:List Int) (b:Bool):(S.attach ls b).T=S.T/\(S.attach ls b).vars=S.vars/\(S.attach ls b).list.length=S.list.length+1/\(S.attach ls b).head=S.head/\(S.attach ls b).used=S.used/\(S.attach ls b).H=S.H:=by simp[attach,ii,cm]
end Sv
theorem Ut:(Tryz.prog.info? 158).map (fun i=>(i.zero,i.size,i.bytes))=some (some (.agg #[.slice none 0 0, .bool false, .int .i64 0]),3,40):=by kernel_rfl
theorem Dh {w:World} {g:Nat} {t:TypeId} {a b c:Value} (h:At w g t #[a,b,c]):∀j u,[a,b,c][j]? =some u->w.cell? ((Addr.mk g 0 none).add j)=some u:=fun j u hu=>by rw[dH,da,h.cell];simpa using hu
theorem Nl (cs:List Cw) (x:Cw):fq cs++[.slice x.A x.lits.length x.c, .bool x.jr, .int .i64 x.act]=fq (cs++[x]):=by rw[No];rfl
theorem WT {α β γ:Type} {C:α->β->γ->Prop} {P:α->β->γ->Prop} {G:Prop} (m:(∀x y z,C x y z->P x y z)->G) (t:∀x y z,C x y z->P x y z):G:=m t
def AtP (n:Nat) (S':Sv) (A:Option Addr) (c:Nat) (ls:List Int) (L:aO) (w:World) (e:Ending) (w':World):Prop:=
 e= .returned (.int .i64 (n:Nat))/\∃L',aX w' L' S'/\L'.a=L.a/\L'.id=L.id/\(∀k,k<w.heap.size->(L'.cY k).1=L.id->(L.cY k).1=L.id\/k∈ak A)/\Fr (ak A++L.own w) w w'/\Ints w' A c ls/\L'.tL=L.tL
theorem sQ (w:World) (L:aO) (S:Sv) (h:aX w L S) (m:Nat) (ok:S.Ok m) (A:Option Addr) (c:Nat) (ls:List Int) (b:Bool) (hi:Ints w A c ls) (tO:S.Fits ls) (hA:∀k,k∈ak A->(L.cY k).1≠L.id) (hr:S.list.length<2199023255552) (hu:S.used<=2199023255552):
  Calls Tryz.prog 88 #[.pointer (some ⟨L.a,0,none⟩), .slice A ls.length c, .bool b] w (AtP S.list.length (S.attach ls b) A c ls L w):=by
 obtain⟨ga,pu,Vu⟩:=hi.pos (i:=0) (by have :=tO.two;omega);subst pu;have Kg:=h.ot;have Te:=h.sf.trans ok.wl;have rE:∀k,L.has k->k∉ak (some (⟨ga,0,none⟩:Addr)):=fun k hk hm=>hA k hm (h.jN hk);have h0:=h.JS (fun k=>if k∈ak (some (⟨ga,0,none⟩:Addr))then(L.id,8,L.cs.length)else L.cY k) (fun k hk=>aac (rE k hk));obtain⟨L0,Tq⟩:∃L0,({ L with cY:=fun k=>if k∈ak (some (⟨ga,0,none⟩:Addr))then(L.id,8,L.cs.length)else L.cY k }:aO)=L0:=⟨_,rfl⟩
 rw[Tq]at h0;have ea0:L0.a=L.a:=by rw[<-Tq]
 have alP:L0.cs=L.cs:=by rw[<-Tq]
 have aff:L0.ws=L.ws:=by rw[<-Tq]
 have aaz:L0.id=L.id:=by rw[<-Tq]
 have aec:L0.cY ga=(L0.id,8,L0.cs.length):=by rw[<-Tq];simp[ak]
 have yI:Hid (∀W L',aX W L' (S.attach ls b)->L0.ext L' w->Fr (L0.own w) w W->Ints W (some ⟨ga,0,none⟩) c ls->L'.tL=L0.tL->AtP S.list.length (S.attach ls b) (some ⟨ga,0,none⟩) c ls L w (.returned (.int .i64 (S.list.length:Nat))) W):=fun W L' g1 g2 g3 g4 g5=>by
  refine⟨rfl,L',g1,g2.1.trans ea0,g2.2.1.trans aaz,fun k hk e=> ?_,?_,g4,by rw[g5,<-Tq]⟩
  ·have e2:=g2.2.2 k hk (e.trans aaz.symm);rw[<-Tq]at e2;simp only at e2;by_cases hm:k∈ak (some (⟨ga,0,none⟩:Addr))
   ·exact .inr hm
   ·rw[aac hm]at e2;exact .inl e2
  ·refine g3.mono (fun k hk=> ?_);rw[aO.bT]at hk
   left
   by_cases hm:k∈ak (some (⟨ga,0,none⟩:Addr))
   ·exact an _ hm
   ·refine bk _ (aO.bT.2 ⟨hk.1,?_⟩);have e2:=hk.2;rw[<-Tq]at e2;simp only[aac hm]at e2;exact e2
 have hlC:L0.cs.length=S.list.length:=h0.ot;have adz:L0.ws.length=2*S.vars+2:=by rw[aff];exact Te
 have Xp:=hi.cell (i:=0) (by have :=tO.two;omega);have Xo:=hi.cell (i:=1) (by have :=tO.two;omega);obtain⟨-,-,-,c3,c4,-,-,-,-,c9,-⟩:=h0.cells;have f3:=h0.obj.frozen 3;rw[ea0]at c3 c4 c9 f3;have FA:=aa c3;have N5:=aa c4;have HC9:=aa c9;have db:=aa f3;have vm:=aa tO;have oM:sS w L0.cA L0.cC L0.cs:=h0.vt;have om:Hid (L.a∉ak L0.cA):=fun hm=>by have e1:=h0.t3 _ hm;rw[<-ea0,h0.t0]at e1;simp at e1
 have ZM:∀k,k∈ak L0.cA->k<w.heap.size:=dZ oM;have Xu:∀k,k∈ak L0.cA->L0.cY k=(L0.id,3,0):=h0.t3;have age:=aa ZM;have Sf:=aa Xu;have H0:=aa h0;have HI:=aa hi;have vQ:=aa aec;have agE:=aa ea0;have lz:=aa (ok.iJ tO b hr);have Sh:=aa (ok.V9 tO b hr);have HLC:=aa hlC;have atU:=aa adz;have HR0:=aa Xp;have tf:=aa Xo;have akD:L0.cs.length<2199023255552:=by omega
 obtain⟨n,hn⟩:∃n,L0.cs.length=n:=⟨_,rfl⟩
 have hnS:S.list.length=n:=by omega
 rw[hnS]at yI⊢;rw[hn]at c3 akD;have HN:=aa hn;unfold sS at oM;rw[hn]at oM;have afZ:=aa oM;have m6:2<=ls.length:=tO.two;have HNS:=aa hnS;have bw:ls.length<=1048576:=tO.top;have HVL:=aa ok.vl;clear f3 c4 c9 oM ZM Xu h0 hi aec ea0 h ok tO hA rE Tq alP aff aaz Kg Te hlC adz Xp Xo hn hnS hr;go_enter Tryz.func88,Tryz.ntmps88;go_wp2_with fail;clear c3;go_upto_region 2 with fail;refine aam ?_;refine bi (fun w':World=>Fr (ak L0.cA) w w') 16 (by kernel_rfl) ((Fr.refl _ w).drew) (fun cZ=> ?_);apply TB 12 [(0,[]),(1,[]),(2,[]),(3,[]),(4,[4,16]),(5,[]),(6,[]),(7,[]),(8,[]),(9,[]),(10,[10,16]),(11,[])];kernel_rfl;rfl;· (repeat (apply eH;rfl;rfl;(· intro w bl;(try(have bl:=bl.resolve_left (aF _ _);(have s3:=bl.bK om.out FA.out;have s9:=bl.bK om.out HC9.out;rw[HN.out]at s3)));go_simp<;>with_reducible rfl);try simp only[Act.put,q5,q6,q7]));exact eG
 exact cZ;intro cZ;refine R2 12 (by kernel_rfl) (by rfl) cZ fun K hK aw=> ?_;go_simp;refine hK.out _ _ (.inr ?_) (fun kH=> ?_)
 ·first |exact aw.ag dh |exact aw.alloc _ |exact aw
 clear hK K;try simp only[Act.put,q5,q6,q7]
 refine R2 13 (by kernel_rfl) (by rfl) kH fun K hK aw=> ?_
 (refine uO rfl _ _ 120 rfl 158 (.agg #[.slice none 0 0, .bool false, .int .i64 0]) 3 40 Tryz.underlying120 Ut rfl (by decide) L0.cA L0.cC n rfl (fq L0.cs) ?ML _ 1 rfl [.slice (some ⟨ga,0,none⟩) ls.length c, .bool b, .int .i64 S.used] rfl ?Hw (by simp[Value.oneCell']) (by unfold maxLen;omega) (by omega) ?_;(case ML=>exact fc afZ.out ((Fr.refl [] w).alloc _).drew (fun k hk hm=>by cases hm));(case Hw=>exact Dh (At.new _ _ _));intro g3 afp w3 hi3 dh xp)
 refine hK.out _ _ (.inr ?_) (fun mq=> ?_)
 ·first |exact aw.ag dh |exact aw.alloc _ |exact aw
 clear hK K;try simp only[Act.put,q5,q6,q7]
 apply TB 2 [(14,[]),(15,[])];kernel_rfl;rfl;· (repeat (apply eH;rfl;rfl;(· intro w bl;go_simp<;>with_reducible rfl);try simp only[Act.put,q5,q6,q7]));exact eG
 exact mq;intro mq;refine R2 16 (by kernel_rfl) (by rfl) mq fun K hK aw=> ?_
 (have sb:=aw.bK om.out FA.out;have fb:World.frozen? _ _=_:=(World.frozen?_of_block (aw.block L.a (bM FA.out) om.out)).trans db.out;go_simp)
 refine hK.out _ _ (.inl rfl) (fun ie=> ?_);clear hK K;try simp only[Act.put,q5,q6,q7]
 refine aD (by kernel_rfl) ?_ _;refine NoPanic.normal ?_;have BU:sS w3 (some ⟨g3,0,none⟩) afp (L0.cs++[⟨some ⟨ga,0,none⟩,c,ls,b,S.used⟩]):=by unfold sS;rw[<-Nl,aj,bN,HN.out];exact hi3
 obtain⟨L1,h1,td,cX,yJ⟩:=H0.out.iJ (x:=⟨some ⟨ga,0,none⟩,c,ls,b,S.used⟩) BU aw (fun k hk _=>Sf.out k hk) (fun k hk=>by
  simp[ak]at hk;subst hk;rcases xp with h5 |h5
  ·exact .inl ⟨age.out _ h5,Sf.out _ h5⟩
  ·right
   rw[h5];simp) HI.out (fun k hk=>by simp[ak]at hk;subst hk;exact vQ.out)
 rw[agE.out,HN.out]at h1 cX;obtain⟨W1,jO⟩:∃W,w3.setCell ⟨L.a,3,none⟩ (.slice (some ⟨g3,0,none⟩) (n+1) afp)=W:=⟨_,rfl⟩
 rw[jO]at h1 cX⊢;have H1:Hid (aX W1 L1 (S.iJ ls b)):=h1;have B3:L1.cs=L0.cs++[⟨some ⟨ga,0,none⟩,c,ls,b,S.used⟩]:=by rw[yJ]
 have abw:=aa B3;have amA:Hid (L1.tL=L0.tL):=(by rw[yJ]:L1.tL=L0.tL)
 have OI:Hid (L1.cs[n]! =⟨some ⟨ga,0,none⟩,c,ls,b,S.used⟩):=by show _=_;rw[B3,<-HN.out];simp
 have SK:Hid (L1.a=L.a):=(td.1.trans agE.out:L1.a=L.a)
 have anf:Hid (Ints W1 (some ⟨ga,0,none⟩) c ls):=by have :=h1.ql n (by rw[B3,aj,HN.out];simp);rw[OI.out]at this;exact this
 have am7:Hid (L1.cY ga=(L1.id,8,n)):=h1.t8 n (by rw[B3,aj,HN.out];simp) ga (by rw[OI.out];simp[ak]);have fa:=aa td;have dI:=aa cX;clear jO h1 cX td yJ B3 aw hi3 BU dh xp afZ FA N5 HC9 db om age Sf;go_wp2_with fail;obtain⟨y0,jX⟩:∃y,ls[0]! =y:=⟨_,rfl⟩
 have ads:=vm.out.lit _ (get_mem (l:=ls) (i:=0) (by omega));rw[jX]at ads;obtain⟨-,aj5,aj0⟩:=ads;have EH:aS y0<L1.ws.length:=by rw[H1.out.sf,lz.out.wl];exact gX (v:=S.vars) aj5 aj0
 obtain⟨FO,VH⟩:∃c,aS y0=c:=⟨_,rfl⟩
 have arZ:=HVL.out;have KC0:=aa (fun W'=>nT W' y0 (by omega) (by omega));have anE:=aa VH;simp only[VH]at KC0;rw[VH]at EH;obtain⟨gw0,Vt,sw0,fw0⟩:=H1.out.Yr EH;have UH:=H1.out.sD FO EH;have Vp:=lz.out.room FO;have Mn:=H1.out.tk EH;unfold Sv.fY at Mn;rw[Mn]at Vp;have Hy:∀j,j∈ak (L1.ws[FO]!).A->L1.cY j=(L1.id,9,FO):=H1.out.t9 FO EH;obtain⟨⟨TH,c90,Oc⟩,adw⟩:∃x,L1.ws[FO]! =x:=⟨_,rfl⟩
 rw[adw]at sw0 UH Vp Mn Hy;simp only at sw0 UH Vp Mn Hy;obtain⟨-,-,-,-,s40,-⟩:=H1.out.cells;rw[Vt,SK.out]at s40;have So:Hid (L.a∉ak TH):=fun hm=>by have e1:=Hy _ hm;rw[<-SK.out,H1.out.t0]at e1;simp at e1
 have Sn:Hid (ga∉ak TH):=fun hm=>by have e1:=Hy _ hm;rw[am7.out]at e1;simp at e1
 have yr:Hid (gw0∉ak TH):=fun hm=>by have e1:=Hy _ hm;rw[H1.out.t4 gw0 (by rw[Vt];simp[ak])]at e1;simp at e1
 have s10:W1.cell? ⟨ga,0,none⟩=some (.int .i64 y0):=by rw[anf.out.cell (i:=0) (by omega),jX]
 have Sa:=aa s40;have Sb:=aa s10;have yo:=aa sw0;have Lm:=aa fw0;have yp:=aa UH;have abd:=aa Hy;have amr:=aa Mn;have anl:=aa Vt;have agG:=aa EH;have api:FO<L1.ws.length:=EH;have apg:(FO:Int)<(L1.ws.length:Int):=by omega
 have asn:(0:Int)<(ls.length:Int):=by omega
 have aoN:0<ls.length:=by omega
 have Sr:Hid (Oc.length<17592186044416):=(by omega:Oc.length<17592186044416)
 have Yf:Hid (Fr (ak TH) W1 W1):=Fr.refl _ _;have HY0:=aa jX;clear Vt EH UH Vp Mn Hy adw s40 s10 sw0 fw0 VH jX;go_upto_region 3 with fail;apply WT (C:=fun(gA cA:Nat) (wA:World)=>Ints wA (some ⟨gA,0,none⟩) cA (bO Oc++[(n:Int)])/\Fr (ak TH) W1 wA/\(gA∈ak TH\/W1.heap.size<=gA))
 ·intro RL;refine aam ?_;refine bi (fun w':World=>Fr (ak TH) W1 w') 22 (by kernel_rfl) (Yf.out.drew) (fun cZ=> ?_);apply TB 15 [(0,[]),(1,[]),(2,[]),(3,[3,22]),(4,[]),(5,[]),(6,[6,22]),(8,[]),(9,[]),(10,[]),(11,[11,22]),(12,[]),(13,[]),(14,[14,22]),(18,[])];kernel_rfl;rfl;· (repeat (apply eH;rfl;rfl;(· intro w bl;(try(have bl:=bl.resolve_left (aF _ _);(have s4:=bl.bK So.out Sa.out;have s1:=bl.bK Sn.out Sb.out;have sw:=bl.bK yr.out yo.out)));go_simp<;>with_reducible rfl);try simp only[Act.put,q5,q6,q7]));exact eG
  exact cZ;intro cZ;have aw:=cZ.resolve_left (by decide);refine bJ (rs:=[7,19]) (by kernel_rfl) (by simp) ?_;refine aZ.cons (o:= ?ajk) ?UY ?Ha ?_;case UY=>rfl
  case Ha=>
   intro K hK
   (go_simp;refine(KC0.out _).mono ?_;rintro e w5 ⟨rfl,rfl⟩;dsimp only)
   refine hK.out _ _ (.inr ?_) (fun mQ=> ?_)
   ·first |exact aw.ag tQ |exact aw.alloc _ |exact aw
   clear hK K;try simp only[Act.put,q5,q6,q7]
   have aw:=mQ.resolve_left (by decide);refine bJ (rs:=[15,19]) (by kernel_rfl) (by simp) ?_;refine aZ.cons (o:= ?ajj) ?UX ?G9 ?_;case UX=>rfl
   case G9=>
    intro K hK
    (go_simp;refine(KC0.out _).mono ?_;rintro e w5 ⟨rfl,rfl⟩;dsimp only)
    refine hK.out _ _ (.inr ?_) (fun ie=> ?_)
    ·first |exact aw.ag tQ |exact aw.alloc _ |exact aw
    clear hK K;try simp only[Act.put,q5,q6,q7]
    apply TB 2 [(16,[]),(17,[17,22])];kernel_rfl;rfl;· (repeat (apply eH;rfl;rfl;(· intro w bl;(try(have bl:=bl.resolve_left (aF _ _);(have s4:=bl.bK So.out Sa.out;have s1:=bl.bK Sn.out Sb.out;have sw:=bl.bK yr.out yo.out)));go_simp<;>with_reducible rfl);try simp only[Act.put,q5,q6,q7]));exact eG
    exact ie;intro ie;refine R2 19 (by kernel_rfl) (by rfl) ie fun K hK aw=> ?_;go_simp;refine hK.out _ _ (.inr ?_) (fun EM=> ?_)
    ·first |exact aw.ag tQ |exact aw.alloc _ |exact aw
    clear hK K;try simp only[Act.put,q5,q6,q7]
    refine R2 20 (by kernel_rfl) (by rfl) EM fun K hK aw=> ?_
    (refine bV rfl _ _ rfl TH c90 (bO Oc) _ rfl (bf Oc).symm ?MJ _ 1 n rfl ?Iu (by rw[bf];exact Sr.out) ?_;(case MJ=>first |exact yp.out.drew.alloc _ |exact yp.out.alloc _ |exact yp.out);(case Iu=>simp);intro gA0 cA0 wA0 Ey tQ EA adM)
    refine hK.out _ _ (.inr ?_) (fun gD=> ?_)
    ·first |exact aw.ag tQ |exact aw.alloc _ |exact aw
    clear hK K;try simp only[Act.put,q5,q6,q7]
    apply TB 1 [(21,[])];kernel_rfl;rfl;· (repeat (apply eH;rfl;rfl;(· intro w bl;go_simp<;>with_reducible rfl);try simp only[Act.put,q5,q6,q7]));exact eG
    exact gD;intro gD;refine R2 22 (by kernel_rfl) (by rfl) gD fun K hK aw=> ?_
    (have sb:=aw.bK yr.out yo.out;have fb:World.frozen? _ _=_:=(World.frozen?_of_block (aw.block gw0 (bM yo.out) yr.out)).trans Lm.out;go_simp)
    refine hK.out _ _ (.inl rfl) (fun EL=> ?_);clear hK K;try simp only[Act.put,q5,q6,q7]
    refine aD (by kernel_rfl) ?_ _;refine NoPanic.normal ?_;exact RL _ _ _ ⟨Ey,aw,EA.imp id (fun h=>by rw[h];first |exact ap _ |simp)⟩
   refine aZ.cons (o:= ?ajg) ?UV ?Zb aZ.nil;case UV=>rfl
   intro K hK;go_simp;refine hK.out _ _ (.inr ?_) (fun ie=> ?_)
   ·first |exact aw.ag tQ |exact aw.alloc _ |exact aw
   clear hK K;try simp only[Act.put,q5,q6,q7]
   refine R2 15 (by kernel_rfl) (by rfl) ie fun K hK aw=> ?_
   (go_simp;refine(KC0.out _).mono ?_;rintro e w5 ⟨rfl,rfl⟩;dsimp only)
   refine hK.out _ _ (.inr ?_) (fun kh=> ?_)
   ·first |exact aw.ag tQ |exact aw.alloc _ |exact aw
   clear hK K;try simp only[Act.put,q5,q6,q7]
   apply TB 2 [(16,[]),(17,[17,22])];kernel_rfl;rfl;· (repeat (apply eH;rfl;rfl;(· intro w bl;(try(have bl:=bl.resolve_left (aF _ _);(have s4:=bl.bK So.out Sa.out;have s1:=bl.bK Sn.out Sb.out;have sw:=bl.bK yr.out yo.out)));go_simp<;>with_reducible rfl);try simp only[Act.put,q5,q6,q7]));exact eG
   exact kh;intro kh;refine R2 20 (by kernel_rfl) (by rfl) kh fun K hK aw=> ?_
   (refine bV rfl _ _ rfl TH c90 (bO Oc) _ rfl (bf Oc).symm ?MG _ 1 n rfl ?Ir (by rw[bf];exact Sr.out) ?_;(case MG=>first |exact yp.out.drew.alloc _ |exact yp.out.alloc _ |exact yp.out);(case Ir=>simp);intro gA0 cA0 wA0 Ey tQ EA adM)
   refine hK.out _ _ (.inr ?_) (fun gD=> ?_)
   ·first |exact aw.ag tQ |exact aw.alloc _ |exact aw
   clear hK K;try simp only[Act.put,q5,q6,q7]
   apply TB 1 [(21,[])];kernel_rfl;rfl;· (repeat (apply eH;rfl;rfl;(· intro w bl;go_simp<;>with_reducible rfl);try simp only[Act.put,q5,q6,q7]));exact eG
   exact gD;intro gD;refine R2 22 (by kernel_rfl) (by rfl) gD fun K hK aw=> ?_
   (have sb:=aw.bK yr.out yo.out;have fb:World.frozen? _ _=_:=(World.frozen?_of_block (aw.block gw0 (bM yo.out) yr.out)).trans Lm.out;go_simp)
   refine hK.out _ _ (.inl rfl) (fun EL=> ?_);clear hK K;try simp only[Act.put,q5,q6,q7]
   refine aD (by kernel_rfl) ?_ _;refine NoPanic.normal ?_;exact RL _ _ _ ⟨Ey,aw,EA.imp id (fun h=>by rw[h];first |exact ap _ |simp)⟩
  refine aZ.cons (o:= ?ajd) ?UT ?Za aZ.nil;case UT=>rfl
  intro K hK;go_simp;refine hK.out _ _ (.inr ?_) (fun mQ=> ?_)
  ·first |exact aw.ag tQ |exact aw.alloc _ |exact aw
  clear hK K;try simp only[Act.put,q5,q6,q7]
  refine R2 7 (by kernel_rfl) (by rfl) mQ fun K hK aw=> ?_
  (go_simp;refine(KC0.out _).mono ?_;rintro e w5 ⟨rfl,rfl⟩;dsimp only)
  refine hK.out _ _ (.inr ?_) (fun ie=> ?_)
  ·first |exact aw.ag tQ |exact aw.alloc _ |exact aw
  clear hK K;try simp only[Act.put,q5,q6,q7]
  refine R2 15 (by kernel_rfl) (by rfl) ie fun K hK aw=> ?_
  (go_simp;refine(KC0.out _).mono ?_;rintro e w5 ⟨rfl,rfl⟩;dsimp only)
  refine hK.out _ _ (.inr ?_) (fun kh=> ?_)
  ·first |exact aw.ag tQ |exact aw.alloc _ |exact aw
  clear hK K;try simp only[Act.put,q5,q6,q7]
  apply TB 2 [(16,[]),(17,[17,22])];kernel_rfl;rfl;· (repeat (apply eH;rfl;rfl;(· intro w bl;(try(have bl:=bl.resolve_left (aF _ _);(have s4:=bl.bK So.out Sa.out;have s1:=bl.bK Sn.out Sb.out;have sw:=bl.bK yr.out yo.out)));go_simp<;>with_reducible rfl);try simp only[Act.put,q5,q6,q7]));exact eG
  exact kh;intro kh;refine R2 20 (by kernel_rfl) (by rfl) kh fun K hK aw=> ?_
  (refine bV rfl _ _ rfl TH c90 (bO Oc) _ rfl (bf Oc).symm ?MD _ 1 n rfl ?Io (by rw[bf];exact Sr.out) ?_;(case MD=>first |exact yp.out.drew.alloc _ |exact yp.out.alloc _ |exact yp.out);(case Io=>simp);intro gA0 cA0 wA0 Ey tQ EA adM)
  refine hK.out _ _ (.inr ?_) (fun gD=> ?_)
  ·first |exact aw.ag tQ |exact aw.alloc _ |exact aw
  clear hK K;try simp only[Act.put,q5,q6,q7]
  apply TB 1 [(21,[])];kernel_rfl;rfl;· (repeat (apply eH;rfl;rfl;(· intro w bl;go_simp<;>with_reducible rfl);try simp only[Act.put,q5,q6,q7]));exact eG
  exact gD;intro gD;refine R2 22 (by kernel_rfl) (by rfl) gD fun K hK aw=> ?_
  (have sb:=aw.bK yr.out yo.out;have fb:World.frozen? _ _=_:=(World.frozen?_of_block (aw.block gw0 (bM yo.out) yr.out)).trans Lm.out;go_simp)
  refine hK.out _ _ (.inl rfl) (fun EL=> ?_);clear hK K;try simp only[Act.put,q5,q6,q7]
  refine aD (by kernel_rfl) ?_ _;refine NoPanic.normal ?_;exact RL _ _ _ ⟨Ey,aw,EA.imp id (fun h=>by rw[h];first |exact ap _ |simp)⟩
 ·intro gA0 cA0 wA0 ⟨Ey,aw,EA⟩;have aek:Ints wA0 (some ⟨gA0,0,none⟩) cA0 (bO (Oc++[n])):=by rw[<-kT];exact Ey
  obtain⟨gv0,Z7,_,_,L2,h20,aad,Vz,aaq⟩:=H1.out.cm agG.out aek aw (fun j hj _=>abd.out j hj) (fun j hj=>by simp[ak]at hj;subst hj;exact EA.imp (fun h5=>⟨(yp.out.lt _ h5),abd.out _ h5⟩) id);obtain rfl :gw0=gv0:=by rw[anl.out]at Z7;simpa using Z7
  simp only[aj,bN]at h20 Vz;obtain⟨W2,XK⟩:∃W,wA0.setCell ⟨gw0,FO,none⟩ (.slice (some ⟨gA0,0,none⟩) (Oc.length+1) cA0)=W:=⟨_,rfl⟩
  rw[XK]at h20 Vz⊢;have Kn:(S.iJ ls b).cm FO (Oc++[n])=(S.iJ ls b).ii (aS ls[0]!) S.list.length:=by unfold Sv.ii Sv.fY;rw[HY0.out,anE.out,amr.out,HNS.out]
  rw[Kn]at h20;have Nf:L2.cs=L1.cs:=by rw[aaq]
  have amz:Hid (L2.tL=L0.tL):=(by rw[aaq]:L2.tL=L1.tL).trans amA.out;have anF:Hid (L2.cs=L0.cs++[⟨some ⟨ga,0,none⟩,c,ls,b,S.used⟩]):=Nf.trans abw.out;have agD:Hid (L2.a=L.a):=(aad.1.trans SK.out:L2.a=L.a)
  have ane:Hid (Ints W2 (some ⟨ga,0,none⟩) c ls):=by have :=h20.ql n (by rw[Nf,abw.out,aj,HN.out];simp);rw[Nf,OI.out]at this;exact this
  have am6:Hid (L2.cY ga=(L2.id,8,n)):=h20.t8 n (by rw[Nf,abw.out,aj,HN.out];simp) ga (by rw[Nf,OI.out];simp[ak]);have dn:=aa (aO.aV fa.out aad dI.out.size);have cw:=aa (aO.aQ fa.out dI.out Vz);have H2:=aa h20;clear XK h20 Vz aad aaq Nf aw Ey aek EA Z7;clear Yf Sa Sb yo Lm yp abd So Sn yr;go_wp2_with fail;clear KC0;obtain⟨y1,iP⟩:∃y,ls[1]! =y:=⟨_,rfl⟩
  have Ux:=vm.out.lit _ (get_mem (l:=ls) (i:=1) (by omega));rw[iP]at Ux;obtain⟨-,aj4,ajZ⟩:=Ux;have EG:aS y1<L2.ws.length:=by rw[H2.out.sf,Sh.out.wl];exact gX (v:=S.vars) aj4 ajZ
  obtain⟨Nx,VE⟩:∃c,aS y1=c:=⟨_,rfl⟩
  have arY:=HVL.out;have XY:=aa (fun W'=>nT W' y1 (by omega) (by omega));have anD:=aa VE;simp only[VE]at XY;rw[VE]at EG;obtain⟨gw1,Vs,sw1,fw1⟩:=H2.out.Yr EG;have UG:=H2.out.sD Nx EG;have Vo:=Sh.out.room Nx;have Mm:=H2.out.tk EG;unfold Sv.fY at Mm;rw[Mm]at Vo;have Hx:∀j,j∈ak (L2.ws[Nx]!).A->L2.cY j=(L2.id,9,Nx):=H2.out.t9 Nx EG;obtain⟨⟨TG,c91,P0⟩,adv⟩:∃x,L2.ws[Nx]! =x:=⟨_,rfl⟩
  rw[adv]at sw1 UG Vo Mm Hx;simp only at sw1 UG Vo Mm Hx;obtain⟨-,-,-,-,s41,-⟩:=H2.out.cells;rw[Vs,agD.out]at s41;have WB:Hid (L.a∉ak TG):=fun hm=>by have e1:=Hx _ hm;rw[<-agD.out,H2.out.t0]at e1;simp at e1
  have WA:Hid (ga∉ak TG):=fun hm=>by have e1:=Hx _ hm;rw[am6.out]at e1;simp at e1
  have zH:Hid (gw1∉ak TG):=fun hm=>by have e1:=Hx _ hm;rw[H2.out.t4 gw1 (by rw[Vs];simp[ak])]at e1;simp at e1
  have s11:W2.cell? ⟨ga,1,none⟩=some (.int .i64 y1):=by rw[ane.out.cell (i:=1) (by omega),iP]
  have Wr:=aa s41;have Ws:=aa s11;have zD:=aa sw1;have Sz:=aa fw1;have zF:=aa UG;have agc:=aa Hx;have amq:=aa Mm;have ank:=aa Vs;have agF:=aa EG;have aph:Nx<L2.ws.length:=EG;have apf:(Nx:Int)<(L2.ws.length:Int):=by omega
  have asm:(1:Int)<(ls.length:Int):=by omega
  have aoM:1<ls.length:=by omega
  have Sq:Hid (P0.length<17592186044416):=(by omega:P0.length<17592186044416)
  have agx:Hid (Fr (ak TG) W2 W2):=Fr.refl _ _;have HY1:=aa iP;clear Vs EG UG Vo Mm Hx adv s41 s11 sw1 fw1 VE iP;go_upto_region 4 with fail;apply WT (C:=fun(gA cA:Nat) (wA:World)=>Ints wA (some ⟨gA,0,none⟩) cA (bO P0++[(n:Int)])/\Fr (ak TG) W2 wA/\(gA∈ak TG\/W2.heap.size<=gA))
  ·intro RJ;refine aam ?_;refine bi (fun w':World=>Fr (ak TG) W2 w') 22 (by kernel_rfl) (agx.out.drew) (fun cZ=> ?_);apply TB 15 [(0,[]),(1,[]),(2,[]),(3,[3,22]),(4,[]),(5,[]),(6,[6,22]),(8,[]),(9,[]),(10,[]),(11,[11,22]),(12,[]),(13,[]),(14,[14,22]),(18,[])];kernel_rfl;rfl;· (repeat (apply eH;rfl;rfl;(· intro w bl;(try(have bl:=bl.resolve_left (aF _ _);(have s4:=bl.bK WB.out Wr.out;have s1:=bl.bK WA.out Ws.out;have sw:=bl.bK zH.out zD.out)));go_simp<;>with_reducible rfl);try simp only[Act.put,q5,q6,q7]));exact eG
   exact cZ;intro cZ;have aw:=cZ.resolve_left (by decide);refine bJ (rs:=[7,19]) (by kernel_rfl) (by simp) ?_;refine aZ.cons (o:= ?ajb) ?US ?G6 ?_;case US=>rfl
   case G6=>
    intro K hK
    (go_simp;refine(XY.out _).mono ?_;rintro e w5 ⟨rfl,rfl⟩;dsimp only)
    refine hK.out _ _ (.inr ?_) (fun mQ=> ?_)
    ·first |exact aw.ag tP |exact aw.alloc _ |exact aw
    clear hK K;try simp only[Act.put,q5,q6,q7]
    have aw:=mQ.resolve_left (by decide);refine bJ (rs:=[15,19]) (by kernel_rfl) (by simp) ?_;refine aZ.cons (o:= ?aja) ?UR ?G0 ?_;case UR=>rfl
    case G0=>
     intro K hK
     (go_simp;refine(XY.out _).mono ?_;rintro e w5 ⟨rfl,rfl⟩;dsimp only)
     refine hK.out _ _ (.inr ?_) (fun ie=> ?_)
     ·first |exact aw.ag tP |exact aw.alloc _ |exact aw
     clear hK K;try simp only[Act.put,q5,q6,q7]
     apply TB 2 [(16,[]),(17,[17,22])];kernel_rfl;rfl;· (repeat (apply eH;rfl;rfl;(· intro w bl;(try(have bl:=bl.resolve_left (aF _ _);(have s4:=bl.bK WB.out Wr.out;have s1:=bl.bK WA.out Ws.out;have sw:=bl.bK zH.out zD.out)));go_simp<;>with_reducible rfl);try simp only[Act.put,q5,q6,q7]));exact eG
     exact ie;intro ie;refine R2 19 (by kernel_rfl) (by rfl) ie fun K hK aw=> ?_;go_simp;refine hK.out _ _ (.inr ?_) (fun EM=> ?_)
     ·first |exact aw.ag tP |exact aw.alloc _ |exact aw
     clear hK K;try simp only[Act.put,q5,q6,q7]
     refine R2 20 (by kernel_rfl) (by rfl) EM fun K hK aw=> ?_
     (refine bV rfl _ _ rfl TG c91 (bO P0) _ rfl (bf P0).symm ?MC _ 1 n rfl ?In (by rw[bf];exact Sq.out) ?_;(case MC=>first |exact zF.out.drew.alloc _ |exact zF.out.alloc _ |exact zF.out);(case In=>simp);intro gA1 cA1 wA1 Ex tP Ez adL)
     refine hK.out _ _ (.inr ?_) (fun gD=> ?_)
     ·first |exact aw.ag tP |exact aw.alloc _ |exact aw
     clear hK K;try simp only[Act.put,q5,q6,q7]
     apply TB 1 [(21,[])];kernel_rfl;rfl;· (repeat (apply eH;rfl;rfl;(· intro w bl;go_simp<;>with_reducible rfl);try simp only[Act.put,q5,q6,q7]));exact eG
     exact gD;intro gD;refine R2 22 (by kernel_rfl) (by rfl) gD fun K hK aw=> ?_
     (have sb:=aw.bK zH.out zD.out;have fb:World.frozen? _ _=_:=(World.frozen?_of_block (aw.block gw1 (bM zD.out) zH.out)).trans Sz.out;go_simp)
     refine hK.out _ _ (.inl rfl) (fun EL=> ?_);clear hK K;try simp only[Act.put,q5,q6,q7]
     refine aD (by kernel_rfl) ?_ _;refine NoPanic.normal ?_;exact RJ _ _ _ ⟨Ex,aw,Ez.imp id (fun h=>by rw[h];first |exact ap _ |simp)⟩
    refine aZ.cons (o:= ?ai9) ?UQ ?Y9 aZ.nil;case UQ=>rfl
    intro K hK;go_simp;refine hK.out _ _ (.inr ?_) (fun ie=> ?_)
    ·first |exact aw.ag tP |exact aw.alloc _ |exact aw
    clear hK K;try simp only[Act.put,q5,q6,q7]
    refine R2 15 (by kernel_rfl) (by rfl) ie fun K hK aw=> ?_
    (go_simp;refine(XY.out _).mono ?_;rintro e w5 ⟨rfl,rfl⟩;dsimp only)
    refine hK.out _ _ (.inr ?_) (fun kh=> ?_)
    ·first |exact aw.ag tP |exact aw.alloc _ |exact aw
    clear hK K;try simp only[Act.put,q5,q6,q7]
    apply TB 2 [(16,[]),(17,[17,22])];kernel_rfl;rfl;· (repeat (apply eH;rfl;rfl;(· intro w bl;(try(have bl:=bl.resolve_left (aF _ _);(have s4:=bl.bK WB.out Wr.out;have s1:=bl.bK WA.out Ws.out;have sw:=bl.bK zH.out zD.out)));go_simp<;>with_reducible rfl);try simp only[Act.put,q5,q6,q7]));exact eG
    exact kh;intro kh;refine R2 20 (by kernel_rfl) (by rfl) kh fun K hK aw=> ?_
    (refine bV rfl _ _ rfl TG c91 (bO P0) _ rfl (bf P0).symm ?MB _ 1 n rfl ?Im (by rw[bf];exact Sq.out) ?_;(case MB=>first |exact zF.out.drew.alloc _ |exact zF.out.alloc _ |exact zF.out);(case Im=>simp);intro gA1 cA1 wA1 Ex tP Ez adL)
    refine hK.out _ _ (.inr ?_) (fun gD=> ?_)
    ·first |exact aw.ag tP |exact aw.alloc _ |exact aw
    clear hK K;try simp only[Act.put,q5,q6,q7]
    apply TB 1 [(21,[])];kernel_rfl;rfl;· (repeat (apply eH;rfl;rfl;(· intro w bl;go_simp<;>with_reducible rfl);try simp only[Act.put,q5,q6,q7]));exact eG
    exact gD;intro gD;refine R2 22 (by kernel_rfl) (by rfl) gD fun K hK aw=> ?_
    (have sb:=aw.bK zH.out zD.out;have fb:World.frozen? _ _=_:=(World.frozen?_of_block (aw.block gw1 (bM zD.out) zH.out)).trans Sz.out;go_simp)
    refine hK.out _ _ (.inl rfl) (fun EL=> ?_);clear hK K;try simp only[Act.put,q5,q6,q7]
    refine aD (by kernel_rfl) ?_ _;refine NoPanic.normal ?_;exact RJ _ _ _ ⟨Ex,aw,Ez.imp id (fun h=>by rw[h];first |exact ap _ |simp)⟩
   refine aZ.cons (o:= ?ai8) ?UP ?Y8 aZ.nil;case UP=>rfl
   intro K hK;go_simp;refine hK.out _ _ (.inr ?_) (fun mQ=> ?_)
   ·first |exact aw.ag tP |exact aw.alloc _ |exact aw
   clear hK K;try simp only[Act.put,q5,q6,q7]
   refine R2 7 (by kernel_rfl) (by rfl) mQ fun K hK aw=> ?_
   (go_simp;refine(XY.out _).mono ?_;rintro e w5 ⟨rfl,rfl⟩;dsimp only)
   refine hK.out _ _ (.inr ?_) (fun ie=> ?_)
   ·first |exact aw.ag tP |exact aw.alloc _ |exact aw
   clear hK K;try simp only[Act.put,q5,q6,q7]
   refine R2 15 (by kernel_rfl) (by rfl) ie fun K hK aw=> ?_
   (go_simp;refine(XY.out _).mono ?_;rintro e w5 ⟨rfl,rfl⟩;dsimp only)
   refine hK.out _ _ (.inr ?_) (fun kh=> ?_)
   ·first |exact aw.ag tP |exact aw.alloc _ |exact aw
   clear hK K;try simp only[Act.put,q5,q6,q7]
   apply TB 2 [(16,[]),(17,[17,22])];kernel_rfl;rfl;· (repeat (apply eH;rfl;rfl;(· intro w bl;(try(have bl:=bl.resolve_left (aF _ _);(have s4:=bl.bK WB.out Wr.out;have s1:=bl.bK WA.out Ws.out;have sw:=bl.bK zH.out zD.out)));go_simp<;>with_reducible rfl);try simp only[Act.put,q5,q6,q7]));exact eG
   exact kh;intro kh;refine R2 20 (by kernel_rfl) (by rfl) kh fun K hK aw=> ?_
   (refine bV rfl _ _ rfl TG c91 (bO P0) _ rfl (bf P0).symm ?MA _ 1 n rfl ?Il (by rw[bf];exact Sq.out) ?_;(case MA=>first |exact zF.out.drew.alloc _ |exact zF.out.alloc _ |exact zF.out);(case Il=>simp);intro gA1 cA1 wA1 Ex tP Ez adL)
   refine hK.out _ _ (.inr ?_) (fun gD=> ?_)
   ·first |exact aw.ag tP |exact aw.alloc _ |exact aw
   clear hK K;try simp only[Act.put,q5,q6,q7]
   apply TB 1 [(21,[])];kernel_rfl;rfl;· (repeat (apply eH;rfl;rfl;(· intro w bl;go_simp<;>with_reducible rfl);try simp only[Act.put,q5,q6,q7]));exact eG
   exact gD;intro gD;refine R2 22 (by kernel_rfl) (by rfl) gD fun K hK aw=> ?_
   (have sb:=aw.bK zH.out zD.out;have fb:World.frozen? _ _=_:=(World.frozen?_of_block (aw.block gw1 (bM zD.out) zH.out)).trans Sz.out;go_simp)
   refine hK.out _ _ (.inl rfl) (fun EL=> ?_);clear hK K;try simp only[Act.put,q5,q6,q7]
   refine aD (by kernel_rfl) ?_ _;refine NoPanic.normal ?_;exact RJ _ _ _ ⟨Ex,aw,Ez.imp id (fun h=>by rw[h];first |exact ap _ |simp)⟩
  ·intro gA1 cA1 wA1 ⟨Ex,aw,Ez⟩;have aej:Ints wA1 (some ⟨gA1,0,none⟩) cA1 (bO (P0++[n])):=by rw[<-kT];exact Ex
   obtain⟨gv1,Z6,_,_,L3,h21,aeH,aab,aap⟩:=H2.out.cm agF.out aej aw (fun j hj _=>agc.out j hj) (fun j hj=>by simp[ak]at hj;subst hj;exact Ez.imp (fun h5=>⟨(zF.out.lt _ h5),agc.out _ h5⟩) id);obtain rfl :gw1=gv1:=by rw[ank.out]at Z6;simpa using Z6
   simp only[aj,bN]at h21 aab;have hS3:((S.iJ ls b).ii (aS ls[0]!) S.list.length).cm Nx (P0++[n])=S.attach ls b:=by show _=((S.iJ ls b).ii (aS ls[0]!) S.list.length).ii (aS ls[1]!) S.list.length;have hw:=amq.out;revert hw;generalize (S.iJ ls b).ii (aS ls[0]!) S.list.length=T;intro hw;unfold Sv.ii Sv.fY;rw[HY1.out,anD.out,hw,HNS.out]
   rw[hS3]at h21;have aaf:L3.cs=L0.cs++[⟨some ⟨ga,0,none⟩,c,ls,b,S.used⟩]:=by rw[aap];exact anF.out
   have hI3:=h21.ql n (by rw[aaf,aj,HN.out];simp);rw[aaf,show(L0.cs++[(⟨some ⟨ga,0,none⟩,c,ls,b,S.used⟩:Cw)])[n]! =⟨some ⟨ga,0,none⟩,c,ls,b,S.used⟩from by rw[<-HN.out];simp]at hI3;have na:=aa (yI.out _ L3 h21 (aO.aV dn.out aeH cw.out.size) (aO.aQ dn.out cw.out aab) hI3 ((by rw[aap]:L3.tL=L2.tL).trans amz.out));clear aaf hI3;clear h21 aab aeH aap hS3 aw Ex aej Ez Z6 yI;go_wp2_with fail;go_ret;exact na.out
structure T3 where
 a:Int
 b:Int
 c:Int
instance:Inhabited T3:=⟨⟨0,0,0⟩⟩
structure Nm where
 k:ByteArray
 i:Int
 t:ByteArray
instance:Inhabited Nm:=⟨⟨⟨#[]⟩,0,⟨#[]⟩⟩⟩
structure Pc where
 mx:Int
 ins:List Int
 aM:List T3
 outs:List Int
 aT:List Int
 aU:List Int
 az:List T3
 bY:List Nm
structure Hd where
 iA:Option Addr
 iC:Nat
 lA:Option Addr
 lC:Nat
 oA:Option Addr
 oC:Nat
 bA:Option Addr
 bC:Nat
 vA:Option Addr
 vC:Nat
 gA:Option Addr
 gC:Nat
 nA:Option Addr
 nC:Nat
def iz (H:Hd) (C:Pc):Array Value:=
 #[.int .i64 C.mx, .slice H.iA C.ins.length H.iC, .slice H.lA C.aM.length H.lC, .slice H.oA C.outs.length H.oC, .slice H.bA C.aT.length H.bC, .slice H.vA C.aU.length H.vC, .slice H.gA C.az.length H.gC, .slice H.nA C.bY.length H.nC]
def dj (H:Hd) (C:Pc):Value:= .agg (iz H C)
def XT (w:World) (A:Option Addr) (l:List T3):Prop:=0<l.length->∃b o,A=some ⟨b,o,none⟩/\
 ∀j:Nat,j<l.length->w.cell? ⟨b,o+j*3,none⟩=some (.int .i64 (l[j]!).a)/\w.cell? ⟨b,o+j*3+1,none⟩=some (.int .i64 (l[j]!).b)/\w.cell? ⟨b,o+j*3+2,none⟩=some (.int .i64 (l[j]!).c)
def RdM (w:World) (A:Option Addr) (l:List Nm):Prop:=0<l.length->∃b o,A=some ⟨b,o,none⟩/\
 ∀j:Nat,j<l.length->w.cell? ⟨b,o+j*3,none⟩=some (.string (l[j]!).k)/\w.cell? ⟨b,o+j*3+1,none⟩=some (.int .i64 (l[j]!).i)/\w.cell? ⟨b,o+j*3+2,none⟩=some (.string (l[j]!).t)
theorem XT.keep {w w':World} {A:Option Addr} {l:List T3} (h:XT w A l) (hf:Fr [] w w'):XT w' A l:=by intro h0;obtain⟨b,o,hA,hx⟩:=h h0;exact⟨b,o,hA,fun j hj=>⟨hf.aN (hx j hj).1,hf.aN (hx j hj).2.1,hf.aN (hx j hj).2.2⟩⟩
theorem RdM.keep {w w':World} {A:Option Addr} {l:List Nm} (h:RdM w A l) (hf:Fr [] w w'):RdM w' A l:=by intro h0;obtain⟨b,o,hA,hx⟩:=h h0;exact⟨b,o,hA,fun j hj=>⟨hf.aN (hx j hj).1,hf.aN (hx j hj).2.1,hf.aN (hx j hj).2.2⟩⟩
def eh (x:Int):Prop:= -9223372036854775808<=x/\x<=9223372036854775807
def Ra (l:List Int):Prop:=∀j:Nat,j<l.length->eh l[j]!
def Rt (l:List T3):Prop:=∀j:Nat,j<l.length->eh (l[j]!).a/\eh (l[j]!).b/\eh (l[j]!).c
def Rm (l:List Nm):Prop:=∀j:Nat,j<l.length->(l[j]!).k.size<=maxLen/\eh (l[j]!).i/\(l[j]!).t.size<=maxLen
structure fH (w:World) (H:Hd) (C:Pc):Prop where
 i:Rd w H.iA C.ins
 l:XT w H.lA C.aM
 o:Rd w H.oA C.outs
 b:Rd w H.bA C.aT
 v:Rd w H.vA C.aU
 g:XT w H.gA C.az
 n:RdM w H.nA C.bY
 iL:C.ins.length<=17592186044416
 lL:C.aM.length<=5864062014635
 oL:C.outs.length<=17592186044416
 bL:C.aT.length<=17592186044416
 vL:C.aU.length<=17592186044416
 gL:C.az.length<=5864062014635
 nL:C.bY.length<=3518437208781
 mr:eh C.mx
 ir:Ra C.ins
 lr:Rt C.aM
 or_:Ra C.outs
 br:Ra C.aT
 vr:Ra C.aU
 gr:Rt C.az
 nr:Rm C.bY
theorem fH.keep {w w':World} {H:Hd} {C:Pc} (h:fH w H C) (hf:Fr [] w w'):fH w' H C:=
 ⟨h.i.keep hf,h.l.keep hf,h.o.keep hf,h.b.keep hf,h.v.keep hf,h.g.keep hf,h.n.keep hf,h.iL,h.lL,h.oL,h.bL,h.vL,h.gL,h.nL,h.mr,h.ir,h.lr,h.or_,h.br,h.vr,h.gr,h.nr⟩
theorem RA (w:World) (H:Hd) (C:Pc):At (w.alloc (.cells (iz H C) 27)) w.heap.size 27 (iz H C):=At.new w _ _
theorem eW (w:World) (o:Obj):Fr [] w (w.alloc o):=(Fr.refl [] w).alloc o
structure Cx (w wr:World) (H:Hd) (C:Pc):Prop where
 fr:Fr [] w wr
 bx:At wr w.heap.size 27 (iz H C)
theorem Cx.start (w:World) (H:Hd) (C:Pc):Cx w (w.alloc (.cells (iz H C) 27)) H C:=⟨eW _ _,RA _ _ _⟩
theorem Cx.keep {w wr w':World} {H:Hd} {C:Pc} (h:Cx w wr H C) (hf:Fr [] wr w'):Cx w w' H C:=⟨h.fr.ag hf,h.bx.keep hf⟩
theorem At.Ry {w:World} {g:Nat} {t:TypeId} {H:Hd} {C:Pc} (h:At w g t (iz H C)):
  w.cell? ⟨g,0,none⟩=some (.int .i64 C.mx)/\w.cell? ⟨g,1,none⟩=some (.slice H.iA C.ins.length H.iC)/\w.cell? ⟨g,2,none⟩=some (.slice H.lA C.aM.length H.lC)/\w.cell? ⟨g,3,none⟩=some (.slice H.oA C.outs.length H.oC)/\
  w.cell? ⟨g,4,none⟩=some (.slice H.bA C.aT.length H.bC)/\w.cell? ⟨g,5,none⟩=some (.slice H.vA C.aU.length H.vC)/\w.cell? ⟨g,6,none⟩=some (.slice H.gA C.az.length H.gC)/\w.cell? ⟨g,7,none⟩=some (.slice H.nA C.bY.length H.nC):=by
 refine⟨?_,?_,?_,?_,?_,?_,?_,?_⟩<;>(rw[h.cell];rfl)
theorem Cx.cells {w wr:World} {H:Hd} {C:Pc} (h:Cx w wr H C):
  wr.cell? ⟨w.heap.size,0,none⟩=some (.int .i64 C.mx)/\wr.cell? ⟨w.heap.size,1,none⟩=some (.slice H.iA C.ins.length H.iC)/\wr.cell? ⟨w.heap.size,2,none⟩=some (.slice H.lA C.aM.length H.lC)/\wr.cell? ⟨w.heap.size,3,none⟩=some (.slice H.oA C.outs.length H.oC)/\
  wr.cell? ⟨w.heap.size,4,none⟩=some (.slice H.bA C.aT.length H.bC)/\wr.cell? ⟨w.heap.size,5,none⟩=some (.slice H.vA C.aU.length H.vC)/\wr.cell? ⟨w.heap.size,6,none⟩=some (.slice H.gA C.az.length H.gC)/\wr.cell? ⟨w.heap.size,7,none⟩=some (.slice H.nA C.bY.length H.nC):=h.bx.Ry
theorem Cx.ext {w wr:World} {H:Hd} {C:Pc} (h:Cx w wr H C):
  (∀u:Ext wr,u.v.cell? ⟨w.heap.size,0,none⟩=some (.int .i64 C.mx))/\(∀u:Ext wr,u.v.cell? ⟨w.heap.size,1,none⟩=some (.slice H.iA C.ins.length H.iC))/\(∀u:Ext wr,u.v.cell? ⟨w.heap.size,2,none⟩=some (.slice H.lA C.aM.length H.lC))/\(∀u:Ext wr,u.v.cell? ⟨w.heap.size,3,none⟩=some (.slice H.oA C.outs.length H.oC))/\
  (∀u:Ext wr,u.v.cell? ⟨w.heap.size,4,none⟩=some (.slice H.bA C.aT.length H.bC))/\(∀u:Ext wr,u.v.cell? ⟨w.heap.size,5,none⟩=some (.slice H.vA C.aU.length H.vC))/\(∀u:Ext wr,u.v.cell? ⟨w.heap.size,6,none⟩=some (.slice H.gA C.az.length H.gC))/\(∀u:Ext wr,u.v.cell? ⟨w.heap.size,7,none⟩=some (.slice H.nA C.bY.length H.nC)):=by
 obtain⟨c0,c1,c2,c3,c4,c5,c6,c7⟩:=h.cells;exact⟨Ext.cell c0,Ext.cell c1,Ext.cell c2,Ext.cell c3,Ext.cell c4,Ext.cell c5,Ext.cell c6,Ext.cell c7⟩
theorem Rd.one {w:World} {A:Option Addr} {l:List Int} (h:Rd w A l) (hr:Ra l) {j:Nat} (hj:j<l.length):∃b o x,A=some ⟨b,o,none⟩/\Hid (l[j]! =x)/\w.cell? ⟨b,o+j,none⟩=some (.int .i64 x)/\ -9223372036854775808<=x/\x<=9223372036854775807:=by obtain⟨b,o,hA,hx⟩:=h (by omega);exact⟨b,o,_,hA,rfl,hx j hj,hr j hj⟩
theorem XT.one {w:World} {A:Option Addr} {l:List T3} (h:XT w A l) (hr:Rt l) {j:Nat} (hj:j<l.length):∃b o x y z,A=some ⟨b,o,none⟩/\Hid (l[j]! =⟨x,y,z⟩)/\
  w.cell? ⟨b,o+j*3,none⟩=some (.int .i64 x)/\w.cell? ⟨b,o+j*3+1,none⟩=some (.int .i64 y)/\w.cell? ⟨b,o+j*3+2,none⟩=some (.int .i64 z)/\
  (-9223372036854775808<=x/\x<=9223372036854775807)/\(-9223372036854775808<=y/\y<=9223372036854775807)/\(-9223372036854775808<=z/\z<=9223372036854775807):=by
 obtain⟨b,o,hA,hx⟩:=h (by omega);obtain⟨h1,h2,h3⟩:=hx j hj;exact⟨b,o,_,_,_,hA,rfl,h1,h2,h3,hr j hj⟩
theorem RdM.one {w:World} {A:Option Addr} {l:List Nm} (h:RdM w A l) (hr:Rm l) {j:Nat} (hj:j<l.length):∃b o x y z,A=some ⟨b,o,none⟩/\Hid (l[j]! =⟨x,y,z⟩)/\
  w.cell? ⟨b,o+j*3,none⟩=some (.string x)/\w.cell? ⟨b,o+j*3+1,none⟩=some (.int .i64 y)/\w.cell? ⟨b,o+j*3+2,none⟩=some (.string z)/\
  x.size<=maxLen/\(-9223372036854775808<=y/\y<=9223372036854775807)/\z.size<=maxLen:=by
 obtain⟨b,o,hA,hx⟩:=h (by omega);obtain⟨h1,h2,h3⟩:=hx j hj;exact⟨b,o,_,_,_,hA,rfl,h1,h2,h3,hr j hj⟩
def hit (v x:Int):Bool:=decide (0<=x)&&decide (x/2=v)
def rg (C:Pc) (v:Int):Bool:=decide (v=0) ||C.ins.any (hit v) ||C.aM.any (fun x=>hit v x.a) ||C.az.any (fun x=>hit v x.a)
theorem Lb {α:Type} [Inhabited α] (l:List α) (p:α->Bool):(l.any p=true↔∃j:Nat,j<l.length/\p l[j]! =true):=by
 rw[cq];constructor
 ·rintro⟨x,hx,h⟩;obtain⟨j,hj,e⟩:=List.mem_iff_getElem.1 hx;exact⟨j,hj,by simp[hj,e,h]⟩
 ·rintro⟨j,hj,h⟩;simp only[ae,af hj,ay]at h;exact⟨l[j],j5 hj,h⟩
theorem Wa {α:Type} [Inhabited α] (l:List α) (p:α->Bool) (h:∀j:Nat,j<l.length->p l[j]! =false):l.any p=false:=by rw[nf];intro hh;obtain⟨j,hj,h1⟩:=(Lb l p).1 hh;rw[h j hj]at h1;cases h1
theorem kM {α:Type} [Inhabited α] (l:List α) (p:α->Bool) (k:Nat) (hk:k<l.length) (h:p l[k]! =true):l.any p=true:=(Lb l p).2 ⟨k,hk,h⟩
def dF {α:Type} [Inhabited α] (l:List α) (p:α->Bool) (k:Nat):Prop:=∀j:Nat,j<k->p l[j]! =false
theorem dF.zero {α:Type} [Inhabited α] (l:List α) (p:α->Bool):dF l p 0:=fun j hj=>absurd hj (aI _)
theorem dF.step {α:Type} [Inhabited α] {l:List α} {p:α->Bool} {k:Nat} (h:dF l p k) (hk:p l[k]! =false):dF l p (k+1):=fun j hj=>by
 by_cases e:j=k
 ·subst e;exact hk
 ·exact h j (by omega)
theorem dF.all {α:Type} [Inhabited α] {l:List α} {p:α->Bool} {k:Nat} (h:dF l p k) (hk:¬k<l.length):l.any p=false:=Wa l p fun j hj=>h j (by omega)
def io (C:Pc) (l:Int):Bool:=decide (0<=l)&&rg C (l/2)
def tX (C:Pc) (l:List Int):Bool:=l.all (io C)&&decide ((l.length:Int)<=64)
def iW (C:Pc) (k:ByteArray):Int:=
 if(k.toList==[105])=true then C.ins.length else if(k.toList==[108])=true then C.aM.length else if(k.toList==[111])=true then C.outs.length else if(k.toList==[98])=true then C.aT.length else if(k.toList==[99])=true then C.aU.length else -1
def rk (k:ByteArray):Int:=if(k.toList==[105])=true then 0 else if(k.toList==[108])=true then 1 else if(k.toList==[111])=true then 2 else if(k.toList==[98])=true then 3 else if(k.toList==[99])=true then 4 else -1
theorem Bn (a b:List UInt8):(a==b)=true\/(a==b)=false:=by cases(a==b)<;>simp
def ge (c:UInt8):Bool:=decide ((c.toNat:Int)<33) ||decide (126<(c.toNat:Int))
def F6 (t:ByteArray):Bool:=t.data.toList.any ge
def QO (C:Pc) (x:Nm):Bool:=decide (0<=x.i)&&decide (x.i<iW C x.k)&& !x.t.toList.isEmpty&&decide ((x.t.size:Int)<=32)
def uh (C:Pc) (x:Nm):Bool:=QO C x&& !F6 x.t
def vv (y x:Nm):Bool:=decide (rk x.k<rk y.k) || (y.k.toList==x.k.toList)&&decide (x.i<=y.i)
def Lf (C:Pc) (k:Nat):Prop:=∀j:Nat,j<k->uh C C.bY[j]! =true/\(0<j->vv C.bY[j-1]! C.bY[j]! =false)
def BE (C:Pc):Bool:=(List.range C.bY.length).all fun j=>uh C C.bY[j]! &&(j==0 || !vv C.bY[j-1]! C.bY[j]!)
theorem LV (C:Pc):BE C=true↔Lf C C.bY.length:=by
 unfold BE Lf;rw[ep];constructor
 ·intro h j hj;have :=h j (cH.2 hj);simp only[ax,jt,beq_iff_eq,j6]at this;exact⟨this.1,fun h0=>this.2.resolve_left (by omega)⟩
 ·intro h j hj;obtain⟨h1,h2⟩:=h j (cH.1 hj);simp only[ax,jt,beq_iff_eq,j6];refine⟨h1,?_⟩;by_cases e:j=0
  ·exact .inl e
  ·exact .inr (h2 (by omega))
theorem Wb (g o n:Nat):(Addr.mk g o none).add n=⟨g,o+n,none⟩:=by unfold Addr.add;split<;>simp_all
def uP (x:T3):Bool:=decide (x.c=0) ||decide (x.c=1) ||decide (x.c=x.a)
def Mf (C:Pc) (x:T3):Bool:=uP x&&io C x.b
def Fd (C:Pc) (p:Option Int) (x:T3):Bool:=(match p with |none=>true |some q=>decide (q<x.a))&&decide (x.b<x.a)&&decide (x.c<x.a)&&io C x.b&&io C x.c
def prv (l:List T3) (j:Nat):Option Int:=if j=0 then none else some (l[j-1]!).a
def cK (C:Pc):List Int:=C.ins++C.aM.map (fun x=>x.a)++C.az.map (fun x=>x.a)
def kZ (C:Pc) (l:List Int) (i:Nat):Bool:=decide (2<=l[i]!)&&decide (l[i]! %2=0)&&decide (l[i]! <=2*C.mx)&& !decide (l[i]! ∈l.take i)
structure Valid (C:Pc):Prop where
 m0:0<=C.mx
 m1:C.mx<=2048
 i:C.ins.length<=64
 l:C.aM.length<=64
 n:BE C=true
 aM:∀j:Nat,j<C.aM.length->Mf C C.aM[j]! =true
 az:∀j:Nat,j<C.az.length->Fd C (prv C.az j) C.az[j]! =true
 own:∀j:Nat,j<(cK C).length->kZ C (cK C) j=true
 o:tX C C.outs=true
 b:tX C C.aT=true
 v:tX C C.aU=true
def SX (C:Pc) (w:World) (e:Ending) (w':World):Prop:=((e= .returned (.int .i64 0)/\Valid C)\/(e= .returned (.int .i64 9)/\¬Valid C))/\Fr [] w w'
theorem aaA {C:Pc} {w w':World} (h:¬Valid C) (hf:Fr [] w w'):SX C w (.returned (.int .i64 9)) w':=⟨.inr ⟨rfl,h⟩,hf⟩
theorem V5 {C:Pc} {w w':World} (h:Valid C) (hf:Fr [] w w'):SX C w (.returned (.int .i64 0)) w':=⟨.inl ⟨rfl,h⟩,hf⟩
def AG (C:Pc) (l:List Int) (k:Nat):Prop:=∀j:Nat,j<k->kZ C l j=true
theorem AG.step {C:Pc} {l:List Int} {k:Nat} (h:AG C l k) (h1:kZ C l k=true):AG C l (k+1):=fun j hj=>by
 by_cases e:j=k
 ·subst e;exact h1
 ·exact h j (by omega)
theorem AO (n:Int) (h₀:0<=n) (h₁:n<2^63):IntKind.i64.wrap n=n:=by rw[IntKind.wrap_i64];omega
theorem NA {l:Int} (h:0<=l) (h2:l<=9223372036854775807):bits BinOp.and IntKind.i64 l 1=l%2:=by have :=bits_mask .i64 63 (by decide) AO 1 (by decide) l h (by omega);simpa using this
theorem jc (w:World) (l:Int) (h:0<=l) (h2:l<=9223372036854775807):
  Calls Tryz.prog 90 #[.int .i64 l] w fun e w'=>e= .returned (.int .i64 (l/2))/\w=w':=by
 go_enter Tryz.func90,Tryz.ntmps90;go_wp2_with fail;go_ret;exact⟨rfl,rfl⟩
theorem wT (w:World) (l:Int) (h:l<0):
  Calls Tryz.prog 90 #[.int .i64 l] w fun e w'=>e= .returned (.int .i64 0)/\w=w':=by
 go_enter Tryz.func90,Tryz.ntmps90;go_wp2_with fail;go_ret;exact⟨rfl,rfl⟩
theorem pR (w:World) (l:Int) (h:0<=l) (h2:l<=9223372036854775807):
  Calls Tryz.prog 116 #[.int .i64 l] w fun e w'=>e= .returned (.bool (l%2==1))/\w=w':=by
 have HB:=aa (NA h h2);go_enter Tryz.func116,Tryz.ntmps116;go_wp2_with fail;go_ret;exact⟨by rw[<-HB.out];rfl,rfl⟩
def WQ (w:World) (g:Nat) (cb:Array Value) (p:Int->Bool) (xs:List Int):Prop:=∀W,Fr [] w W->∀x,x∈xs->eh x->
 Calls Tryz.prog g (#[.int .i64 x]++cb) W fun e w'=>e= .returned (.bool (p x))/\Fr [] W w'
theorem a8 {α:Type} [Inhabited α] {l:List α} {k:Nat} (h:k<l.length):l[k]! ∈l:=by rw[ae,af h];exact j5 h
def zA (b:Bool) (w:World) (e:Ending) (w':World):Prop:=∃n:Int,e= .returned (.int .i64 n)/\ -1<=n/\n<=9223372036854775807/\decide (0<=n)=b/\Fr [] w w'
theorem GQ (w:World) (A:Option Addr) (c:Nat) (xs:List Int) (g:Nat) (cb:Array Value) (p:Int->Bool) (eg:∀args w,(callFunc g args).run Tryz.prog w= .ok (.enter g args) w) (h:Rd w A xs) (hr:Ra xs) (hl:xs.length<=17592186044416) (hp:WQ w g cb p xs):
  Calls Tryz.prog 97 #[.slice A xs.length c, .func (.func g) #[] cb] w (zA (xs.any p) w):=by
 have HH:=aa h;have HR:=aa hr;have HP:=aa hp;have oh:Hid (∀(n:Nat) W,n<=17592186044416->xs.any p=true->Fr [] w W->zA (xs.any p) w (.returned (.int .i64 (n:Int))) W):=fun n W h1 h2 h3=>⟨n,rfl,by omega,by omega,by rw[h2];exact aai (by omega),h3⟩
 have NO:Hid (∀W,xs.any p=false->Fr [] w W->zA (xs.any p) w (.returned (.int .i64 (-1))) W):=fun W h2 h3=>⟨-1,rfl,by omega,by omega,by rw[h2];rfl,h3⟩
 clear h hr hp;go_enter Tryz.func97,Tryz.ntmps97;go_wp2_with fail;go_loopg [8] xs.length (fun g i wr=>∃k:Nat,k+g=xs.length/\i= .int .i64 k/\Fr [] w wr/\dF xs p k);case atStart=>exact⟨0,by omega,rfl,Fr.refl _ _,dF.zero _ _⟩
 case round=>
  obtain⟨k,hk,rfl,hx,hn⟩:=hrel;have HK:=aa hk;have HX:=aa hx;have HN:=aa hn;have jg:k<=xs.length:=by omega
  clear hk hx hn;by_cases bw:k<xs.length
  ·obtain⟨b,o,x,hA,he,cx,fN,gd⟩:=(HH.out.keep HX.out).one HR.out bw;subst hA;obtain⟨q,HQ⟩:∃q,Hid (p x=q):=⟨_,rfl⟩
   have HC:=aa (HP.out wr HX.out x (by rw[<-he.out];exact a8 bw) ⟨fN,gd⟩);go_wp2_with fail;refine HC.out.mono ?_;rw[HQ.out];rintro e w2 ⟨rfl,hf⟩;have HF:=aa (HX.out.ag hf);clear hf;cases q with
   |true=>
    go_wp2_with fail;go_ret;exact oh.out k _ (by omega) (kM _ _ k bw (by rw[he.out];exact HQ.out)) HF.out
   |false=>
    go_wp2_with fail;go_roundg (gk-1);case measure=>have :=HK.out;omega
    case rel=>exact⟨k+1,by have :=HK.out;omega,by go_num,HF.out,HN.out.step (by rw[he.out];exact HQ.out)⟩
  ·have HT:=aa (HN.out.all bw);clear HN HK;go_wp2_with fail;go_ret;exact NO.out _ HT.out HX.out
theorem fV (w:World) (A:Option Addr) (c:Nat) (xs:List Int) (g:Nat) (cb:Array Value) (p:Int->Bool) (eg:∀args w,(callFunc g args).run Tryz.prog w= .ok (.enter g args) w) (h:Rd w A xs) (hr:Ra xs) (hl:xs.length<=17592186044416) (hp:WQ w g cb p xs):
  Calls Tryz.prog 54 #[.slice A xs.length c, .func (.func g) #[] cb] w fun e w'=>e= .returned (.bool (xs.any p))/\Fr [] w w':=by
 have HC:=aa (GQ w A c xs g cb p eg h hr hl hp);clear h hr hp;go_enter Tryz.func54,Tryz.ntmps54;go_wp2_with fail;refine HC.out.mono ?_;rintro e w2 ⟨n,rfl,h1,h2,h3,hf⟩;have H3:=aa h3;have HF:=aa hf;clear h3 hf;go_wp2_with fail;go_ret;exact⟨by rw[<-H3.out];rfl,HF.out⟩
theorem aiJ {v:Int} (h:eh v):(Lit.int IntKind.i64 v).wf=true:=by unfold eh at h;simp[Lit.wf,IntKind.min,IntKind.max,IntKind.signed,IntKind.bits];omega
theorem Ur {v:Int} (h:eh v):keyOf Tryz.prog 3 (.int .i64 v)=some (.int .i64 v):=Maps.keyOf_int_mk Tryz.underlying3 (aiJ h)
theorem acz (w:World):(zeroValue 9).run Tryz.prog w= .ok (.string ⟨#[]⟩) w:=by kernel_rfl
theorem Nr {P:Program} {e:TypeId} (he:P.underlying e=some .string) {v:Value} {z:DataW Unit×List MemPlace} (h:plainElem P e v=some z):∃s:ByteArray,v= .string s/\z=(.lit (.string s.data.toList),[]):=by unfold plainElem at h;rw[he]at h;cases v<;>simp at h;obtain⟨_,rfl⟩:=h;exact⟨_,rfl,rfl⟩
def Met (w:World) (b n:Nat) (f:Int->List UInt8):Prop:=∃D:DataW Unit,w.ownsMap Tryz.prog 3 (plainElem Tryz.prog 9) b n D/\∀v,eh v->D.atKey (.int .i64 v) (.lit (.string []))= .lit (.string (f v))
theorem Met.lt {w:World} {b n:Nat} {f:Int->List UInt8} (h:Met w b n f):b<w.heap.size:=by obtain⟨D,h1,_⟩:=h;exact h1.lt
theorem Met.fr {w w':World} {S:List Nat} {b n:Nat} {f:Int->List UInt8} (h:Met w b n f) (hf:Fr S w w') (hn:b∉S):Met w' b n f:=by have bw:=h.lt;obtain⟨D,⟨es,clock,hb,F,hs,hD⟩,h2⟩:=h;exact⟨D,⟨es,clock,(hf.block b bw hn).trans hb,F,hs,hD⟩,h2⟩
theorem Met.keep {w w':World} {b n:Nat} {f:Int->List UInt8} (h:Met w b n f) (hf:Fr [] w w'):Met w' b n f:=h.fr hf (by simp)
theorem Met.new (w:World):Met (w.alloc (.map #[] 0)) w.heap.size 0 (fun _=>[]):=
 ⟨.map [],World.ownsMap_made w _ _ _,fun v _=>rfl⟩
theorem PV {P:Program} {k e t:TypeId} (K:Maps.Keyed P k) (ht:P.underlying t=some (.map k e)) (he:P.underlying e=some .string) {w:World} (hz:(zeroValue e).run P w= .ok (.string ⟨#[]⟩) w) {b n:Nat} {D:DataW Unit}
  (h1:w.ownsMap P k (plainElem P e) b n D) {key:Value} {kl:Lit} (ZU:keyOf P k key=some kl) {s:List UInt8} (h2:D.atKey kl (.lit (.string []))= .lit (.string s)):
  (Instr.lookup t (.map (some b)) key false).run P w= .ok (.string ⟨s.toArray⟩) w:=by
 obtain⟨x,ps,hr,hx⟩:=h1.lookup K ht hz (plainElem_string he (by simp[maxLen,ByteArray.size])) ZU;obtain⟨y,rfl,hz⟩:=Nr he hx;have h4:=(Prod.mk.inj hz).1;refine hr.trans ?_;have h5:(DataW.lit (H:=Unit) (.string y.data.toList))= .lit (.string s):=by rw[<-h4];exact h2
 injection h5 with h5;injection h5 with h5;rw[<-h5]
theorem Met.look {w:World} {b n:Nat} {f:Int->List UInt8} (h:Met w b n f) {v:Int} (hv:eh v):
  (Instr.lookup 129 (.map (some b)) (.int .i64 v) false).run Tryz.prog w= .ok (.string ⟨(f v).toArray⟩) w:=by
 obtain⟨D,h1,h2⟩:=h;exact PV (Maps.int_keyed Tryz.underlying3) Tryz.underlying129 Tryz.underlying9 (acz w) h1 (Ur hv) (h2 v hv)
theorem tu {D:DataW Unit} (hD:Maps.IsMap D) {v x:Int} {d:DataW Unit} {f:Int->List UInt8} {s:List UInt8} (hd:d= .lit (.string s)) (h:eh x->D.atKey (.int .i64 x) (.lit (.string []))= .lit (.string (f x))) (hx:eh x):
  (D.put (.int .i64 v) d).atKey (.int .i64 x) (.lit (.string []))= .lit (.string (if x=v then s else f x)):=by
 by_cases e:x=v
 ·subst e;rw[aae rfl,Maps.atKey_put_same hD (by simp[WideAt.IsKeyLit]),hd]
 ·rw[aac e,Maps.atKey_put_other (by simpa using e),h hx]
theorem FY (w:World) {ops:Array Oper} {rest:List Oper} {o:Oper} {a:Act} {Q:Exit->Act->World->Prop} (hg:o.guard=none) (m x y:Operand) (Ol:o.op=Op.mapUpdate 129 m x y)
  (b n:Nat) (f:Int->List UInt8) (hm:a.eval m= .map (some b)) (h:Met w b n f) (hn:n<maxLen) (v:Int) (hx:a.eval x= .int .i64 v) (hv:eh v) (s:ByteArray) (hy:a.eval y= .string s) (hs:s.size<=maxLen)
  (hK:∀w',Met w' b (n+1) (fun x=>if x=v then s.data.toList else f x)->Fr [b] w w'->wpList Tryz.prog ops Q rest (a.put o.dst undef) w'):
  wpList Tryz.prog ops Q (o::rest) a w:=by
 obtain⟨D,h1,h2⟩:=h;refine wpList_mapUpdate_own w hg m x y 129 Ol 3 9 (Maps.int_keyed Tryz.underlying3) Tryz.underlying129 _ b n D hm h1 hn _ _ (.int .i64 v) hx hy (Ur hv) (.lit (.string s.data.toList)) []
  (plainElem_string Tryz.underlying9 hs) ?_
 intro w' g1 g2;exact hK w' ⟨_,g1,fun x hx=>tu h1.isMap rfl (fun hr=>h2 x hr) hx⟩ ((Fr.refl _ w).grown g2 (fun k hk=>by cases hk;exact .inl (by simp)))
end Go.Proofs.YtjmmpfjcpdepjaaGreatDoor
