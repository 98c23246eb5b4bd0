/- Parts of a proof. -/
import Derived.Test.YtjmmpfjcpdepjaaGreatDoorGAJ
set_option linter.unusedVariables false
set_option linter.unusedSimpArgs false
set_option maxHeartbeats 16000000
namespace Go.Proofs.YtjmmpfjcpdepjaaGreatDoor
open Go.RowKit
def newL (a:Nat) (tL:TrL) (hL:HpL) (g4 g5:Nat):SvL where
 a:=a
 tL:=tL
 hL:=hL
 cA:=none
 cC:=0
 wA:=some ⟨g4,0,none⟩
 wC:=2
 pA:=some ⟨g5,0,none⟩
 pC:=1
 mA:=none
 mC:=0
 oA:=none
 oC:=0
 cs:=[]
 ws:=[⟨none,0,[]⟩,⟨none,0,[]⟩]
 id:=0
 lab:=fun k=>if k=a then (0,0,0) else if k∈tL.fp then (0,1,0) else if k∈hL.fp then (0,2,0) else if k=g4 then (0,4,0) else if k=g5 then (0,5,0) else (1,0,0)
theorem SvAt.make {w:World} {tL:TrL} {hL:HpL} {g4 g5:Nat} (ht:TrAt w tL (Tr.fresh.growF 0)) (hh:HpAt w hL (Hp.none_.growF 1)) (hm:hL.A2.isSome=true) (hw:Wrow w (some ⟨g4,0,none⟩) 2 [⟨none,0,[]⟩,⟨none,0,[]⟩]) (hp:Bools w (some ⟨g5,0,none⟩) 1 [false])
  (b:Nat) (hb:b≤w.heap.size) (hx:(∀k,k∈tL.fp→b≤k)∧(∀k,k∈hL.fp→b≤k)∧b≤g4∧b≤g5∧(∀k,k∈tL.fp→k∉hL.fp)∧g4∉tL.fp∧g5∉tL.fp∧g4∉hL.fp∧g5∉hL.fp∧g4≠g5):
  ∃L:SvL,L.a=w.heap.size∧SvAt (w.alloc (.cells #[.pointer (some ⟨tL.a,0,none⟩), .pointer (some ⟨hL.a,0,none⟩), .int .i64 0, .slice none 0 0, .slice (some ⟨g4,0,none⟩) 2 2, .slice (some ⟨g5,0,none⟩) 1 1, .slice none 0 0, .slice none 0 0, .int .i64 0, .int .i64 0, .int .i64 1, .int .i64 0, .int .i64 400, .bool false, .bool false] 122)) L Sv.bare∧(∀k,k<b→(L.lab k).1≠L.id)∧Fr [] w (w.alloc (.cells #[.pointer (some ⟨tL.a,0,none⟩), .pointer (some ⟨hL.a,0,none⟩), .int .i64 0, .slice none 0 0, .slice (some ⟨g4,0,none⟩) 2 2, .slice (some ⟨g5,0,none⟩) 1 1, .slice none 0 0, .slice none 0 0, .int .i64 0, .int .i64 0, .int .i64 1, .int .i64 0, .int .i64 400, .bool false, .bool false] 122)):=by
 obtain ⟨n1,n2,n4,n5,d12,d14,d15,d24,d25,d45⟩:=hx
 have hl1:=ht.lt
 have hl2:=hh.lt
 have hl4:g4<w.heap.size:=own_lt' hw g4 (by simp [blks])
 have hl5:g5<w.heap.size:=own_lt' hp g5 (by simp [blks])
 have hf:Fr [] w (w.alloc (.cells #[.pointer (some ⟨tL.a,0,none⟩), .pointer (some ⟨hL.a,0,none⟩), .int .i64 0, .slice none 0 0, .slice (some ⟨g4,0,none⟩) 2 2, .slice (some ⟨g5,0,none⟩) 1 1, .slice none 0 0, .slice none 0 0, .int .i64 0, .int .i64 0, .int .i64 1, .int .i64 0, .int .i64 400, .bool false, .bool false] 122)):=box_fr' _ _
 refine ⟨newL w.heap.size tL hL g4 g5,rfl,?_,?_,hf⟩
 ·refine ⟨At.new w _ _,ht.fr hf (by simp),hh.fr hf (by simp),hm,rfl,rfl,World.ownsRow_nil _ 0 _ 3,?_,?_,World.ownsRow_nil _ 0 _ 1,Ints.nil _,fun n hn=>absurd hn (Nat.not_lt_zero _),fun c hc=> ?_,?_,?_,?_,?_,?_,?_,?_,?_,fun n hn=>absurd hn (Nat.not_lt_zero _),fun c hc=> ?_⟩
  ·exact wild_fr hw hf (by simp)
  ·exact wild_fr hp hf (by simp)
  ·have :c=0∨c=1:=by simp [newL] at hc;omega
   rcases this with rfl |rfl <;>exact Ints.nil _
  ·simp [newL]
  ·intro k (hk:k∈tL.fp)
   have :=hl1 k hk
   show (if k=w.heap.size then (0,0,0) else if k∈tL.fp then (0,1,0) else _)=((0,1,0):Nat×Nat×Nat)
   rw [if_neg (by omega),if_pos hk]
  ·intro k (hk:k∈hL.fp)
   have :=hl2 k hk
   show (if k=w.heap.size then (0,0,0) else if k∈tL.fp then (0,1,0) else if k∈hL.fp then (0,2,0) else _)=((0,2,0):Nat×Nat×Nat)
   rw [if_neg (by omega),if_neg (fun h=>d12 k h hk),if_pos hk]
  ·intro k hk
   simp [newL,blks] at hk
  ·intro k hk
   simp [newL,blks] at hk
   subst hk
   simp only [newL]
   rw [if_neg (by omega),if_neg d14,if_neg d24];rfl
  ·intro k hk
   simp [newL,blks] at hk
   subst hk
   simp only [newL]
   rw [if_neg (by omega),if_neg d15,if_neg d25,if_neg (fun h=>d45 h.symm)];rfl
  ·intro k hk
   simp [newL,blks] at hk
  ·intro k hk
   simp [newL,blks] at hk
  ·have :c=0∨c=1:=by simp [newL] at hc;omega
   rcases this with rfl |rfl <;>(intro k hk;simp [newL,blks] at hk)
 ·intro k hk
  simp only [newL]
  rw [if_neg (by omega),if_neg (fun h=>by have :=n1 k h;omega),if_neg (fun h=>by have :=n2 k h;omega),if_neg (by omega),if_neg (by omega)]
  simp
theorem Sv.Ok.bare:Sv.bare.Ok 0:=by
 have hT:TRep (Tr.fresh.growF 0) 0 [] 0:=by
  have :=TRep.fresh.grow 0 (by omega)
  exact this
 have hH:(Hp.none_.growF 1)=Hp.none_.growBy 1:=rfl
 refine ⟨by decide,⟨[],hT⟩,?_,rfl,rfl,rfl,by decide,fun c k hk=> ?_,by decide,fun j x hx=> ?_,fun j=> ?_,fun j=> ?_,by decide,fun v=> ?_⟩
 ·show HI (Hp.none_.growF 1)
  rw [hH]
  exact HI.none_.grow 1
 ·have :k∈([[],[]]:List (List Nat))[c]! :=hk
  rcases c with _ |_ |c
  ·simp at this
  ·simp at this
  ·exact absurd (show k∈([]:List Nat) from this) List.not_mem_nil
 ·have e:Sv.bare.rc j=⟨[],false,0⟩:=Sv.rc_out (Nat.zero_le j)
  rw [e] at hx
  simp at hx
 ·have e:Sv.bare.rc j=⟨[],false,0⟩:=Sv.rc_out (Nat.zero_le j)
  rw [e]
  simp
 ·have e:Sv.bare.rc j=⟨[],false,0⟩:=Sv.rc_out (Nat.zero_le j)
  rw [e]
  simp
 ·have :=hT.reaB v
  show 0≤(Tr.fresh.growF 0).reaB v∧(Tr.fresh.growF 0).reaB v≤_
  rw [this]
  simp [look]
theorem run_make_ints2 (W:World) (z:Int) (h0:0≤z) (h1:z≤1099511627776):
  (Instr.makeSlice 28 (.int .i64 z) (.int .i64 z)).run Tryz.prog W= .ok (.slice (some ⟨W.heap.size,0,none⟩) z.toNat z.toNat) (W.alloc (.cells (madeCells #[.slice none 0 0] z.toNat) 22)):=by
 obtain ⟨i0,hi,hz0,hz1,hz2⟩:=info_parts infoInts
 obtain ⟨n,rfl⟩:=Int.eq_ofNat_of_zero_le h0
 have hr:=run_make (P:=Tryz.prog) W 28 22 i0 (.slice none 0 0) Tryz.underlying28 hi hz0 .i64 .i64 n n (by omega) (Int.le_refl _) (by rw [hz2];omega) (by omega)
 simp only [Int.toNat_natCast] at hr⊢
 rw [hz1,Nat.mul_one] at hr
 exact hr
theorem made_w2 (W:World):Wrow (W.alloc (.cells (madeCells #[.slice none 0 0] 2) 22)) (some ⟨W.heap.size,0,none⟩) 2 [⟨none,0,[]⟩,⟨none,0,[]⟩]:=by
 have :=World.ownsRow_lit (base:=0) (e:=22) (size:=1) W (madeCells #[.slice none 0 0] 2) 2 (Nat.zero_le _) (by decide) (by rw [size_madeCells])
 rw [toList_madeCells_one] at this
 exact this
theorem made_p1 (W:World):Bools (W.alloc (.cells (madeCells #[.bool false] 1) 4)) (some ⟨W.heap.size,0,none⟩) 1 [false]:=made_bools W 1 (by decide)
theorem bools_keep {w w':World} {A:Option Addr} {c:Nat} {l:List Bool} (h:Bools w A c l) (hf:Fr [] w w'):Bools w' A c l:=wild_fr h hf (by simp)
theorem wrow_keep {w w':World} {A:Option Addr} {c:Nat} {l:List Wl} (h:Wrow w A c l) (hf:Fr [] w w'):Wrow w' A c l:=wild_fr h hf (by simp)
def NewP (S:Sv) (w:World) (e:Ending) (w':World):Prop:=∃L:SvL,e= .returned (.pointer (some ⟨L.a,0,none⟩))∧SvAt w' L S∧(∀k,k<w.heap.size→(L.lab k).1≠L.id)∧Fr [] w w'
theorem szal (w:World) (o:Obj):(w.alloc o).heap.size=w.heap.size+1:=by simp
theorem szdr (w:World):w.drew.heap.size=w.heap.size:=rfl
theorem mk2 {w cur:World} (h:(fun w':World=>Fr [] w w') cur):Wrow (cur.alloc (.cells (madeCells #[.slice none 0 0] 2) 22)) (some ⟨cur.heap.size,0,none⟩) 2 [⟨none,0,[]⟩,⟨none,0,[]⟩]∧Fr [] cur (cur.alloc (.cells (madeCells #[.slice none 0 0] 2) 22)):=⟨made_w2 cur,box_fr' _ _⟩
theorem mk1 {w cur:World} (h:(fun w':World=>Fr [] w w') cur):Bools (cur.alloc (.cells (madeCells #[.bool false] 1) 4)) (some ⟨cur.heap.size,0,none⟩) 1 [false]∧Fr [] cur (cur.alloc (.cells (madeCells #[.bool false] 1) 4)):=⟨made_p1 cur,box_fr' _ _⟩
theorem grow_new {w W:World} {L9:SvL} (h9:SvAt W L9 Sv.bare) (hLn:∀k,k<w.heap.size→(L9.lab k).1≠L9.id) (hF:Fr [] w W) (n:Nat) (hn:n≤262143):
  Calls Tryz.prog 79 #[.pointer (some ⟨L9.a,0,none⟩), .int .i64 (n:Int)] W fun e w8=>e= .returned (.tuple #[])∧NewP (Sv.bare.grow n) w (.returned (.pointer (some ⟨L9.a,0,none⟩))) w8:=by
 refine (grow_calls _ L9 Sv.bare h9 Sv.Ok.bare n (by show 0+n≤_;omega)).mono ?_
 rintro e w8 ⟨rfl,L8,h8,he8,hf8⟩
 refine ⟨rfl,L8,by rw [he8.1],h8,fun k hk e=>hLn k hk (he8.2.2 k (Nat.lt_of_lt_of_le hk hF.size) (e.trans he8.2.1)),hF.trans hf8 (fun k hk=> ?_)⟩
 rw [SvL.mem_own] at hk
 rcases Nat.lt_or_ge k w.heap.size with hl |hl
 ·exact absurd hk.2 (hLn k hl)
 ·exact .inr hl
set_option maxRecDepth 100000 in
theorem new_calls (w:World) (vars:Int) (hv0: -9223372036854775808≤vars) (hv1:vars≤9223372036854775807):Calls Tryz.prog 39 #[.int .i64 vars] w (NewP (Sv.new vars) w):=by
 have KT:=Lib.hid (fun W=>trail_new W 0)
 have KH:=Lib.hid (fun W=>heap_new W 1)
 have hm2:=fun W=>run_make_ints2 W 2 (by omega) (by omega)
 have hm1:=fun W=>run_make_bool W 1 (by omega) (by omega)
 simp only [show (2:Int).toNat=2 from rfl] at hm2
 simp only [show (1:Int).toNat=1 from rfl] at hm1
 obtain ⟨n,hn⟩:∃n:Nat,(min (max vars 0) 262143).toNat=n:=⟨_,rfl⟩
 have hn1:n≤262143:=by omega
 have HNW:Hid (Sv.new vars=Sv.bare.grow n):=by show _=_;unfold Sv.new;rw [hn]
 have HNN:Hid (min (max vars 0) 262143=(n:Int)):=by show _=_;omega
 clear hn
 go_enter Tryz.func39,Tryz.ntmps39
 go_upto_region 1 with fail
 refine wp_region_noPanic ?_
 refine wp_region_C (fun w':World=>Fr [] w w') 5 (by kernel_rfl) ((Fr.refl [] w).drew) (fun hT0=> ?_)
 have hSx:=hT0.resolve_left (by decide)
 refine wpAnyC_ready (rs:=[0,2,3]) (by kernel_rfl) (by simp) ?_
 refine ReadyC.cons (o:= ?or1u1) ?hor1u1 ?hstepr1u1 ?_
 case hor1u1=>rfl
 case hstepr1u1=>
  intro K hK
  (go_simp;refine (KT.out _).mono ?_;rintro e w5 ⟨tL,rfl,ht,hn,hf⟩;(try have HT:=Lib.hid (HT.out.fr hf (by simp)));(try have HP:=Lib.hid (HP.out.fr hf (by simp)));(try have HWR:=Lib.hid (wrow_keep HWR.out hf));(try have HBR:=Lib.hid (bools_keep HBR.out hf));have hzz:=hf.size;have HSX:=Lib.hid (hSx.then_ hf);have HTL:=Lib.hid (show ∀k,k∈tL.fp→_∧k<w5.heap.size from fun k hk=>⟨hn k hk,ht.lt k hk⟩);have HT:=Lib.hid ht;clear ht hn;dsimp only)
  refine hK.out _ _ (.inr ?_) (fun hT1=> ?_)
  ·first |exact HSX.out |exact hSx.alloc _ |exact hSx
  clear hK K
  try simp only [Act.put,q5,q6,q7]
  have hSx:=hT1.resolve_left (by decide)
  refine wpAnyC_ready (rs:=[1,2,3]) (by kernel_rfl) (by simp) ?_
  refine ReadyC.cons (o:= ?or1u2) ?hor1u2 ?hstepr1u2 ?_
  case hor1u2=>rfl
  case hstepr1u2=>
   intro K hK
   (go_simp;refine (KH.out _).mono ?_;rintro e w5 ⟨hL,rfl,ht,hm,hn,hf⟩;(try have HT:=Lib.hid (HT.out.fr hf (by simp)));(try have HP:=Lib.hid (HP.out.fr hf (by simp)));(try have HWR:=Lib.hid (wrow_keep HWR.out hf));(try have HBR:=Lib.hid (bools_keep HBR.out hf));have hzz:=hf.size;have HSX:=Lib.hid (hSx.then_ hf);have HPL:=Lib.hid (show ∀k,k∈hL.fp→_∧k<w5.heap.size from fun k hk=>⟨hn k hk,ht.lt k hk⟩);have HP:=Lib.hid ht;have HPM:=Lib.hid hm;clear ht hn hm;dsimp only)
   refine hK.out _ _ (.inr ?_) (fun hT2=> ?_)
   ·first |exact HSX.out |exact hSx.alloc _ |exact hSx
   clear hK K
   try simp only [Act.put,q5,q6,q7]
   have hSx:=hT2.resolve_left (by decide)
   refine wpAnyC_ready (rs:=[2,3]) (by kernel_rfl) (by simp) ?_
   refine ReadyC.cons (o:= ?or1u3) ?hor1u3 ?hstepr1u3 ?_
   case hor1u3=>rfl
   case hstepr1u3=>
    intro K hK
    (obtain ⟨hwr,hf⟩:=mk2 hSx;(try have HT:=Lib.hid (HT.out.fr hf (by simp)));(try have HP:=Lib.hid (HP.out.fr hf (by simp)));(try have HWR:=Lib.hid (wrow_keep HWR.out hf));(try have HBR:=Lib.hid (bools_keep HBR.out hf));have hzz:=hf.size;have HWR:=Lib.hid hwr;have HSX:=Lib.hid (hSx.then_ hf);clear hwr;go_simp)
    refine hK.out _ _ (.inr ?_) (fun hT3=> ?_)
    ·first |exact HSX.out |exact hSx.alloc _ |exact hSx
    clear hK K
    try simp only [Act.put,q5,q6,q7]
    refine R2 3 (by kernel_rfl) (by rfl) hT3 fun K hK hSx=> ?_
    (obtain ⟨hbr,hf⟩:=mk1 hSx;(try have HT:=Lib.hid (HT.out.fr hf (by simp)));(try have HP:=Lib.hid (HP.out.fr hf (by simp)));(try have HWR:=Lib.hid (wrow_keep HWR.out hf));(try have HBR:=Lib.hid (bools_keep HBR.out hf));have hzz:=hf.size;have HBR:=Lib.hid hbr;have HSX:=Lib.hid (hSx.then_ hf);clear hbr;go_simp)
    refine hK.out _ _ (.inr ?_) (fun hT4=> ?_)
    ·first |exact HSX.out |exact hSx.alloc _ |exact hSx
    clear hK K
    try simp only [Act.put,q5,q6,q7]
    apply TB 1 [(4,[])];kernel_rfl;rfl;· (repeat (apply TBc;rfl;rfl;(· intro w hSw;go_simp<;>with_reducible rfl);try simp only [Act.put,q5,q6,q7]));exact TBn
    exact hT4;intro hT4
    refine R2 5 (by kernel_rfl) (by rfl) hT4 fun K hK hSx=> ?_
    (go_simp)
    refine hK.out _ _ (.inl rfl) (fun hT6=> ?_)
    clear hK K
    try simp only [Act.put,q5,q6,q7]
    refine R1 (i:=6) (o:= ?or1u7) (by kernel_rfl) (by rfl) ?_
    intro K hK
    go_simp
    refine hK.out _ _ (.inl rfl) (fun hT7=> ?_)
    clear hK K
    try simp only [Act.put,q5,q6,q7]
    refine wpAnyC_done (by kernel_rfl) ?_ _
    refine NoPanic.normal ?_
    have hsx:=HSX.out.size
    obtain ⟨L9,hLa,hL9,hLn,hF9⟩:=SvAt.make HT.out HP.out HPM.out HWR.out HBR.out w.heap.size hsx (by refine ⟨?_,?_,?_,?_,?_,?_,?_,?_,?_,?_⟩<;>((try intro a1);(try intro a2);(try intro a3);(try have b1:=HTL.out _ a1);(try have b2:=HTL.out _ a2);(try have b3:=HPL.out _ a1);(try have b4:=HPL.out _ a2);(try have b5:=HPL.out _ a3);(try simp only [szal,szdr] at *);omega))
    (try simp only [szal,szdr] at hL9 hLa hF9)
    have KG:=grow_new (w:=w) hL9 hLn (HSX.out.then_ hF9) n hn1
    rw [hLa,←HNW.out] at KG
    have KG:=Lib.hid KG
    clear hL9 hLa hLn hsx hF9 hm2 hm1
    by_cases h0:vars<0
    ·obtain rfl :n=0:=by have :=HNN.out;omega
     go_wp2_with fail
     refine KG.out.mono ?_
     rintro e w8 ⟨rfl,hN⟩
     have FF:=Lib.hid hN
     clear hN KG
     go_wp2_with fail
     go_ret
     exact FF.out
    ·have h0':(0:Int)≤vars:=by omega
     by_cases h1:262143<vars
     ·obtain rfl :n=262143:=by have :=HNN.out;omega
      go_wp2_with fail
      refine KG.out.mono ?_
      rintro e w8 ⟨rfl,hN⟩
      have FF:=Lib.hid hN
      clear hN KG
      go_wp2_with fail
      go_ret
      exact FF.out
     ·obtain rfl :vars=(n:Int):=by have :=HNN.out;omega
      have h1':(n:Int)≤262143:=by omega
      go_wp2_with fail
      refine KG.out.mono ?_
      rintro e w8 ⟨rfl,hN⟩
      have FF:=Lib.hid hN
      clear hN KG
      go_wp2_with fail
      go_ret
      exact FF.out
   refine ReadyC.cons (o:= ?or1u8) ?hor1u8 ?hstepr1u8 ReadyC.nil
   case hor1u8=>rfl
   intro K hK
   (obtain ⟨hbr,hf⟩:=mk1 hSx;(try have HT:=Lib.hid (HT.out.fr hf (by simp)));(try have HP:=Lib.hid (HP.out.fr hf (by simp)));(try have HWR:=Lib.hid (wrow_keep HWR.out hf));(try have HBR:=Lib.hid (bools_keep HBR.out hf));have hzz:=hf.size;have HBR:=Lib.hid hbr;have HSX:=Lib.hid (hSx.then_ hf);clear hbr;go_simp)
   refine hK.out _ _ (.inr ?_) (fun hT3=> ?_)
   ·first |exact HSX.out |exact hSx.alloc _ |exact hSx
   clear hK K
   try simp only [Act.put,q5,q6,q7]
   refine R2 2 (by kernel_rfl) (by rfl) hT3 fun K hK hSx=> ?_
   (obtain ⟨hwr,hf⟩:=mk2 hSx;(try have HT:=Lib.hid (HT.out.fr hf (by simp)));(try have HP:=Lib.hid (HP.out.fr hf (by simp)));(try have HWR:=Lib.hid (wrow_keep HWR.out hf));(try have HBR:=Lib.hid (bools_keep HBR.out hf));have hzz:=hf.size;have HWR:=Lib.hid hwr;have HSX:=Lib.hid (hSx.then_ hf);clear hwr;go_simp)
   refine hK.out _ _ (.inr ?_) (fun hT4=> ?_)
   ·first |exact HSX.out |exact hSx.alloc _ |exact hSx
   clear hK K
   try simp only [Act.put,q5,q6,q7]
   apply TB 1 [(4,[])];kernel_rfl;rfl;· (repeat (apply TBc;rfl;rfl;(· intro w hSw;go_simp<;>with_reducible rfl);try simp only [Act.put,q5,q6,q7]));exact TBn
   exact hT4;intro hT4
   refine R2 5 (by kernel_rfl) (by rfl) hT4 fun K hK hSx=> ?_
   (go_simp)
   refine hK.out _ _ (.inl rfl) (fun hT6=> ?_)
   clear hK K
   try simp only [Act.put,q5,q6,q7]
   refine R1 (i:=6) (o:= ?or1u12) (by kernel_rfl) (by rfl) ?_
   intro K hK
   go_simp
   refine hK.out _ _ (.inl rfl) (fun hT7=> ?_)
   clear hK K
   try simp only [Act.put,q5,q6,q7]
   refine wpAnyC_done (by kernel_rfl) ?_ _
   refine NoPanic.normal ?_
   have hsx:=HSX.out.size
   obtain ⟨L9,hLa,hL9,hLn,hF9⟩:=SvAt.make HT.out HP.out HPM.out HWR.out HBR.out w.heap.size hsx (by refine ⟨?_,?_,?_,?_,?_,?_,?_,?_,?_,?_⟩<;>((try intro a1);(try intro a2);(try intro a3);(try have b1:=HTL.out _ a1);(try have b2:=HTL.out _ a2);(try have b3:=HPL.out _ a1);(try have b4:=HPL.out _ a2);(try have b5:=HPL.out _ a3);(try simp only [szal,szdr] at *);omega))
   (try simp only [szal,szdr] at hL9 hLa hF9)
   have KG:=grow_new (w:=w) hL9 hLn (HSX.out.then_ hF9) n hn1
   rw [hLa,←HNW.out] at KG
   have KG:=Lib.hid KG
   clear hL9 hLa hLn hsx hF9 hm2 hm1
   by_cases h0:vars<0
   ·obtain rfl :n=0:=by have :=HNN.out;omega
    go_wp2_with fail
    refine KG.out.mono ?_
    rintro e w8 ⟨rfl,hN⟩
    have FF:=Lib.hid hN
    clear hN KG
    go_wp2_with fail
    go_ret
    exact FF.out
   ·have h0':(0:Int)≤vars:=by omega
    by_cases h1:262143<vars
    ·obtain rfl :n=262143:=by have :=HNN.out;omega
     go_wp2_with fail
     refine KG.out.mono ?_
     rintro e w8 ⟨rfl,hN⟩
     have FF:=Lib.hid hN
     clear hN KG
     go_wp2_with fail
     go_ret
     exact FF.out
    ·obtain rfl :vars=(n:Int):=by have :=HNN.out;omega
     have h1':(n:Int)≤262143:=by omega
     go_wp2_with fail
     refine KG.out.mono ?_
     rintro e w8 ⟨rfl,hN⟩
     have FF:=Lib.hid hN
     clear hN KG
     go_wp2_with fail
     go_ret
     exact FF.out
  refine ReadyC.cons (o:= ?or1u13) ?hor1u13 ?hstepr1u13 ?_
  case hor1u13=>rfl
  case hstepr1u13=>
   intro K hK
   (obtain ⟨hwr,hf⟩:=mk2 hSx;(try have HT:=Lib.hid (HT.out.fr hf (by simp)));(try have HP:=Lib.hid (HP.out.fr hf (by simp)));(try have HWR:=Lib.hid (wrow_keep HWR.out hf));(try have HBR:=Lib.hid (bools_keep HBR.out hf));have hzz:=hf.size;have HWR:=Lib.hid hwr;have HSX:=Lib.hid (hSx.then_ hf);clear hwr;go_simp)
   refine hK.out _ _ (.inr ?_) (fun hT2=> ?_)
   ·first |exact HSX.out |exact hSx.alloc _ |exact hSx
   clear hK K
   try simp only [Act.put,q5,q6,q7]
   have hSx:=hT2.resolve_left (by decide)
   refine wpAnyC_ready (rs:=[1,3]) (by kernel_rfl) (by simp) ?_
   refine ReadyC.cons (o:= ?or1u14) ?hor1u14 ?hstepr1u14 ?_
   case hor1u14=>rfl
   case hstepr1u14=>
    intro K hK
    (go_simp;refine (KH.out _).mono ?_;rintro e w5 ⟨hL,rfl,ht,hm,hn,hf⟩;(try have HT:=Lib.hid (HT.out.fr hf (by simp)));(try have HP:=Lib.hid (HP.out.fr hf (by simp)));(try have HWR:=Lib.hid (wrow_keep HWR.out hf));(try have HBR:=Lib.hid (bools_keep HBR.out hf));have hzz:=hf.size;have HSX:=Lib.hid (hSx.then_ hf);have HPL:=Lib.hid (show ∀k,k∈hL.fp→_∧k<w5.heap.size from fun k hk=>⟨hn k hk,ht.lt k hk⟩);have HP:=Lib.hid ht;have HPM:=Lib.hid hm;clear ht hn hm;dsimp only)
    refine hK.out _ _ (.inr ?_) (fun hT3=> ?_)
    ·first |exact HSX.out |exact hSx.alloc _ |exact hSx
    clear hK K
    try simp only [Act.put,q5,q6,q7]
    refine R2 3 (by kernel_rfl) (by rfl) hT3 fun K hK hSx=> ?_
    (obtain ⟨hbr,hf⟩:=mk1 hSx;(try have HT:=Lib.hid (HT.out.fr hf (by simp)));(try have HP:=Lib.hid (HP.out.fr hf (by simp)));(try have HWR:=Lib.hid (wrow_keep HWR.out hf));(try have HBR:=Lib.hid (bools_keep HBR.out hf));have hzz:=hf.size;have HBR:=Lib.hid hbr;have HSX:=Lib.hid (hSx.then_ hf);clear hbr;go_simp)
    refine hK.out _ _ (.inr ?_) (fun hT4=> ?_)
    ·first |exact HSX.out |exact hSx.alloc _ |exact hSx
    clear hK K
    try simp only [Act.put,q5,q6,q7]
    apply TB 1 [(4,[])];kernel_rfl;rfl;· (repeat (apply TBc;rfl;rfl;(· intro w hSw;go_simp<;>with_reducible rfl);try simp only [Act.put,q5,q6,q7]));exact TBn
    exact hT4;intro hT4
    refine R2 5 (by kernel_rfl) (by rfl) hT4 fun K hK hSx=> ?_
    (go_simp)
    refine hK.out _ _ (.inl rfl) (fun hT6=> ?_)
    clear hK K
    try simp only [Act.put,q5,q6,q7]
    refine R1 (i:=6) (o:= ?or1u18) (by kernel_rfl) (by rfl) ?_
    intro K hK
    go_simp
    refine hK.out _ _ (.inl rfl) (fun hT7=> ?_)
    clear hK K
    try simp only [Act.put,q5,q6,q7]
    refine wpAnyC_done (by kernel_rfl) ?_ _
    refine NoPanic.normal ?_
    have hsx:=HSX.out.size
    obtain ⟨L9,hLa,hL9,hLn,hF9⟩:=SvAt.make HT.out HP.out HPM.out HWR.out HBR.out w.heap.size hsx (by refine ⟨?_,?_,?_,?_,?_,?_,?_,?_,?_,?_⟩<;>((try intro a1);(try intro a2);(try intro a3);(try have b1:=HTL.out _ a1);(try have b2:=HTL.out _ a2);(try have b3:=HPL.out _ a1);(try have b4:=HPL.out _ a2);(try have b5:=HPL.out _ a3);(try simp only [szal,szdr] at *);omega))
    (try simp only [szal,szdr] at hL9 hLa hF9)
    have KG:=grow_new (w:=w) hL9 hLn (HSX.out.then_ hF9) n hn1
    rw [hLa,←HNW.out] at KG
    have KG:=Lib.hid KG
    clear hL9 hLa hLn hsx hF9 hm2 hm1
    by_cases h0:vars<0
    ·obtain rfl :n=0:=by have :=HNN.out;omega
     go_wp2_with fail
     refine KG.out.mono ?_
     rintro e w8 ⟨rfl,hN⟩
     have FF:=Lib.hid hN
     clear hN KG
     go_wp2_with fail
     go_ret
     exact FF.out
    ·have h0':(0:Int)≤vars:=by omega
     by_cases h1:262143<vars
     ·obtain rfl :n=262143:=by have :=HNN.out;omega
      go_wp2_with fail
      refine KG.out.mono ?_
      rintro e w8 ⟨rfl,hN⟩
      have FF:=Lib.hid hN
      clear hN KG
      go_wp2_with fail
      go_ret
      exact FF.out
     ·obtain rfl :vars=(n:Int):=by have :=HNN.out;omega
      have h1':(n:Int)≤262143:=by omega
      go_wp2_with fail
      refine KG.out.mono ?_
      rintro e w8 ⟨rfl,hN⟩
      have FF:=Lib.hid hN
      clear hN KG
      go_wp2_with fail
      go_ret
      exact FF.out
   refine ReadyC.cons (o:= ?or1u19) ?hor1u19 ?hstepr1u19 ReadyC.nil
   case hor1u19=>rfl
   intro K hK
   (obtain ⟨hbr,hf⟩:=mk1 hSx;(try have HT:=Lib.hid (HT.out.fr hf (by simp)));(try have HP:=Lib.hid (HP.out.fr hf (by simp)));(try have HWR:=Lib.hid (wrow_keep HWR.out hf));(try have HBR:=Lib.hid (bools_keep HBR.out hf));have hzz:=hf.size;have HBR:=Lib.hid hbr;have HSX:=Lib.hid (hSx.then_ hf);clear hbr;go_simp)
   refine hK.out _ _ (.inr ?_) (fun hT3=> ?_)
   ·first |exact HSX.out |exact hSx.alloc _ |exact hSx
   clear hK K
   try simp only [Act.put,q5,q6,q7]
   refine R2 1 (by kernel_rfl) (by rfl) hT3 fun K hK hSx=> ?_
   (go_simp;refine (KH.out _).mono ?_;rintro e w5 ⟨hL,rfl,ht,hm,hn,hf⟩;(try have HT:=Lib.hid (HT.out.fr hf (by simp)));(try have HP:=Lib.hid (HP.out.fr hf (by simp)));(try have HWR:=Lib.hid (wrow_keep HWR.out hf));(try have HBR:=Lib.hid (bools_keep HBR.out hf));have hzz:=hf.size;have HSX:=Lib.hid (hSx.then_ hf);have HPL:=Lib.hid (show ∀k,k∈hL.fp→_∧k<w5.heap.size from fun k hk=>⟨hn k hk,ht.lt k hk⟩);have HP:=Lib.hid ht;have HPM:=Lib.hid hm;clear ht hn hm;dsimp only)
   refine hK.out _ _ (.inr ?_) (fun hT4=> ?_)
   ·first |exact HSX.out |exact hSx.alloc _ |exact hSx
   clear hK K
   try simp only [Act.put,q5,q6,q7]
   apply TB 1 [(4,[])];kernel_rfl;rfl;· (repeat (apply TBc;rfl;rfl;(· intro w hSw;go_simp<;>with_reducible rfl);try simp only [Act.put,q5,q6,q7]));exact TBn
   exact hT4;intro hT4
   refine R2 5 (by kernel_rfl) (by rfl) hT4 fun K hK hSx=> ?_
   (go_simp)
   refine hK.out _ _ (.inl rfl) (fun hT6=> ?_)
   clear hK K
   try simp only [Act.put,q5,q6,q7]
   refine R1 (i:=6) (o:= ?or1u23) (by kernel_rfl) (by rfl) ?_
   intro K hK
   go_simp
   refine hK.out _ _ (.inl rfl) (fun hT7=> ?_)
   clear hK K
   try simp only [Act.put,q5,q6,q7]
   refine wpAnyC_done (by kernel_rfl) ?_ _
   refine NoPanic.normal ?_
   have hsx:=HSX.out.size
   obtain ⟨L9,hLa,hL9,hLn,hF9⟩:=SvAt.make HT.out HP.out HPM.out HWR.out HBR.out w.heap.size hsx (by refine ⟨?_,?_,?_,?_,?_,?_,?_,?_,?_,?_⟩<;>((try intro a1);(try intro a2);(try intro a3);(try have b1:=HTL.out _ a1);(try have b2:=HTL.out _ a2);(try have b3:=HPL.out _ a1);(try have b4:=HPL.out _ a2);(try have b5:=HPL.out _ a3);(try simp only [szal,szdr] at *);omega))
   (try simp only [szal,szdr] at hL9 hLa hF9)
   have KG:=grow_new (w:=w) hL9 hLn (HSX.out.then_ hF9) n hn1
   rw [hLa,←HNW.out] at KG
   have KG:=Lib.hid KG
   clear hL9 hLa hLn hsx hF9 hm2 hm1
   by_cases h0:vars<0
   ·obtain rfl :n=0:=by have :=HNN.out;omega
    go_wp2_with fail
    refine KG.out.mono ?_
    rintro e w8 ⟨rfl,hN⟩
    have FF:=Lib.hid hN
    clear hN KG
    go_wp2_with fail
    go_ret
    exact FF.out
   ·have h0':(0:Int)≤vars:=by omega
    by_cases h1:262143<vars
    ·obtain rfl :n=262143:=by have :=HNN.out;omega
     go_wp2_with fail
     refine KG.out.mono ?_
     rintro e w8 ⟨rfl,hN⟩
     have FF:=Lib.hid hN
     clear hN KG
     go_wp2_with fail
     go_ret
     exact FF.out
    ·obtain rfl :vars=(n:Int):=by have :=HNN.out;omega
     have h1':(n:Int)≤262143:=by omega
     go_wp2_with fail
     refine KG.out.mono ?_
     rintro e w8 ⟨rfl,hN⟩
     have FF:=Lib.hid hN
     clear hN KG
     go_wp2_with fail
     go_ret
     exact FF.out
  refine ReadyC.cons (o:= ?or1u24) ?hor1u24 ?hstepr1u24 ReadyC.nil
  case hor1u24=>rfl
  intro K hK
  (obtain ⟨hbr,hf⟩:=mk1 hSx;(try have HT:=Lib.hid (HT.out.fr hf (by simp)));(try have HP:=Lib.hid (HP.out.fr hf (by simp)));(try have HWR:=Lib.hid (wrow_keep HWR.out hf));(try have HBR:=Lib.hid (bools_keep HBR.out hf));have hzz:=hf.size;have HBR:=Lib.hid hbr;have HSX:=Lib.hid (hSx.then_ hf);clear hbr;go_simp)
  refine hK.out _ _ (.inr ?_) (fun hT2=> ?_)
  ·first |exact HSX.out |exact hSx.alloc _ |exact hSx
  clear hK K
  try simp only [Act.put,q5,q6,q7]
  have hSx:=hT2.resolve_left (by decide)
  refine wpAnyC_ready (rs:=[1,2]) (by kernel_rfl) (by simp) ?_
  refine ReadyC.cons (o:= ?or1u25) ?hor1u25 ?hstepr1u25 ?_
  case hor1u25=>rfl
  case hstepr1u25=>
   intro K hK
   (go_simp;refine (KH.out _).mono ?_;rintro e w5 ⟨hL,rfl,ht,hm,hn,hf⟩;(try have HT:=Lib.hid (HT.out.fr hf (by simp)));(try have HP:=Lib.hid (HP.out.fr hf (by simp)));(try have HWR:=Lib.hid (wrow_keep HWR.out hf));(try have HBR:=Lib.hid (bools_keep HBR.out hf));have hzz:=hf.size;have HSX:=Lib.hid (hSx.then_ hf);have HPL:=Lib.hid (show ∀k,k∈hL.fp→_∧k<w5.heap.size from fun k hk=>⟨hn k hk,ht.lt k hk⟩);have HP:=Lib.hid ht;have HPM:=Lib.hid hm;clear ht hn hm;dsimp only)
   refine hK.out _ _ (.inr ?_) (fun hT3=> ?_)
   ·first |exact HSX.out |exact hSx.alloc _ |exact hSx
   clear hK K
   try simp only [Act.put,q5,q6,q7]
   refine R2 2 (by kernel_rfl) (by rfl) hT3 fun K hK hSx=> ?_
   (obtain ⟨hwr,hf⟩:=mk2 hSx;(try have HT:=Lib.hid (HT.out.fr hf (by simp)));(try have HP:=Lib.hid (HP.out.fr hf (by simp)));(try have HWR:=Lib.hid (wrow_keep HWR.out hf));(try have HBR:=Lib.hid (bools_keep HBR.out hf));have hzz:=hf.size;have HWR:=Lib.hid hwr;have HSX:=Lib.hid (hSx.then_ hf);clear hwr;go_simp)
   refine hK.out _ _ (.inr ?_) (fun hT4=> ?_)
   ·first |exact HSX.out |exact hSx.alloc _ |exact hSx
   clear hK K
   try simp only [Act.put,q5,q6,q7]
   apply TB 1 [(4,[])];kernel_rfl;rfl;· (repeat (apply TBc;rfl;rfl;(· intro w hSw;go_simp<;>with_reducible rfl);try simp only [Act.put,q5,q6,q7]));exact TBn
   exact hT4;intro hT4
   refine R2 5 (by kernel_rfl) (by rfl) hT4 fun K hK hSx=> ?_
   (go_simp)
   refine hK.out _ _ (.inl rfl) (fun hT6=> ?_)
   clear hK K
   try simp only [Act.put,q5,q6,q7]
   refine R1 (i:=6) (o:= ?or1u29) (by kernel_rfl) (by rfl) ?_
   intro K hK
   go_simp
   refine hK.out _ _ (.inl rfl) (fun hT7=> ?_)
   clear hK K
   try simp only [Act.put,q5,q6,q7]
   refine wpAnyC_done (by kernel_rfl) ?_ _
   refine NoPanic.normal ?_
   have hsx:=HSX.out.size
   obtain ⟨L9,hLa,hL9,hLn,hF9⟩:=SvAt.make HT.out HP.out HPM.out HWR.out HBR.out w.heap.size hsx (by refine ⟨?_,?_,?_,?_,?_,?_,?_,?_,?_,?_⟩<;>((try intro a1);(try intro a2);(try intro a3);(try have b1:=HTL.out _ a1);(try have b2:=HTL.out _ a2);(try have b3:=HPL.out _ a1);(try have b4:=HPL.out _ a2);(try have b5:=HPL.out _ a3);(try simp only [szal,szdr] at *);omega))
   (try simp only [szal,szdr] at hL9 hLa hF9)
   have KG:=grow_new (w:=w) hL9 hLn (HSX.out.then_ hF9) n hn1
   rw [hLa,←HNW.out] at KG
   have KG:=Lib.hid KG
   clear hL9 hLa hLn hsx hF9 hm2 hm1
   by_cases h0:vars<0
   ·obtain rfl :n=0:=by have :=HNN.out;omega
    go_wp2_with fail
    refine KG.out.mono ?_
    rintro e w8 ⟨rfl,hN⟩
    have FF:=Lib.hid hN
    clear hN KG
    go_wp2_with fail
    go_ret
    exact FF.out
   ·have h0':(0:Int)≤vars:=by omega
    by_cases h1:262143<vars
    ·obtain rfl :n=262143:=by have :=HNN.out;omega
     go_wp2_with fail
     refine KG.out.mono ?_
     rintro e w8 ⟨rfl,hN⟩
     have FF:=Lib.hid hN
     clear hN KG
     go_wp2_with fail
     go_ret
     exact FF.out
    ·obtain rfl :vars=(n:Int):=by have :=HNN.out;omega
     have h1':(n:Int)≤262143:=by omega
     go_wp2_with fail
     refine KG.out.mono ?_
     rintro e w8 ⟨rfl,hN⟩
     have FF:=Lib.hid hN
     clear hN KG
     go_wp2_with fail
     go_ret
     exact FF.out
  refine ReadyC.cons (o:= ?or1u30) ?hor1u30 ?hstepr1u30 ReadyC.nil
  case hor1u30=>rfl
  intro K hK
  (obtain ⟨hwr,hf⟩:=mk2 hSx;(try have HT:=Lib.hid (HT.out.fr hf (by simp)));(try have HP:=Lib.hid (HP.out.fr hf (by simp)));(try have HWR:=Lib.hid (wrow_keep HWR.out hf));(try have HBR:=Lib.hid (bools_keep HBR.out hf));have hzz:=hf.size;have HWR:=Lib.hid hwr;have HSX:=Lib.hid (hSx.then_ hf);clear hwr;go_simp)
  refine hK.out _ _ (.inr ?_) (fun hT3=> ?_)
  ·first |exact HSX.out |exact hSx.alloc _ |exact hSx
  clear hK K
  try simp only [Act.put,q5,q6,q7]
  refine R2 1 (by kernel_rfl) (by rfl) hT3 fun K hK hSx=> ?_
  (go_simp;refine (KH.out _).mono ?_;rintro e w5 ⟨hL,rfl,ht,hm,hn,hf⟩;(try have HT:=Lib.hid (HT.out.fr hf (by simp)));(try have HP:=Lib.hid (HP.out.fr hf (by simp)));(try have HWR:=Lib.hid (wrow_keep HWR.out hf));(try have HBR:=Lib.hid (bools_keep HBR.out hf));have hzz:=hf.size;have HSX:=Lib.hid (hSx.then_ hf);have HPL:=Lib.hid (show ∀k,k∈hL.fp→_∧k<w5.heap.size from fun k hk=>⟨hn k hk,ht.lt k hk⟩);have HP:=Lib.hid ht;have HPM:=Lib.hid hm;clear ht hn hm;dsimp only)
  refine hK.out _ _ (.inr ?_) (fun hT4=> ?_)
  ·first |exact HSX.out |exact hSx.alloc _ |exact hSx
  clear hK K
  try simp only [Act.put,q5,q6,q7]
  apply TB 1 [(4,[])];kernel_rfl;rfl;· (repeat (apply TBc;rfl;rfl;(· intro w hSw;go_simp<;>with_reducible rfl);try simp only [Act.put,q5,q6,q7]));exact TBn
  exact hT4;intro hT4
  refine R2 5 (by kernel_rfl) (by rfl) hT4 fun K hK hSx=> ?_
  (go_simp)
  refine hK.out _ _ (.inl rfl) (fun hT6=> ?_)
  clear hK K
  try simp only [Act.put,q5,q6,q7]
  refine R1 (i:=6) (o:= ?or1u34) (by kernel_rfl) (by rfl) ?_
  intro K hK
  go_simp
  refine hK.out _ _ (.inl rfl) (fun hT7=> ?_)
  clear hK K
  try simp only [Act.put,q5,q6,q7]
  refine wpAnyC_done (by kernel_rfl) ?_ _
  refine NoPanic.normal ?_
  have hsx:=HSX.out.size
  obtain ⟨L9,hLa,hL9,hLn,hF9⟩:=SvAt.make HT.out HP.out HPM.out HWR.out HBR.out w.heap.size hsx (by refine ⟨?_,?_,?_,?_,?_,?_,?_,?_,?_,?_⟩<;>((try intro a1);(try intro a2);(try intro a3);(try have b1:=HTL.out _ a1);(try have b2:=HTL.out _ a2);(try have b3:=HPL.out _ a1);(try have b4:=HPL.out _ a2);(try have b5:=HPL.out _ a3);(try simp only [szal,szdr] at *);omega))
  (try simp only [szal,szdr] at hL9 hLa hF9)
  have KG:=grow_new (w:=w) hL9 hLn (HSX.out.then_ hF9) n hn1
  rw [hLa,←HNW.out] at KG
  have KG:=Lib.hid KG
  clear hL9 hLa hLn hsx hF9 hm2 hm1
  by_cases h0:vars<0
  ·obtain rfl :n=0:=by have :=HNN.out;omega
   go_wp2_with fail
   refine KG.out.mono ?_
   rintro e w8 ⟨rfl,hN⟩
   have FF:=Lib.hid hN
   clear hN KG
   go_wp2_with fail
   go_ret
   exact FF.out
  ·have h0':(0:Int)≤vars:=by omega
   by_cases h1:262143<vars
   ·obtain rfl :n=262143:=by have :=HNN.out;omega
    go_wp2_with fail
    refine KG.out.mono ?_
    rintro e w8 ⟨rfl,hN⟩
    have FF:=Lib.hid hN
    clear hN KG
    go_wp2_with fail
    go_ret
    exact FF.out
   ·obtain rfl :vars=(n:Int):=by have :=HNN.out;omega
    have h1':(n:Int)≤262143:=by omega
    go_wp2_with fail
    refine KG.out.mono ?_
    rintro e w8 ⟨rfl,hN⟩
    have FF:=Lib.hid hN
    clear hN KG
    go_wp2_with fail
    go_ret
    exact FF.out
 refine ReadyC.cons (o:= ?or1u35) ?hor1u35 ?hstepr1u35 ?_
 case hor1u35=>rfl
 case hstepr1u35=>
  intro K hK
  (obtain ⟨hwr,hf⟩:=mk2 hSx;(try have HT:=Lib.hid (HT.out.fr hf (by simp)));(try have HP:=Lib.hid (HP.out.fr hf (by simp)));(try have HWR:=Lib.hid (wrow_keep HWR.out hf));(try have HBR:=Lib.hid (bools_keep HBR.out hf));have hzz:=hf.size;have HWR:=Lib.hid hwr;have HSX:=Lib.hid (hSx.then_ hf);clear hwr;go_simp)
  refine hK.out _ _ (.inr ?_) (fun hT1=> ?_)
  ·first |exact HSX.out |exact hSx.alloc _ |exact hSx
  clear hK K
  try simp only [Act.put,q5,q6,q7]
  have hSx:=hT1.resolve_left (by decide)
  refine wpAnyC_ready (rs:=[0,3]) (by kernel_rfl) (by simp) ?_
  refine ReadyC.cons (o:= ?or1u36) ?hor1u36 ?hstepr1u36 ?_
  case hor1u36=>rfl
  case hstepr1u36=>
   intro K hK
   (go_simp;refine (KT.out _).mono ?_;rintro e w5 ⟨tL,rfl,ht,hn,hf⟩;(try have HT:=Lib.hid (HT.out.fr hf (by simp)));(try have HP:=Lib.hid (HP.out.fr hf (by simp)));(try have HWR:=Lib.hid (wrow_keep HWR.out hf));(try have HBR:=Lib.hid (bools_keep HBR.out hf));have hzz:=hf.size;have HSX:=Lib.hid (hSx.then_ hf);have HTL:=Lib.hid (show ∀k,k∈tL.fp→_∧k<w5.heap.size from fun k hk=>⟨hn k hk,ht.lt k hk⟩);have HT:=Lib.hid ht;clear ht hn;dsimp only)
   refine hK.out _ _ (.inr ?_) (fun hT2=> ?_)
   ·first |exact HSX.out |exact hSx.alloc _ |exact hSx
   clear hK K
   try simp only [Act.put,q5,q6,q7]
   have hSx:=hT2.resolve_left (by decide)
   refine wpAnyC_ready (rs:=[1,3]) (by kernel_rfl) (by simp) ?_
   refine ReadyC.cons (o:= ?or1u37) ?hor1u37 ?hstepr1u37 ?_
   case hor1u37=>rfl
   case hstepr1u37=>
    intro K hK
    (go_simp;refine (KH.out _).mono ?_;rintro e w5 ⟨hL,rfl,ht,hm,hn,hf⟩;(try have HT:=Lib.hid (HT.out.fr hf (by simp)));(try have HP:=Lib.hid (HP.out.fr hf (by simp)));(try have HWR:=Lib.hid (wrow_keep HWR.out hf));(try have HBR:=Lib.hid (bools_keep HBR.out hf));have hzz:=hf.size;have HSX:=Lib.hid (hSx.then_ hf);have HPL:=Lib.hid (show ∀k,k∈hL.fp→_∧k<w5.heap.size from fun k hk=>⟨hn k hk,ht.lt k hk⟩);have HP:=Lib.hid ht;have HPM:=Lib.hid hm;clear ht hn hm;dsimp only)
    refine hK.out _ _ (.inr ?_) (fun hT3=> ?_)
    ·first |exact HSX.out |exact hSx.alloc _ |exact hSx
    clear hK K
    try simp only [Act.put,q5,q6,q7]
    refine R2 3 (by kernel_rfl) (by rfl) hT3 fun K hK hSx=> ?_
    (obtain ⟨hbr,hf⟩:=mk1 hSx;(try have HT:=Lib.hid (HT.out.fr hf (by simp)));(try have HP:=Lib.hid (HP.out.fr hf (by simp)));(try have HWR:=Lib.hid (wrow_keep HWR.out hf));(try have HBR:=Lib.hid (bools_keep HBR.out hf));have hzz:=hf.size;have HBR:=Lib.hid hbr;have HSX:=Lib.hid (hSx.then_ hf);clear hbr;go_simp)
    refine hK.out _ _ (.inr ?_) (fun hT4=> ?_)
    ·first |exact HSX.out |exact hSx.alloc _ |exact hSx
    clear hK K
    try simp only [Act.put,q5,q6,q7]
    apply TB 1 [(4,[])];kernel_rfl;rfl;· (repeat (apply TBc;rfl;rfl;(· intro w hSw;go_simp<;>with_reducible rfl);try simp only [Act.put,q5,q6,q7]));exact TBn
    exact hT4;intro hT4
    refine R2 5 (by kernel_rfl) (by rfl) hT4 fun K hK hSx=> ?_
    (go_simp)
    refine hK.out _ _ (.inl rfl) (fun hT6=> ?_)
    clear hK K
    try simp only [Act.put,q5,q6,q7]
    refine R1 (i:=6) (o:= ?or1u41) (by kernel_rfl) (by rfl) ?_
    intro K hK
    go_simp
    refine hK.out _ _ (.inl rfl) (fun hT7=> ?_)
    clear hK K
    try simp only [Act.put,q5,q6,q7]
    refine wpAnyC_done (by kernel_rfl) ?_ _
    refine NoPanic.normal ?_
    have hsx:=HSX.out.size
    obtain ⟨L9,hLa,hL9,hLn,hF9⟩:=SvAt.make HT.out HP.out HPM.out HWR.out HBR.out w.heap.size hsx (by refine ⟨?_,?_,?_,?_,?_,?_,?_,?_,?_,?_⟩<;>((try intro a1);(try intro a2);(try intro a3);(try have b1:=HTL.out _ a1);(try have b2:=HTL.out _ a2);(try have b3:=HPL.out _ a1);(try have b4:=HPL.out _ a2);(try have b5:=HPL.out _ a3);(try simp only [szal,szdr] at *);omega))
    (try simp only [szal,szdr] at hL9 hLa hF9)
    have KG:=grow_new (w:=w) hL9 hLn (HSX.out.then_ hF9) n hn1
    rw [hLa,←HNW.out] at KG
    have KG:=Lib.hid KG
    clear hL9 hLa hLn hsx hF9 hm2 hm1
    by_cases h0:vars<0
    ·obtain rfl :n=0:=by have :=HNN.out;omega
     go_wp2_with fail
     refine KG.out.mono ?_
     rintro e w8 ⟨rfl,hN⟩
     have FF:=Lib.hid hN
     clear hN KG
     go_wp2_with fail
     go_ret
     exact FF.out
    ·have h0':(0:Int)≤vars:=by omega
     by_cases h1:262143<vars
     ·obtain rfl :n=262143:=by have :=HNN.out;omega
      go_wp2_with fail
      refine KG.out.mono ?_
      rintro e w8 ⟨rfl,hN⟩
      have FF:=Lib.hid hN
      clear hN KG
      go_wp2_with fail
      go_ret
      exact FF.out
     ·obtain rfl :vars=(n:Int):=by have :=HNN.out;omega
      have h1':(n:Int)≤262143:=by omega
      go_wp2_with fail
      refine KG.out.mono ?_
      rintro e w8 ⟨rfl,hN⟩
      have FF:=Lib.hid hN
      clear hN KG
      go_wp2_with fail
      go_ret
      exact FF.out
   refine ReadyC.cons (o:= ?or1u42) ?hor1u42 ?hstepr1u42 ReadyC.nil
   case hor1u42=>rfl
   intro K hK
   (obtain ⟨hbr,hf⟩:=mk1 hSx;(try have HT:=Lib.hid (HT.out.fr hf (by simp)));(try have HP:=Lib.hid (HP.out.fr hf (by simp)));(try have HWR:=Lib.hid (wrow_keep HWR.out hf));(try have HBR:=Lib.hid (bools_keep HBR.out hf));have hzz:=hf.size;have HBR:=Lib.hid hbr;have HSX:=Lib.hid (hSx.then_ hf);clear hbr;go_simp)
   refine hK.out _ _ (.inr ?_) (fun hT3=> ?_)
   ·first |exact HSX.out |exact hSx.alloc _ |exact hSx
   clear hK K
   try simp only [Act.put,q5,q6,q7]
   refine R2 1 (by kernel_rfl) (by rfl) hT3 fun K hK hSx=> ?_
   (go_simp;refine (KH.out _).mono ?_;rintro e w5 ⟨hL,rfl,ht,hm,hn,hf⟩;(try have HT:=Lib.hid (HT.out.fr hf (by simp)));(try have HP:=Lib.hid (HP.out.fr hf (by simp)));(try have HWR:=Lib.hid (wrow_keep HWR.out hf));(try have HBR:=Lib.hid (bools_keep HBR.out hf));have hzz:=hf.size;have HSX:=Lib.hid (hSx.then_ hf);have HPL:=Lib.hid (show ∀k,k∈hL.fp→_∧k<w5.heap.size from fun k hk=>⟨hn k hk,ht.lt k hk⟩);have HP:=Lib.hid ht;have HPM:=Lib.hid hm;clear ht hn hm;dsimp only)
   refine hK.out _ _ (.inr ?_) (fun hT4=> ?_)
   ·first |exact HSX.out |exact hSx.alloc _ |exact hSx
   clear hK K
   try simp only [Act.put,q5,q6,q7]
   apply TB 1 [(4,[])];kernel_rfl;rfl;· (repeat (apply TBc;rfl;rfl;(· intro w hSw;go_simp<;>with_reducible rfl);try simp only [Act.put,q5,q6,q7]));exact TBn
   exact hT4;intro hT4
   refine R2 5 (by kernel_rfl) (by rfl) hT4 fun K hK hSx=> ?_
   (go_simp)
   refine hK.out _ _ (.inl rfl) (fun hT6=> ?_)
   clear hK K
   try simp only [Act.put,q5,q6,q7]
   refine R1 (i:=6) (o:= ?or1u46) (by kernel_rfl) (by rfl) ?_
   intro K hK
   go_simp
   refine hK.out _ _ (.inl rfl) (fun hT7=> ?_)
   clear hK K
   try simp only [Act.put,q5,q6,q7]
   refine wpAnyC_done (by kernel_rfl) ?_ _
   refine NoPanic.normal ?_
   have hsx:=HSX.out.size
   obtain ⟨L9,hLa,hL9,hLn,hF9⟩:=SvAt.make HT.out HP.out HPM.out HWR.out HBR.out w.heap.size hsx (by refine ⟨?_,?_,?_,?_,?_,?_,?_,?_,?_,?_⟩<;>((try intro a1);(try intro a2);(try intro a3);(try have b1:=HTL.out _ a1);(try have b2:=HTL.out _ a2);(try have b3:=HPL.out _ a1);(try have b4:=HPL.out _ a2);(try have b5:=HPL.out _ a3);(try simp only [szal,szdr] at *);omega))
   (try simp only [szal,szdr] at hL9 hLa hF9)
   have KG:=grow_new (w:=w) hL9 hLn (HSX.out.then_ hF9) n hn1
   rw [hLa,←HNW.out] at KG
   have KG:=Lib.hid KG
   clear hL9 hLa hLn hsx hF9 hm2 hm1
   by_cases h0:vars<0
   ·obtain rfl :n=0:=by have :=HNN.out;omega
    go_wp2_with fail
    refine KG.out.mono ?_
    rintro e w8 ⟨rfl,hN⟩
    have FF:=Lib.hid hN
    clear hN KG
    go_wp2_with fail
    go_ret
    exact FF.out
   ·have h0':(0:Int)≤vars:=by omega
    by_cases h1:262143<vars
    ·obtain rfl :n=262143:=by have :=HNN.out;omega
     go_wp2_with fail
     refine KG.out.mono ?_
     rintro e w8 ⟨rfl,hN⟩
     have FF:=Lib.hid hN
     clear hN KG
     go_wp2_with fail
     go_ret
     exact FF.out
    ·obtain rfl :vars=(n:Int):=by have :=HNN.out;omega
     have h1':(n:Int)≤262143:=by omega
     go_wp2_with fail
     refine KG.out.mono ?_
     rintro e w8 ⟨rfl,hN⟩
     have FF:=Lib.hid hN
     clear hN KG
     go_wp2_with fail
     go_ret
     exact FF.out
  refine ReadyC.cons (o:= ?or1u47) ?hor1u47 ?hstepr1u47 ReadyC.nil
  case hor1u47=>rfl
  intro K hK
  (obtain ⟨hbr,hf⟩:=mk1 hSx;(try have HT:=Lib.hid (HT.out.fr hf (by simp)));(try have HP:=Lib.hid (HP.out.fr hf (by simp)));(try have HWR:=Lib.hid (wrow_keep HWR.out hf));(try have HBR:=Lib.hid (bools_keep HBR.out hf));have hzz:=hf.size;have HBR:=Lib.hid hbr;have HSX:=Lib.hid (hSx.then_ hf);clear hbr;go_simp)
  refine hK.out _ _ (.inr ?_) (fun hT2=> ?_)
  ·first |exact HSX.out |exact hSx.alloc _ |exact hSx
  clear hK K
  try simp only [Act.put,q5,q6,q7]
  refine R2 0 (by kernel_rfl) (by rfl) hT2 fun K hK hSx=> ?_
  (go_simp;refine (KT.out _).mono ?_;rintro e w5 ⟨tL,rfl,ht,hn,hf⟩;(try have HT:=Lib.hid (HT.out.fr hf (by simp)));(try have HP:=Lib.hid (HP.out.fr hf (by simp)));(try have HWR:=Lib.hid (wrow_keep HWR.out hf));(try have HBR:=Lib.hid (bools_keep HBR.out hf));have hzz:=hf.size;have HSX:=Lib.hid (hSx.then_ hf);have HTL:=Lib.hid (show ∀k,k∈tL.fp→_∧k<w5.heap.size from fun k hk=>⟨hn k hk,ht.lt k hk⟩);have HT:=Lib.hid ht;clear ht hn;dsimp only)
  refine hK.out _ _ (.inr ?_) (fun hT3=> ?_)
  ·first |exact HSX.out |exact hSx.alloc _ |exact hSx
  clear hK K
  try simp only [Act.put,q5,q6,q7]
  refine R2 1 (by kernel_rfl) (by rfl) hT3 fun K hK hSx=> ?_
  (go_simp;refine (KH.out _).mono ?_;rintro e w5 ⟨hL,rfl,ht,hm,hn,hf⟩;(try have HT:=Lib.hid (HT.out.fr hf (by simp)));(try have HP:=Lib.hid (HP.out.fr hf (by simp)));(try have HWR:=Lib.hid (wrow_keep HWR.out hf));(try have HBR:=Lib.hid (bools_keep HBR.out hf));have hzz:=hf.size;have HSX:=Lib.hid (hSx.then_ hf);have HPL:=Lib.hid (show ∀k,k∈hL.fp→_∧k<w5.heap.size from fun k hk=>⟨hn k hk,ht.lt k hk⟩);have HP:=Lib.hid ht;have HPM:=Lib.hid hm;clear ht hn hm;dsimp only)
  refine hK.out _ _ (.inr ?_) (fun hT4=> ?_)
  ·first |exact HSX.out |exact hSx.alloc _ |exact hSx
  clear hK K
  try simp only [Act.put,q5,q6,q7]
  apply TB 1 [(4,[])];kernel_rfl;rfl;· (repeat (apply TBc;rfl;rfl;(· intro w hSw;go_simp<;>with_reducible rfl);try simp only [Act.put,q5,q6,q7]));exact TBn
  exact hT4;intro hT4
  refine R2 5 (by kernel_rfl) (by rfl) hT4 fun K hK hSx=> ?_
  (go_simp)
  refine hK.out _ _ (.inl rfl) (fun hT6=> ?_)
  clear hK K
  try simp only [Act.put,q5,q6,q7]
  refine R1 (i:=6) (o:= ?or1u52) (by kernel_rfl) (by rfl) ?_
  intro K hK
  go_simp
  refine hK.out _ _ (.inl rfl) (fun hT7=> ?_)
  clear hK K
  try simp only [Act.put,q5,q6,q7]
  refine wpAnyC_done (by kernel_rfl) ?_ _
  refine NoPanic.normal ?_
  have hsx:=HSX.out.size
  obtain ⟨L9,hLa,hL9,hLn,hF9⟩:=SvAt.make HT.out HP.out HPM.out HWR.out HBR.out w.heap.size hsx (by refine ⟨?_,?_,?_,?_,?_,?_,?_,?_,?_,?_⟩<;>((try intro a1);(try intro a2);(try intro a3);(try have b1:=HTL.out _ a1);(try have b2:=HTL.out _ a2);(try have b3:=HPL.out _ a1);(try have b4:=HPL.out _ a2);(try have b5:=HPL.out _ a3);(try simp only [szal,szdr] at *);omega))
  (try simp only [szal,szdr] at hL9 hLa hF9)
  have KG:=grow_new (w:=w) hL9 hLn (HSX.out.then_ hF9) n hn1
  rw [hLa,←HNW.out] at KG
  have KG:=Lib.hid KG
  clear hL9 hLa hLn hsx hF9 hm2 hm1
  by_cases h0:vars<0
  ·obtain rfl :n=0:=by have :=HNN.out;omega
   go_wp2_with fail
   refine KG.out.mono ?_
   rintro e w8 ⟨rfl,hN⟩
   have FF:=Lib.hid hN
   clear hN KG
   go_wp2_with fail
   go_ret
   exact FF.out
  ·have h0':(0:Int)≤vars:=by omega
   by_cases h1:262143<vars
   ·obtain rfl :n=262143:=by have :=HNN.out;omega
    go_wp2_with fail
    refine KG.out.mono ?_
    rintro e w8 ⟨rfl,hN⟩
    have FF:=Lib.hid hN
    clear hN KG
    go_wp2_with fail
    go_ret
    exact FF.out
   ·obtain rfl :vars=(n:Int):=by have :=HNN.out;omega
    have h1':(n:Int)≤262143:=by omega
    go_wp2_with fail
    refine KG.out.mono ?_
    rintro e w8 ⟨rfl,hN⟩
    have FF:=Lib.hid hN
    clear hN KG
    go_wp2_with fail
    go_ret
    exact FF.out
 refine ReadyC.cons (o:= ?or1u53) ?hor1u53 ?hstepr1u53 ReadyC.nil
 case hor1u53=>rfl
 intro K hK
 (obtain ⟨hbr,hf⟩:=mk1 hSx;(try have HT:=Lib.hid (HT.out.fr hf (by simp)));(try have HP:=Lib.hid (HP.out.fr hf (by simp)));(try have HWR:=Lib.hid (wrow_keep HWR.out hf));(try have HBR:=Lib.hid (bools_keep HBR.out hf));have hzz:=hf.size;have HBR:=Lib.hid hbr;have HSX:=Lib.hid (hSx.then_ hf);clear hbr;go_simp)
 refine hK.out _ _ (.inr ?_) (fun hT1=> ?_)
 ·first |exact HSX.out |exact hSx.alloc _ |exact hSx
 clear hK K
 try simp only [Act.put,q5,q6,q7]
 have hSx:=hT1.resolve_left (by decide)
 refine wpAnyC_ready (rs:=[0,2]) (by kernel_rfl) (by simp) ?_
 refine ReadyC.cons (o:= ?or1u54) ?hor1u54 ?hstepr1u54 ?_
 case hor1u54=>rfl
 case hstepr1u54=>
  intro K hK
  (go_simp;refine (KT.out _).mono ?_;rintro e w5 ⟨tL,rfl,ht,hn,hf⟩;(try have HT:=Lib.hid (HT.out.fr hf (by simp)));(try have HP:=Lib.hid (HP.out.fr hf (by simp)));(try have HWR:=Lib.hid (wrow_keep HWR.out hf));(try have HBR:=Lib.hid (bools_keep HBR.out hf));have hzz:=hf.size;have HSX:=Lib.hid (hSx.then_ hf);have HTL:=Lib.hid (show ∀k,k∈tL.fp→_∧k<w5.heap.size from fun k hk=>⟨hn k hk,ht.lt k hk⟩);have HT:=Lib.hid ht;clear ht hn;dsimp only)
  refine hK.out _ _ (.inr ?_) (fun hT2=> ?_)
  ·first |exact HSX.out |exact hSx.alloc _ |exact hSx
  clear hK K
  try simp only [Act.put,q5,q6,q7]
  have hSx:=hT2.resolve_left (by decide)
  refine wpAnyC_ready (rs:=[1,2]) (by kernel_rfl) (by simp) ?_
  refine ReadyC.cons (o:= ?or1u55) ?hor1u55 ?hstepr1u55 ?_
  case hor1u55=>rfl
  case hstepr1u55=>
   intro K hK
   (go_simp;refine (KH.out _).mono ?_;rintro e w5 ⟨hL,rfl,ht,hm,hn,hf⟩;(try have HT:=Lib.hid (HT.out.fr hf (by simp)));(try have HP:=Lib.hid (HP.out.fr hf (by simp)));(try have HWR:=Lib.hid (wrow_keep HWR.out hf));(try have HBR:=Lib.hid (bools_keep HBR.out hf));have hzz:=hf.size;have HSX:=Lib.hid (hSx.then_ hf);have HPL:=Lib.hid (show ∀k,k∈hL.fp→_∧k<w5.heap.size from fun k hk=>⟨hn k hk,ht.lt k hk⟩);have HP:=Lib.hid ht;have HPM:=Lib.hid hm;clear ht hn hm;dsimp only)
   refine hK.out _ _ (.inr ?_) (fun hT3=> ?_)
   ·first |exact HSX.out |exact hSx.alloc _ |exact hSx
   clear hK K
   try simp only [Act.put,q5,q6,q7]
   refine R2 2 (by kernel_rfl) (by rfl) hT3 fun K hK hSx=> ?_
   (obtain ⟨hwr,hf⟩:=mk2 hSx;(try have HT:=Lib.hid (HT.out.fr hf (by simp)));(try have HP:=Lib.hid (HP.out.fr hf (by simp)));(try have HWR:=Lib.hid (wrow_keep HWR.out hf));(try have HBR:=Lib.hid (bools_keep HBR.out hf));have hzz:=hf.size;have HWR:=Lib.hid hwr;have HSX:=Lib.hid (hSx.then_ hf);clear hwr;go_simp)
   refine hK.out _ _ (.inr ?_) (fun hT4=> ?_)
   ·first |exact HSX.out |exact hSx.alloc _ |exact hSx
   clear hK K
   try simp only [Act.put,q5,q6,q7]
   apply TB 1 [(4,[])];kernel_rfl;rfl;· (repeat (apply TBc;rfl;rfl;(· intro w hSw;go_simp<;>with_reducible rfl);try simp only [Act.put,q5,q6,q7]));exact TBn
   exact hT4;intro hT4
   refine R2 5 (by kernel_rfl) (by rfl) hT4 fun K hK hSx=> ?_
   (go_simp)
   refine hK.out _ _ (.inl rfl) (fun hT6=> ?_)
   clear hK K
   try simp only [Act.put,q5,q6,q7]
   refine R1 (i:=6) (o:= ?or1u59) (by kernel_rfl) (by rfl) ?_
   intro K hK
   go_simp
   refine hK.out _ _ (.inl rfl) (fun hT7=> ?_)
   clear hK K
   try simp only [Act.put,q5,q6,q7]
   refine wpAnyC_done (by kernel_rfl) ?_ _
   refine NoPanic.normal ?_
   have hsx:=HSX.out.size
   obtain ⟨L9,hLa,hL9,hLn,hF9⟩:=SvAt.make HT.out HP.out HPM.out HWR.out HBR.out w.heap.size hsx (by refine ⟨?_,?_,?_,?_,?_,?_,?_,?_,?_,?_⟩<;>((try intro a1);(try intro a2);(try intro a3);(try have b1:=HTL.out _ a1);(try have b2:=HTL.out _ a2);(try have b3:=HPL.out _ a1);(try have b4:=HPL.out _ a2);(try have b5:=HPL.out _ a3);(try simp only [szal,szdr] at *);omega))
   (try simp only [szal,szdr] at hL9 hLa hF9)
   have KG:=grow_new (w:=w) hL9 hLn (HSX.out.then_ hF9) n hn1
   rw [hLa,←HNW.out] at KG
   have KG:=Lib.hid KG
   clear hL9 hLa hLn hsx hF9 hm2 hm1
   by_cases h0:vars<0
   ·obtain rfl :n=0:=by have :=HNN.out;omega
    go_wp2_with fail
    refine KG.out.mono ?_
    rintro e w8 ⟨rfl,hN⟩
    have FF:=Lib.hid hN
    clear hN KG
    go_wp2_with fail
    go_ret
    exact FF.out
   ·have h0':(0:Int)≤vars:=by omega
    by_cases h1:262143<vars
    ·obtain rfl :n=262143:=by have :=HNN.out;omega
     go_wp2_with fail
     refine KG.out.mono ?_
     rintro e w8 ⟨rfl,hN⟩
     have FF:=Lib.hid hN
     clear hN KG
     go_wp2_with fail
     go_ret
     exact FF.out
    ·obtain rfl :vars=(n:Int):=by have :=HNN.out;omega
     have h1':(n:Int)≤262143:=by omega
     go_wp2_with fail
     refine KG.out.mono ?_
     rintro e w8 ⟨rfl,hN⟩
     have FF:=Lib.hid hN
     clear hN KG
     go_wp2_with fail
     go_ret
     exact FF.out
  refine ReadyC.cons (o:= ?or1u60) ?hor1u60 ?hstepr1u60 ReadyC.nil
  case hor1u60=>rfl
  intro K hK
  (obtain ⟨hwr,hf⟩:=mk2 hSx;(try have HT:=Lib.hid (HT.out.fr hf (by simp)));(try have HP:=Lib.hid (HP.out.fr hf (by simp)));(try have HWR:=Lib.hid (wrow_keep HWR.out hf));(try have HBR:=Lib.hid (bools_keep HBR.out hf));have hzz:=hf.size;have HWR:=Lib.hid hwr;have HSX:=Lib.hid (hSx.then_ hf);clear hwr;go_simp)
  refine hK.out _ _ (.inr ?_) (fun hT3=> ?_)
  ·first |exact HSX.out |exact hSx.alloc _ |exact hSx
  clear hK K
  try simp only [Act.put,q5,q6,q7]
  refine R2 1 (by kernel_rfl) (by rfl) hT3 fun K hK hSx=> ?_
  (go_simp;refine (KH.out _).mono ?_;rintro e w5 ⟨hL,rfl,ht,hm,hn,hf⟩;(try have HT:=Lib.hid (HT.out.fr hf (by simp)));(try have HP:=Lib.hid (HP.out.fr hf (by simp)));(try have HWR:=Lib.hid (wrow_keep HWR.out hf));(try have HBR:=Lib.hid (bools_keep HBR.out hf));have hzz:=hf.size;have HSX:=Lib.hid (hSx.then_ hf);have HPL:=Lib.hid (show ∀k,k∈hL.fp→_∧k<w5.heap.size from fun k hk=>⟨hn k hk,ht.lt k hk⟩);have HP:=Lib.hid ht;have HPM:=Lib.hid hm;clear ht hn hm;dsimp only)
  refine hK.out _ _ (.inr ?_) (fun hT4=> ?_)
  ·first |exact HSX.out |exact hSx.alloc _ |exact hSx
  clear hK K
  try simp only [Act.put,q5,q6,q7]
  apply TB 1 [(4,[])];kernel_rfl;rfl;· (repeat (apply TBc;rfl;rfl;(· intro w hSw;go_simp<;>with_reducible rfl);try simp only [Act.put,q5,q6,q7]));exact TBn
  exact hT4;intro hT4
  refine R2 5 (by kernel_rfl) (by rfl) hT4 fun K hK hSx=> ?_
  (go_simp)
  refine hK.out _ _ (.inl rfl) (fun hT6=> ?_)
  clear hK K
  try simp only [Act.put,q5,q6,q7]
  refine R1 (i:=6) (o:= ?or1u64) (by kernel_rfl) (by rfl) ?_
  intro K hK
  go_simp
  refine hK.out _ _ (.inl rfl) (fun hT7=> ?_)
  clear hK K
  try simp only [Act.put,q5,q6,q7]
  refine wpAnyC_done (by kernel_rfl) ?_ _
  refine NoPanic.normal ?_
  have hsx:=HSX.out.size
  obtain ⟨L9,hLa,hL9,hLn,hF9⟩:=SvAt.make HT.out HP.out HPM.out HWR.out HBR.out w.heap.size hsx (by refine ⟨?_,?_,?_,?_,?_,?_,?_,?_,?_,?_⟩<;>((try intro a1);(try intro a2);(try intro a3);(try have b1:=HTL.out _ a1);(try have b2:=HTL.out _ a2);(try have b3:=HPL.out _ a1);(try have b4:=HPL.out _ a2);(try have b5:=HPL.out _ a3);(try simp only [szal,szdr] at *);omega))
  (try simp only [szal,szdr] at hL9 hLa hF9)
  have KG:=grow_new (w:=w) hL9 hLn (HSX.out.then_ hF9) n hn1
  rw [hLa,←HNW.out] at KG
  have KG:=Lib.hid KG
  clear hL9 hLa hLn hsx hF9 hm2 hm1
  by_cases h0:vars<0
  ·obtain rfl :n=0:=by have :=HNN.out;omega
   go_wp2_with fail
   refine KG.out.mono ?_
   rintro e w8 ⟨rfl,hN⟩
   have FF:=Lib.hid hN
   clear hN KG
   go_wp2_with fail
   go_ret
   exact FF.out
  ·have h0':(0:Int)≤vars:=by omega
   by_cases h1:262143<vars
   ·obtain rfl :n=262143:=by have :=HNN.out;omega
    go_wp2_with fail
    refine KG.out.mono ?_
    rintro e w8 ⟨rfl,hN⟩
    have FF:=Lib.hid hN
    clear hN KG
    go_wp2_with fail
    go_ret
    exact FF.out
   ·obtain rfl :vars=(n:Int):=by have :=HNN.out;omega
    have h1':(n:Int)≤262143:=by omega
    go_wp2_with fail
    refine KG.out.mono ?_
    rintro e w8 ⟨rfl,hN⟩
    have FF:=Lib.hid hN
    clear hN KG
    go_wp2_with fail
    go_ret
    exact FF.out
 refine ReadyC.cons (o:= ?or1u65) ?hor1u65 ?hstepr1u65 ReadyC.nil
 case hor1u65=>rfl
 intro K hK
 (obtain ⟨hwr,hf⟩:=mk2 hSx;(try have HT:=Lib.hid (HT.out.fr hf (by simp)));(try have HP:=Lib.hid (HP.out.fr hf (by simp)));(try have HWR:=Lib.hid (wrow_keep HWR.out hf));(try have HBR:=Lib.hid (bools_keep HBR.out hf));have hzz:=hf.size;have HWR:=Lib.hid hwr;have HSX:=Lib.hid (hSx.then_ hf);clear hwr;go_simp)
 refine hK.out _ _ (.inr ?_) (fun hT2=> ?_)
 ·first |exact HSX.out |exact hSx.alloc _ |exact hSx
 clear hK K
 try simp only [Act.put,q5,q6,q7]
 refine R2 0 (by kernel_rfl) (by rfl) hT2 fun K hK hSx=> ?_
 (go_simp;refine (KT.out _).mono ?_;rintro e w5 ⟨tL,rfl,ht,hn,hf⟩;(try have HT:=Lib.hid (HT.out.fr hf (by simp)));(try have HP:=Lib.hid (HP.out.fr hf (by simp)));(try have HWR:=Lib.hid (wrow_keep HWR.out hf));(try have HBR:=Lib.hid (bools_keep HBR.out hf));have hzz:=hf.size;have HSX:=Lib.hid (hSx.then_ hf);have HTL:=Lib.hid (show ∀k,k∈tL.fp→_∧k<w5.heap.size from fun k hk=>⟨hn k hk,ht.lt k hk⟩);have HT:=Lib.hid ht;clear ht hn;dsimp only)
 refine hK.out _ _ (.inr ?_) (fun hT3=> ?_)
 ·first |exact HSX.out |exact hSx.alloc _ |exact hSx
 clear hK K
 try simp only [Act.put,q5,q6,q7]
 refine R2 1 (by kernel_rfl) (by rfl) hT3 fun K hK hSx=> ?_
 (go_simp;refine (KH.out _).mono ?_;rintro e w5 ⟨hL,rfl,ht,hm,hn,hf⟩;(try have HT:=Lib.hid (HT.out.fr hf (by simp)));(try have HP:=Lib.hid (HP.out.fr hf (by simp)));(try have HWR:=Lib.hid (wrow_keep HWR.out hf));(try have HBR:=Lib.hid (bools_keep HBR.out hf));have hzz:=hf.size;have HSX:=Lib.hid (hSx.then_ hf);have HPL:=Lib.hid (show ∀k,k∈hL.fp→_∧k<w5.heap.size from fun k hk=>⟨hn k hk,ht.lt k hk⟩);have HP:=Lib.hid ht;have HPM:=Lib.hid hm;clear ht hn hm;dsimp only)
 refine hK.out _ _ (.inr ?_) (fun hT4=> ?_)
 ·first |exact HSX.out |exact hSx.alloc _ |exact hSx
 clear hK K
 try simp only [Act.put,q5,q6,q7]
 apply TB 1 [(4,[])];kernel_rfl;rfl;· (repeat (apply TBc;rfl;rfl;(· intro w hSw;go_simp<;>with_reducible rfl);try simp only [Act.put,q5,q6,q7]));exact TBn
 exact hT4;intro hT4
 refine R2 5 (by kernel_rfl) (by rfl) hT4 fun K hK hSx=> ?_
 (go_simp)
 refine hK.out _ _ (.inl rfl) (fun hT6=> ?_)
 clear hK K
 try simp only [Act.put,q5,q6,q7]
 refine R1 (i:=6) (o:= ?or1u70) (by kernel_rfl) (by rfl) ?_
 intro K hK
 go_simp
 refine hK.out _ _ (.inl rfl) (fun hT7=> ?_)
 clear hK K
 try simp only [Act.put,q5,q6,q7]
 refine wpAnyC_done (by kernel_rfl) ?_ _
 refine NoPanic.normal ?_
 have hsx:=HSX.out.size
 obtain ⟨L9,hLa,hL9,hLn,hF9⟩:=SvAt.make HT.out HP.out HPM.out HWR.out HBR.out w.heap.size hsx (by refine ⟨?_,?_,?_,?_,?_,?_,?_,?_,?_,?_⟩<;>((try intro a1);(try intro a2);(try intro a3);(try have b1:=HTL.out _ a1);(try have b2:=HTL.out _ a2);(try have b3:=HPL.out _ a1);(try have b4:=HPL.out _ a2);(try have b5:=HPL.out _ a3);(try simp only [szal,szdr] at *);omega))
 (try simp only [szal,szdr] at hL9 hLa hF9)
 have KG:=grow_new (w:=w) hL9 hLn (HSX.out.then_ hF9) n hn1
 rw [hLa,←HNW.out] at KG
 have KG:=Lib.hid KG
 clear hL9 hLa hLn hsx hF9 hm2 hm1
 by_cases h0:vars<0
 ·obtain rfl :n=0:=by have :=HNN.out;omega
  go_wp2_with fail
  refine KG.out.mono ?_
  rintro e w8 ⟨rfl,hN⟩
  have FF:=Lib.hid hN
  clear hN KG
  go_wp2_with fail
  go_ret
  exact FF.out
 ·have h0':(0:Int)≤vars:=by omega
  by_cases h1:262143<vars
  ·obtain rfl :n=262143:=by have :=HNN.out;omega
   go_wp2_with fail
   refine KG.out.mono ?_
   rintro e w8 ⟨rfl,hN⟩
   have FF:=Lib.hid hN
   clear hN KG
   go_wp2_with fail
   go_ret
   exact FF.out
  ·obtain rfl :vars=(n:Int):=by have :=HNN.out;omega
   have h1':(n:Int)≤262143:=by omega
   go_wp2_with fail
   refine KG.out.mono ?_
   rintro e w8 ⟨rfl,hN⟩
   have FF:=Lib.hid hN
   clear hN KG
   go_wp2_with fail
   go_ret
   exact FF.out
theorem nan_calls (w:World) (a:Int):Calls Tryz.prog 188 #[.int .i64 a] w fun e w'=>e= .returned (.bool false)∧w=w':=by
 have h:(a !=a)=false:=by simp
 go_enter Tryz.func188,Tryz.ntmps188
 go_wp2_with fail
 go_ret
 exact ⟨by simp,rfl⟩
def cmpI (a b:Int):Int:=if a<b then -1 else if b<a then 1 else 0
theorem compare_calls (w:World) (a b:Int):Calls Tryz.prog 152 #[.int .i64 a, .int .i64 b] w fun e w'=>e= .returned (.int .i64 (cmpI a b))∧w=w':=by
 have KN:=Lib.hid (fun x=>nan_calls w x)
 have hK:Hid (∀s,cmpI a b=s→Ending.returned (.int .i64 s)= .returned (.int .i64 (cmpI a b))):=fun s h=>by rw [h]
 go_enter Tryz.func152,Tryz.ntmps152
 go_wp2_with fail
 refine (KN.out _).mono ?_
 rintro e w1 ⟨rfl,rfl⟩
 go_wp2_with fail
 refine (KN.out _).mono ?_
 rintro e w1 ⟨rfl,rfl⟩
 by_cases h1:a<b
 ·have d1:decide (a<b)=true:=decide_eq_true h1
  have HV:Hid (cmpI a b= -1):=(by rw [cmpI,if_pos h1]:cmpI a b= -1)
  go_wp2_with fail
  go_ret
  exact ⟨hK.out _ HV.out,rfl⟩
 ·have d1:decide (a<b)=false:=decide_eq_false h1
  by_cases h2:b<a
  ·have d2:decide (b<a)=true:=decide_eq_true h2
   have HV:Hid (cmpI a b=1):=(by rw [cmpI,if_neg h1,if_pos h2]:cmpI a b=1)
   go_wp2_with fail
   go_ret
   exact ⟨hK.out _ HV.out,rfl⟩
  ·have d2:decide (b<a)=false:=decide_eq_false h2
   have HV:Hid (cmpI a b=0):=(by rw [cmpI,if_neg h1,if_neg h2]:cmpI a b=0)
   go_wp2_with fail
   go_ret
   exact ⟨hK.out _ HV.out,rfl⟩
def absF (a:Int):Int:=if a<wrap64 (-a) then wrap64 (-a) else a
theorem absF_calls (w:World) (a:Int):Calls Tryz.prog 56 #[.int .i64 a] w fun e w'=>e= .returned (.int .i64 (absF a))∧w=w':=by
 go_enter Tryz.func56,Tryz.ntmps56
 go_wp2_with fail
 all_goals (go_ret;first |exact ⟨by rw [absF,if_pos (by assumption)];rfl,rfl⟩ |exact ⟨by rw [absF,if_neg (by omega)];rfl,rfl⟩)
def orI (a b:Int):Int:=if a=0 then b else a
theorem or_calls (w:World) (g:Nat) (a b:Int) (h0:w.cell? ⟨g,0,none⟩=some (.int .i64 a)) (h1:w.cell? ⟨g,1,none⟩=some (.int .i64 b)):
  Calls Tryz.prog 151 #[.slice (some ⟨g,0,none⟩) 2 2] w fun e w'=>e= .returned (.int .i64 (orI a b))∧w=w':=by
 have hK:Hid (∀s,orI a b=s→Ending.returned (.int .i64 s)= .returned (.int .i64 (orI a b))):=fun s h=>by rw [h]
 have H0:=Lib.hid h0
 have H1:=Lib.hid h1
 clear h0 h1
 go_enter Tryz.func151,Tryz.ntmps151
 go_wp2_with fail
 go_loopg [8] 2 (fun gk i wr=>wr=w∧((gk=2∧i= .int .i64 0)∨(gk=1∧i= .int .i64 1∧a=0)∨(gk=0∧i= .int .i64 2∧a=0∧b=0)))
 case atStart=>exact ⟨rfl, .inl ⟨rfl,rfl⟩⟩
 case round=>
  obtain ⟨rfl,hc⟩:=hrel
  rcases hc with ⟨rfl,rfl⟩ |⟨rfl,rfl,rfl⟩ |⟨rfl,rfl,rfl,rfl⟩
  ·have h0:=H0.out
   by_cases ha:a=0
   ·have hb:(a !=0)=false:=by simp [ha]
    go_wp2_with fail
    go_roundg 1
    case measure=>decide
    case rel=>exact ⟨rfl, .inr (.inl ⟨rfl,rfl,ha⟩)⟩
   ·have hb:(a !=0)=true:=by simp [ha]
    have HV:Hid (orI a b=a):=(by rw [orI,if_neg ha]:orI a b=a)
    go_wp2_with fail
    go_ret
    exact ⟨hK.out _ HV.out,rfl⟩
  ·have h1:=H1.out
   by_cases ha:b=0
   ·have hb:(b !=0)=false:=by simp [ha]
    go_wp2_with fail
    go_roundg 0
    case measure=>decide
    case rel=>exact ⟨rfl, .inr (.inr ⟨by first |rfl |trivial,by first |rfl |trivial,by first |rfl |trivial,ha⟩)⟩
   ·have hb:(b !=0)=true:=by simp [ha]
    have HV:Hid (orI 0 b=b):=(by rw [orI,if_pos rfl]:orI 0 b=b)
    go_wp2_with fail
    go_ret
    exact ⟨hK.out _ HV.out,rfl⟩
  ·go_wp2_with fail
   go_ret
   exact ⟨rfl,rfl⟩
def ordF (a b:Int):Int:=orI (cmpI (absF a) (absF b)) (cmpI a b)
theorem order_calls (w:World) (a b:Int):Calls Tryz.prog 122 #[.int .i64 a, .int .i64 b] w fun e w'=>e= .returned (.int .i64 (ordF a b))∧w'=w.alloc (.cells #[.int .i64 (cmpI (absF a) (absF b)), .int .i64 (cmpI a b)] 3):=by
 have KA:=Lib.hid (fun x=>absF_calls w x)
 have KC:=Lib.hid (fun x y=>compare_calls w x y)
 have hn:=At.new w 3 #[.int .i64 (cmpI (absF a) (absF b)), .int .i64 (cmpI a b)]
 have KO:=Lib.hid (or_calls (w.alloc (.cells #[.int .i64 (cmpI (absF a) (absF b)), .int .i64 (cmpI a b)] 3)) w.heap.size (cmpI (absF a) (absF b)) (cmpI a b) (by rw [hn.cell];rfl) (by rw [hn.cell];rfl))
 have hK:Hid (Ending.returned (.int .i64 (orI (cmpI (absF a) (absF b)) (cmpI a b)))= .returned (.int .i64 (ordF a b))):=rfl
 clear hn
 go_enter Tryz.func122,Tryz.ntmps122
 go_wp2_with fail
 refine (KA.out _).mono ?_
 rintro e w1 ⟨rfl,rfl⟩
 go_wp2_with fail
 refine (KA.out _).mono ?_
 rintro e w1 ⟨rfl,rfl⟩
 go_wp2_with fail
 refine (KC.out _ _).mono ?_
 rintro e w1 ⟨rfl,rfl⟩
 go_wp2_with fail
 refine (KC.out _ _).mono ?_
 rintro e w1 ⟨rfl,rfl⟩
 go_wp2_with fail
 refine KO.out.mono ?_
 rintro e w1 ⟨rfl,rfl⟩
 go_wp2_with fail
 go_ret
 exact ⟨hK.out,rfl⟩
namespace Sv
def R (S:Sv):List St:=S.T.lits.map fun x=>(⟨x,S.T.levB (tv x),S.T.reaB (tv x)⟩:St)
end Sv
namespace Sv
def Rsn (S:Sv):Prop:=∀A e B,S.R=A++e::B→e.r≠0→∃n:Nat,e.r=(n:Int)+1∧∃ls,(S.rc n).lits=e.x::ls∧∀y∈ls,∃e'∈A,e'.x= -y
def Dec (S:Sv):Prop:=∀A e B,S.R=A++e::B→e.r=0→e.l=0∨∀e'∈A,e'.l<e.l
def Hd (S:Sv):Prop:=∀e∈S.R.drop S.head,e.l=S.T.levels.length
end Sv
namespace Sv
structure WI (S:Sv) (V:Nat→List Nat):Prop where
 nd:∀c,(V c).Nodup
 wd:∀c n,n∈V c→(S.rc n).lits≠[]→lcode (S.rc n).lits[0]! =c∨lcode (S.rc n).lits[1]! =c
 wc:∀n,(S.rc n).lits≠[]→n∈V (lcode (S.rc n).lits[0]!)∧n∈V (lcode (S.rc n).lits[1]!)
def WT1 (S:Sv) (D:List St) (n:Nat):Prop:=(S.rc n).lits≠[]→∀e∈D,
 (e.x= -(S.rc n).lits[0]! →∃e'∈S.R,e'.x=(S.rc n).lits[1]! ∧e'.l≤e.l)∧(e.x= -(S.rc n).lits[1]! →∃e'∈S.R,e'.x=(S.rc n).lits[0]! ∧e'.l≤e.l)
structure Inv (S:Sv):Prop where
 ok:S.Ok 0
 dist:∀n,((S.rc n).lits.map tv).Nodup
 rsn:S.Rsn
 dec:S.Dec
 hd:S.Hd
 wi:S.WI S.wat
 wt:∀n,S.WT1 (S.R.take S.head) n
end Sv
theorem tv_in {x:Int} {v:Nat} (h0:x≠0) (h1: -(v:Int)≤x) (h2:x≤v) (hv:v≤262143):1≤tv x∧tv x≤v:=by
 unfold tv
 split
 ·omega
 ·split<;>omega
namespace Sv
end Sv
def litT (b l:Int):Int:=if l%2=1 then -(b+l/2+1) else b+l/2+1
theorem ofT_calls (w:World) (b v:Int) (hb:0≤b∧b≤1000000) (hv:0≤v∧v≤1000000):
  Calls Tryz.prog 111 #[.int .i64 b, .int .i64 v] w fun e w'=>e= .returned (.int .i64 (b+v+1))∧w=w':=by
 have h1:IntKind.i64.wrap (b+v)=b+v:=IntWalk.i64_in _ (by omega)
 have h2:IntKind.i64.wrap (b+v+1)=b+v+1:=IntWalk.i64_in _ (by omega)
 go_enter Tryz.func111,Tryz.ntmps111
 go_wp2_with fail
 go_ret
 exact ⟨rfl,rfl⟩
theorem litT_calls (w:World) (b l:Int) (hb:0≤b∧b≤1000000) (hl:0≤l∧l≤1000000):
  Calls Tryz.prog 76 #[.int .i64 b, .int .i64 l] w fun e w'=>e= .returned (.int .i64 (litT b l))∧w=w':=by
 have KN:=Lib.hid (lneg_nn w l hl.1 (by omega))
 have KV:=Lib.hid (lvar_nn w l hl.1 (by omega))
 have KO:=Lib.hid (ofT_calls w b (l/2) hb (by omega))
 by_cases h1:l%2=1
 ·have d1:(l%2==1)=true:=by rw [h1];rfl
  have HT:Hid (litT b l= -(b+l/2+1)):=if_pos h1
  rw [HT.out]
  have hw:IntKind.i64.wrap (-(b+l/2+1))= -(b+l/2+1):=IntWalk.i64_in _ (by omega)
  clear h1
  go_enter Tryz.func76,Tryz.ntmps76
  go_wp2_with fail
  refine KN.out.mono ?_
  rintro e w1 ⟨rfl,rfl⟩
  go_wp2_with fail
  refine KV.out.mono ?_
  rintro e w1 ⟨rfl,rfl⟩
  go_wp2_with fail
  refine KO.out.mono ?_
  rintro e w1 ⟨rfl,rfl⟩
  go_wp2_with fail
  go_ret
  exact ⟨rfl,rfl⟩
 ·have d1:(l%2==1)=false:=by rw [beq_eq_false_iff_ne];exact h1
  have HT:Hid (litT b l=b+l/2+1):=if_neg h1
  rw [HT.out]
  clear h1
  go_enter Tryz.func76,Tryz.ntmps76
  go_wp2_with fail
  refine KN.out.mono ?_
  rintro e w1 ⟨rfl,rfl⟩
  go_wp2_with fail
  refine KV.out.mono ?_
  rintro e w1 ⟨rfl,rfl⟩
  go_wp2_with fail
  refine KO.out.mono ?_
  rintro e w1 ⟨rfl,rfl⟩
  go_wp2_with fail
  go_ret
  exact ⟨rfl,rfl⟩
theorem atT_calls (w:World) (b:Int) (hb:0≤b∧b≤262144):
  Calls Tryz.prog 75 #[.int .i64 b] w fun e w'=>e= .returned (.int .i64 b)∧w=w':=by
 have h1:decide (b<0)=false:=decide_eq_false (by omega)
 have h2:decide (262144<b)=false:=decide_eq_false (by omega)
 go_enter Tryz.func75,Tryz.ntmps75
 go_wp2_with fail
 go_ret
 exact ⟨rfl,rfl⟩
theorem lit_calls (w:World) (b l:Int) (hb:0≤b∧b≤262144) (hl:0≤l∧l≤4097):
  Calls Tryz.prog 37 #[.int .i64 b, .int .i64 l] w fun e w'=>e= .returned (.int .i64 (litT b l))∧w=w':=by
 have KA:=Lib.hid (atT_calls w b hb)
 have KL:=Lib.hid (litT_calls w b l (by omega) (by omega))
 have hm:min l 4097=l:=by omega
 go_enter Tryz.func37,Tryz.ntmps37
 go_wp2_with fail
 refine KA.out.mono ?_
 rintro e w1 ⟨rfl,rfl⟩
 go_wp2_with fail
 refine KL.out.mono ?_
 rintro e w1 ⟨rfl,rfl⟩
 go_wp2_with fail
 go_ret
 exact ⟨rfl,rfl⟩
theorem valid_own {C:Pc} (h:Valid C):∀x∈ownL C,2≤x∧x≤2*C.mx∧x%2=0:=by
 intro x hx
 obtain ⟨j,hj,hg⟩:=List.getElem_of_mem hx
 have :=h.own j hj
 simp only [ownB,Bool.and_eq_true,decide_eq_true_eq] at this
 rw [List.getElem!_eq_getElem?_getD,List.getElem?_eq_getElem hj,Option.getD_some,hg] at this
 exact ⟨this.1.1.1,this.1.2,this.1.1.2⟩
theorem valid_lat {C:Pc} (h:Valid C) (j:Nat) (hj:j<C.lat.length):2≤(C.lat[j]!).a∧(C.lat[j]!).a≤2*C.mx∧(C.lat[j]!).a%2=0:=by
 refine valid_own h _ ?_
 rw [List.getElem!_eq_getElem?_getD,List.getElem?_eq_getElem hj]
 simp only [ownL,List.mem_append,List.mem_map,Option.getD_some]
 exact .inl (.inr ⟨_,List.getElem_mem hj,rfl⟩)
def baU (C:Pc) (f:Int):Int:=f*(C.mx+1)
theorem baU_rng {C:Pc} (h0:0≤C.mx) (h1:C.mx≤2048) {f:Int} (hf:0≤f∧f≤81):0≤baU C f∧baU C f≤165969:=by
 unfold baU
 have h2:f*(C.mx+1)≤81*2049:=by
  have h3:f*(C.mx+1)≤81*(C.mx+1):=Int.mul_le_mul_of_nonneg_right hf.2 (by omega)
  omega
 exact ⟨Int.mul_nonneg hf.1 (by omega),by omega⟩
theorem ubase_calls (w:World) (H:Hd) (C:Pc) (h0:0≤C.mx) (h1:C.mx≤2048) (f:Int) (hf:0≤f∧f≤81):
  Calls Tryz.prog 68 #[cval H C, .int .i64 f] w fun e w'=>e= .returned (.int .i64 (baU C f))∧Fr [] w w':=by
 have HX:=Lib.hid (Cx.start w H C)
 have hb:=baU_rng h0 h1 hf
 have hw1:IntKind.i64.wrap (C.mx+1)=C.mx+1:=IntWalk.i64_in _ (by omega)
 have hw2:IntKind.i64.wrap (f*(C.mx+1))=f*(C.mx+1):=IntWalk.i64_in _ (by unfold baU at hb;omega)
 have HB:Hid (baU C f=f*(C.mx+1)):=(rfl :baU C f=f*(C.mx+1))
 rw [HB.out]
 clear hb HB
 obtain ⟨mx,ins,lat,outs,bads,invs,ands,nms⟩:=C
 obtain ⟨iA,iC,lA,lC,oA,oC,bA,bC,vA,vC,gA,gC,nA,nC⟩:=H
 simp only [cval,cvs] at *
 obtain ⟨c0,c1,c2,c3,c4,c5,c6,c7⟩:=HX.out.cells
 simp only at c0 c1 c2 c3 c4 c5 c6 c7
 go_enter Tryz.func68,Tryz.ntmps68
 go_wp2_with fail
 go_ret
 exact ⟨rfl,HX.out.fr⟩
theorem uright_calls (w:World) (H:Hd) (C:Pc) (h:CiAt w H C) (hv:Valid C) (f:Int) (hf:0≤f∧f≤80):
  Calls Tryz.prog 66 #[cval H C, .int .i64 f] w fun e w'=>e= .returned (.bool true)∧Fr [] w w':=by
 have HX:=Lib.hid (Cx.start w H C)
 have KC:Hid (Calls Tryz.prog 23 #[cval H C] (w.alloc (.cells (cvs H C) 27)) fun e w'=>e= .returned (.int .i64 0)∧Fr [] (w.alloc (.cells (cvs H C) 27)) w'):=(check_calls _ H C (h.keep HX.out.fr)).mono fun e w' ⟨h1,h2⟩=>by
  rcases h1 with ⟨h3,_⟩ |⟨_,h3⟩
  ·exact ⟨h3,h2⟩
  ·exact absurd hv h3
 have d0:decide (0≤f)=true:=decide_eq_true hf.1
 have d1:decide (f≤80)=true:=decide_eq_true hf.2
 clear h hv
 obtain ⟨mx,ins,lat,outs,bads,invs,ands,nms⟩:=C
 obtain ⟨iA,iC,lA,lC,oA,oC,bA,bC,vA,vC,gA,gC,nA,nC⟩:=H
 simp only [cval,cvs] at *
 obtain ⟨c0,c1,c2,c3,c4,c5,c6,c7⟩:=HX.out.cells
 simp only at c0 c1 c2 c3 c4 c5 c6 c7
 go_enter Tryz.func66,Tryz.ntmps66
 go_wp2_with fail
 refine KC.out.mono ?_
 rintro e w1 ⟨rfl,hf1⟩
 have HF:=Lib.hid (HX.out.fr.then_ hf1)
 clear hf1
 go_wp2_with fail
 go_ret
 exact ⟨rfl,HF.out⟩
theorem uBase_calls (w:World) (H:Hd) (C:Pc) (h:CiAt w H C) (hv:Valid C) (f:Int) (hf:0≤f∧f≤80):
  Calls Tryz.prog 80 #[cval H C, .int .i64 f] w fun e w'=>e= .returned (.int .i64 (baU C f))∧Fr [] w w':=by
 have HX:=Lib.hid (Cx.start w H C)
 have KR:=Lib.hid (uright_calls _ H C (h.keep HX.out.fr) hv f hf)
 have KB:=Lib.hid (fun W=>ubase_calls W H C hv.m0 hv.m1 f (by omega))
 obtain ⟨B,hB⟩:∃B,baU C f=B:=⟨_,rfl⟩
 simp only [hB] at KB⊢
 clear h hv hB
 obtain ⟨mx,ins,lat,outs,bads,invs,ands,nms⟩:=C
 obtain ⟨iA,iC,lA,lC,oA,oC,bA,bC,vA,vC,gA,gC,nA,nC⟩:=H
 simp only [cval,cvs] at *
 obtain ⟨c0,c1,c2,c3,c4,c5,c6,c7⟩:=HX.out.cells
 simp only at c0 c1 c2 c3 c4 c5 c6 c7
 go_enter Tryz.func80,Tryz.ntmps80
 go_wp2_with fail
 refine KR.out.mono ?_
 rintro e w1 ⟨rfl,hf1⟩
 have HX1:=Lib.hid (HX.out.keep hf1)
 obtain ⟨d0,d1,d2,d3,d4,d5,d6,d7⟩:=HX1.out.cells
 simp only at d0 d1 d2 d3 d4 d5 d6 d7
 clear hf1 c0 c1 c2 c3 c4 c5 c6 c7
 go_wp2_with fail
 refine (KB.out w1).mono ?_
 rintro e w2 ⟨rfl,hf2⟩
 have HF:=Lib.hid (HX1.out.fr.then_ hf2)
 clear hf2
 go_wp2_with fail
 go_ret
 exact ⟨rfl,HF.out⟩
theorem uVars_calls (w:World) (H:Hd) (C:Pc) (h:CiAt w H C) (hv:Valid C) (f:Int) (hf:0≤f∧f≤80):
  Calls Tryz.prog 40 #[cval H C, .int .i64 f] w fun e w'=>e= .returned (.int .i64 (baU C f))∧Fr [] w w':=by
 have HX:=Lib.hid (Cx.start w H C)
 have KB:=Lib.hid (uBase_calls _ H C (h.keep HX.out.fr) hv f hf)
 clear h hv
 obtain ⟨mx,ins,lat,outs,bads,invs,ands,nms⟩:=C
 obtain ⟨iA,iC,lA,lC,oA,oC,bA,bC,vA,vC,gA,gC,nA,nC⟩:=H
 simp only [cval,cvs] at *
 obtain ⟨c0,c1,c2,c3,c4,c5,c6,c7⟩:=HX.out.cells
 simp only at c0 c1 c2 c3 c4 c5 c6 c7
 go_enter Tryz.func40,Tryz.ntmps40
 go_wp2_with fail
 refine KB.out.mono ?_
 rintro e w2 ⟨rfl,hf2⟩
 have HF:=Lib.hid (HX.out.fr.then_ hf2)
 clear hf2
 go_wp2_with fail
 go_ret
 exact ⟨rfl,HF.out⟩
def laU (C:Pc) (f n:Int):Int:=if n<0 then -(litT (baU C f) (C.lat[(-n-1).toNat]!).a) else litT (baU C f) (C.lat[(n-1).toNat]!).a
theorem ulatch_calls (w:World) (H:Hd) (C:Pc) (h:CiAt w H C) (hv:Valid C) (f:Int) (hf:0≤f∧f≤80) (n:Int) (hn:n≠0∧ -(C.lat.length:Int)≤n∧n≤C.lat.length):
  Calls Tryz.prog 67 #[cval H C, .int .i64 f, .int .i64 n] w fun e w'=>e= .returned (.int .i64 (laU C f n))∧Fr [] w w':=by
 obtain ⟨wb,hwb⟩:∃W,w.alloc (.cells (cvs H C) 27)=W:=⟨_,rfl⟩
 have hx:=Cx.start w H C
 rw [hwb] at hx
 have HX:=Lib.hid hx
 have hl64:=hv.l
 obtain ⟨j,hj,hjn⟩:∃j:Nat,j<C.lat.length∧(n=(j:Int)+1∨n= -((j:Int)+1)):=by
  by_cases h0:n<0
  ·exact ⟨(-n-1).toNat,by omega, .inr (by omega)⟩
  ·exact ⟨(n-1).toNat,by omega, .inl (by omega)⟩
 obtain ⟨b,o,x,y,z,hA,he,cx,-⟩:=(h.keep hx.fr).l.one h.lr hj
 have hown:=valid_lat hv j hj
 rw [he.out] at hown
 have hb:=baU_rng hv.m0 hv.m1 (f:=f) (by omega)
 have KB:=Lib.hid (fun W=>ubase_calls W H C hv.m0 hv.m1 f (by omega))
 have hm1:=hv.m1
 have KL:=Lib.hid (fun W=>lit_calls W (baU C f) x (by omega) (by simp only at hown;omega))
 obtain ⟨B,hB⟩:∃B,baU C f=B:=⟨_,rfl⟩
 have hlb:1≤litT B x∧litT B x≤1000000:=by
  unfold litT
  rw [hB] at hb
  simp only at hown
  rw [if_neg (by omega)]
  omega
 obtain ⟨t,ht⟩:∃t,litT B x=t:=⟨_,rfl⟩
 have HLA:Hid (laU C f n=if n<0 then -t else t):=by
  show _=_
  unfold laU
  rw [hB]
  rcases hjn with rfl |rfl
  ·rw [if_neg (by omega),if_neg (by omega),show ((j:Int)+1-1).toNat=j by omega,he.out,ht]
  ·rw [if_pos (by omega),if_pos (by omega),show (-(-((j:Int)+1))-1).toNat=j by omega,he.out,ht]
 rw [HLA.out]
 simp only [hB,ht] at KB KL
 rw [ht] at hlb
 have hjl:(j:Int)<(C.lat.length:Int):=by omega
 have HWB:=Lib.hid hwb
 clear h hv hx hown hb hB ht HLA he hwb
 obtain ⟨mx,ins,lat,outs,bads,invs,ands,nms⟩:=C
 obtain ⟨iA,iC,lA,lC,oA,oC,bA,bC,vA,vC,gA,gC,nA,nC⟩:=H
 simp only [cval,cvs] at *
 try simp only at hA
 subst hA
 obtain ⟨c0,c1,c2,c3,c4,c5,c6,c7⟩:=HX.out.cells
 simp only at c0 c1 c2 c3 c4 c5 c6 c7
 obtain ⟨e0,e1,e2,e3,e4,e5,e6,e7⟩:=HX.out.ext
 simp only at e0 e1 e2 e3 e4 e5 e6 e7
 have ex:=Ext.cell cx
 have hwb:=HWB.out
 try simp only [cvs] at hwb
 rcases hjn with rfl |rfl
 ·have d0:decide ((j:Int)+1<0)=false:=decide_eq_false (by omega)
  rw [if_neg (by omega)]
  have hw1:IntKind.i64.wrap (-((j:Int)+1))= -((j:Int)+1):=IntWalk.i64_in _ (by omega)
  have hmx:max ((j:Int)+1) (-((j:Int)+1))=(j:Int)+1:=by omega
  have hw2:IntKind.i64.wrap ((j:Int)+1-1)=(j:Int):=by rw [show (j:Int)+1-1=(j:Int) by omega];exact IntWalk.i64_in _ (by omega)
  go_enter Tryz.func67,Tryz.ntmps67
  go_upto_region 1 with fail
  refine wp_region_ext (by kernel_rfl) (by kernel_rfl) ?_
  repeat (go_big_quiet_step (first |exact call_ext (KB.out _) |exact call_same (KL.out _)))
  refine wpQuiet_nil ?_
  rintro w2 ⟨u2,hu2⟩
  have HF_w2:Hid (Fr [] wb w2):=hu2▸u2.fr
  clear hu2 u2
  go_wp2_with fail
  go_ret
  exact ⟨rfl,HX.out.fr.then_ HF_w2.out⟩
 ·have d0:decide (-((j:Int)+1)<0)=true:=decide_eq_true (by omega)
  rw [if_pos (by omega)]
  have hw1:IntKind.i64.wrap (- -((j:Int)+1))=(j:Int)+1:=by rw [Int.neg_neg];exact IntWalk.i64_in _ (by omega)
  have hmx:max (-((j:Int)+1)) ((j:Int)+1)=(j:Int)+1:=by omega
  have hw2:IntKind.i64.wrap ((j:Int)+1-1)=(j:Int):=by rw [show (j:Int)+1-1=(j:Int) by omega];exact IntWalk.i64_in _ (by omega)
  have hw3:IntKind.i64.wrap (-t)= -t:=IntWalk.i64_in _ (by omega)
  go_enter Tryz.func67,Tryz.ntmps67
  go_upto_region 1 with fail
  refine wp_region_ext (by kernel_rfl) (by kernel_rfl) ?_
  repeat (go_big_quiet_step (first |exact call_ext (KB.out _) |exact call_same (KL.out _)))
  refine wpQuiet_nil ?_
  rintro w2 ⟨u2,hu2⟩
  have HF_w2:Hid (Fr [] wb w2):=hu2▸u2.fr
  clear hu2 u2
  go_wp2_with fail
  go_ret
  exact ⟨rfl,HX.out.fr.then_ HF_w2.out⟩
theorem uLatch_calls (w:World) (H:Hd) (C:Pc) (h:CiAt w H C) (hv:Valid C) (f:Int) (hf:0≤f∧f≤80) (n:Int) (hn:n≠0∧ -(C.lat.length:Int)≤n∧n≤C.lat.length):
  Calls Tryz.prog 73 #[cval H C, .int .i64 f, .int .i64 n] w fun e w'=>e= .returned (.int .i64 (laU C f n))∧Fr [] w w':=by
 have HX:=Lib.hid (Cx.start w H C)
 have KR:=Lib.hid (uright_calls _ H C (h.keep HX.out.fr) hv f hf)
 have KL:=Lib.hid (fun W (hW:Fr [] w W)=>ulatch_calls W H C (h.keep hW) hv f hf n hn)
 have hl64:=hv.l
 obtain ⟨B,hB⟩:∃B,laU C f n=B:=⟨_,rfl⟩
 simp only [hB] at KL⊢
 have d0:(n==(0:Int))=false:=by rw [beq_eq_false_iff_ne];exact hn.1
 have d1:decide ((C.lat.length:Int)<n)=false:=decide_eq_false (by omega)
 have d2:decide (n< -(C.lat.length:Int))=false:=decide_eq_false (by omega)
 have hw:IntKind.i64.wrap (-(C.lat.length:Int))= -(C.lat.length:Int):=IntWalk.i64_in _ (by omega)
 clear h hv hB hn
 obtain ⟨mx,ins,lat,outs,bads,invs,ands,nms⟩:=C
 obtain ⟨iA,iC,lA,lC,oA,oC,bA,bC,vA,vC,gA,gC,nA,nC⟩:=H
 simp only [cval,cvs] at *
 obtain ⟨c0,c1,c2,c3,c4,c5,c6,c7⟩:=HX.out.cells
 simp only at c0 c1 c2 c3 c4 c5 c6 c7
 go_enter Tryz.func73,Tryz.ntmps73
 go_wp2_with fail
 refine KR.out.mono ?_
 rintro e w1 ⟨rfl,hf1⟩
 have HX1:=Lib.hid (HX.out.keep hf1)
 obtain ⟨e0,e1,e2,e3,e4,e5,e6,e7⟩:=HX1.out.cells
 simp only at e0 e1 e2 e3 e4 e5 e6 e7
 clear hf1 c0 c1 c2 c3 c4 c5 c6 c7
 go_wp2_with fail
 refine (KL.out w1 HX1.out.fr).mono ?_
 rintro e w2 ⟨rfl,hf2⟩
 have HF:=Lib.hid (HX1.out.fr.then_ hf2)
 clear hf2
 go_wp2_with fail
 go_ret
 exact ⟨rfl,HF.out⟩
namespace Wp
def bitOk (c:UInt8):Bool:=c==48 ||c==49
def bits (s:List UInt8) (n:Nat):Bool:=decide (s.length=n)&&s.all bitOk
def of (v:List UInt8) (l:Int):UInt8:=
 let c:=if (l/2).toNat<v.length then v[(l/2).toNat]! else 48
 if l%2=1 then 97-c else c
def is (v:List UInt8) (l:Int):Bool:=of v l==49
def ins (il:List Int) (inp v:List UInt8):Nat→List UInt8
 |0=>v
 |k+1=>(ins il inp v k).set (il[k]! /2).toNat inp[k]!
def lat (ll:List T3) (st v:List UInt8):Nat→List UInt8
 |0=>v
 |k+1=>(lat ll st v k).set ((ll[k]!).a/2).toNat st[k]!
def mn (a b:UInt8):UInt8:=if b.toNat<a.toNat then b else a
def gt (al:List T3) (v:List UInt8):Nat→List UInt8
 |0=>v
 |k+1=>(gt al v k).set ((al[k]!).a/2).toNat (mn (of (gt al v k) (al[k]!).b) (of (gt al v k) (al[k]!).c))
def zr (C:Pc):List UInt8:=List.replicate (C.mx+1).toNat 48
def val (C:Pc) (st inp:List UInt8):List UInt8:=gt C.ands (lat C.lat st (ins C.ins inp (zr C) C.ins.length) C.lat.length) C.ands.length
def nxt (C:Pc) (st inp:List UInt8):List UInt8:=C.lat.map fun x=>of (val C st inp) x.b
def rst (x:T3) (f:UInt8):UInt8:=if x.c=x.a then f else UInt8.ofNat (48+x.c).toNat
def fst (C:Pc) (st:List UInt8):List UInt8:=(List.range C.lat.length).map fun k=>rst C.lat[k]! st[k]!
def stt (C:Pc) (st:List UInt8) (il:List (List UInt8)):Nat→List UInt8
 |0=>st
 |k+1=>nxt C (stt C st il k) il[k]!
def alw (C:Pc) (am:List (List Int)) (v:List UInt8):Bool:= !(C.invs.any fun l=> !is v l)&& !(am.any fun c=> !(c.any fun l=>is v l))
def bad (C:Pc) (am:List (List Int)) (b:Int) (st:List UInt8) (il:List (List UInt8)) (k:Nat):Bool:=
 !alw C am (val C (stt C st il k) il[k]!) || (decide (k+1=il.length)&& !is (val C (stt C st il k) il[k]!) C.bads[b.toNat]!)
def form (C:Pc) (st:List UInt8) (il:List (List UInt8)):Int:=
 if il.length=0 then 8 else if !bits st C.lat.length ||il.any (fun s=> !bits s C.ins.length) then 5 else if fst C st=st then 0 else 9
def chk (C:Pc) (am:List (List Int)) (b:Int) (st:List UInt8) (il:List (List UInt8)):Int:=
 if ¬form C st il=0 then form C st il else if (List.range il.length).any (bad C am b st il) then 51 else 0
theorem ins_len (il:List Int) (inp v:List UInt8):∀k,(ins il inp v k).length=v.length
 |0=>rfl
 |k+1=>by rw [ins,List.length_set,ins_len il inp v k]
theorem lat_len (ll:List T3) (st v:List UInt8):∀k,(lat ll st v k).length=v.length
 |0=>rfl
 |k+1=>by rw [lat,List.length_set,lat_len ll st v k]
theorem gt_len (al:List T3) (v:List UInt8):∀k,(gt al v k).length=v.length
 |0=>rfl
 |k+1=>by rw [gt,List.length_set,gt_len al v k]
theorem zr_len (C:Pc) (h:0≤C.mx):(zr C).length=C.mx.toNat+1:=by simp [zr];omega
theorem val_len (C:Pc) (st inp:List UInt8):(val C st inp).length=(zr C).length:=by rw [val,gt_len,lat_len,ins_len]
theorem nxt_len (C:Pc) (st inp:List UInt8):(nxt C st inp).length=C.lat.length:=by simp [nxt]
theorem bits_len {s:List UInt8} {n:Nat} (h:bits s n=true):s.length=n:=by
 simp only [bits,Bool.and_eq_true,decide_eq_true_eq] at h
 exact h.1
theorem bits_ok {s:List UInt8} {n:Nat} (h:bits s n=true):s.all bitOk=true:=by
 simp only [bits,Bool.and_eq_true,decide_eq_true_eq] at h
 exact h.2
def few (R:List UInt8→Bool) (s:List UInt8):Nat→List UInt8
 |0=>s
 |k+1=>if (few R s k)[k]! =48 then few R s k else if R ((few R s k).set k 48) then (few R s k).set k 48 else few R s k
theorem few_len (R:List UInt8→Bool) (s:List UInt8):∀k,(few R s k).length=s.length
 |0=>rfl
 |k+1=>by
  rw [few]
  split
  ·exact few_len R s k
  ·split
   ·rw [List.length_set];exact few_len R s k
   ·exact few_len R s k
theorem few_ok {R:List UInt8→Bool} {s:List UInt8} (h:R s=true):∀k,R (few R s k)=true
 |0=>h
 |k+1=>by
  rw [few]
  split
  ·exact few_ok h k
  ·split
   ·rename_i h2;exact h2
   ·exact few_ok h k
def Und (a b:List UInt8):Prop:=a.length=b.length∧∀i:Nat,a[i]! =b[i]! ∨a[i]! =48
theorem Und.refl (a:List UInt8):Und a a:=⟨rfl,fun _=> .inl rfl⟩
theorem Und.trans {a b c:List UInt8} (h:Und a b) (k:Und b c):Und a c:=⟨h.1.trans k.1,fun i=>by
 rcases h.2 i with h1 |h1
 ·rw [h1];exact k.2 i
 ·exact .inr h1⟩
theorem Und.zero {a:List UInt8} {k:Nat}:Und (a.set k 48) a:=⟨List.length_set,fun i=>by
 by_cases e:k=i
 ·subst e
  by_cases hl:k<a.length
  ·right
   rw [List.getElem!_eq_getElem?_getD,List.getElem?_set_self hl]
   rfl
  ·left
   rw [List.set_eq_of_length_le (by omega)]
 ·left
  rw [List.getElem!_eq_getElem?_getD,List.getElem!_eq_getElem?_getD,List.getElem?_set_ne e]⟩
theorem few_und (R:List UInt8→Bool) (s:List UInt8):∀k,Und (few R s k) s
 |0=>Und.refl s
 |k+1=>by
  rw [few]
  split
  ·exact few_und R s k
  ·split
   ·exact Und.zero.trans (few_und R s k)
   ·exact few_und R s k
def fewI (R:List (List UInt8)→Bool) (il:List (List UInt8)):Nat→List (List UInt8)
 |0=>il
 |k+1=>(fewI R il k).set k (few (fun x=>R ((fewI R il k).set k x)) (fewI R il k)[k]! ((fewI R il k)[k]!).length)
theorem fewI_len (R:List (List UInt8)→Bool) (il:List (List UInt8)):∀k,(fewI R il k).length=il.length
 |0=>rfl
 |k+1=>by rw [fewI,List.length_set,fewI_len R il k]
theorem set_get_self {α:Type} [Inhabited α] (l:List α) (k:Nat):l.set k l[k]! =l:=by
 by_cases h:k<l.length
 ·rw [List.getElem!_eq_getElem?_getD,List.getElem?_eq_getElem h]
  simp
 ·exact List.set_eq_of_length_le (by omega)
theorem fewI_ok {R:List (List UInt8)→Bool} {il:List (List UInt8)} (h:R il=true):∀k,R (fewI R il k)=true
 |0=>h
 |k+1=>by
  rw [fewI]
  exact few_ok (R:=fun x=>R ((fewI R il k).set k x)) (by rw [set_get_self];exact fewI_ok h k) _
theorem fewI_und (R:List (List UInt8)→Bool) (il:List (List UInt8)):∀k i:Nat,Und (fewI R il k)[i]! il[i]!
 |0,i=>Und.refl _
 |k+1,i=>by
  rw [fewI]
  by_cases e:k=i
  ·subst e
   by_cases hl:k<(fewI R il k).length
   ·rw [List.getElem!_eq_getElem?_getD (l:=List.set _ _ _),List.getElem?_set_self hl]
    exact (few_und _ _ _).trans (fewI_und R il k k)
   ·rw [List.set_eq_of_length_le (by omega)]
    exact fewI_und R il k k
  ·rw [List.getElem!_eq_getElem?_getD (l:=List.set _ _ _),List.getElem?_set_ne e,←List.getElem!_eq_getElem?_getD]
   exact fewI_und R il k i
def lft (R:List UInt8→List (List UInt8)→Bool) (st:List UInt8) (il:List (List UInt8)):List UInt8×List (List UInt8):=
 let s:=few (fun x=>R x il) st st.length
 (s,fewI (R s) il il.length)
theorem lft_ok {R:List UInt8→List (List UInt8)→Bool} {st:List UInt8} {il:List (List UInt8)} (h:R st il=true):R (lft R st il).1 (lft R st il).2=true:=
 fewI_ok (R:=R _) (few_ok (R:=fun x=>R x il) h _) _
end Wp
end Go.Proofs.YtjmmpfjcpdepjaaGreatDoor
