/- Parts of a proof. -/
import Derived.Test.YtjmmpfjcpdepjaaGreatDoorGAI
set_option linter.unusedVariables false
set_option linter.unusedSimpArgs false
namespace Go.Proofs.YtjmmpfjcpdepjaaGreatDoor
open Go.RowKit
def tB (a:Nat)(tL:eM)(hL:fW)(g4 g5:Nat):aO where
 a:=a
 tL:=tL
 hL:=hL
 cA:=none
 cC:=0
 wA:=some ⟨g4,0,none⟩
 wC:=2
 pA:=some ⟨g5,0,none⟩
 pC:=1
 mA:=none
 mC:=0
 oA:=none
 oC:=0
 cs:=[]
 ws:=[⟨none,0,[]⟩,⟨none,0,[]⟩]
 id:=0
 cY:=fun k=>if k=a then(0,0,0)else if k∈tL.fp then(0,1,0)else if k∈hL.fp then(0,2,0)else if k=g4 then(0,4,0)else if k=g5 then(0,5,0)else(1,0,0)
theorem aX.make {w:World}{tL:eM}{hL:fW}{g4 g5:Nat}(ht:TrAt w tL (Tr.fresh.ew 0))(hh:cI w hL (Hp.none_.ew 1))(hm:hL.A2.isSome=true)(hw:sR w (some ⟨g4,0,none⟩) 2 [⟨none,0,[]⟩,⟨none,0,[]⟩])(hp:Bools w (some ⟨g5,0,none⟩) 1 [false])
  (b:Nat)(hb:b<=w.heap.size)(hx:(∀k,k∈tL.fp->b<=k)/\(∀k,k∈hL.fp->b<=k)/\b<=g4/\b<=g5/\(∀k,k∈tL.fp->k∉hL.fp)/\g4∉tL.fp/\g5∉tL.fp/\g4∉hL.fp/\g5∉hL.fp/\g4≠g5):
  ∃L:aO,L.a=w.heap.size/\aX (w.alloc (.cells #[.pointer (some ⟨tL.a,0,none⟩), .pointer (some ⟨hL.a,0,none⟩), .int .i64 0, .slice none 0 0, .slice (some ⟨g4,0,none⟩) 2 2, .slice (some ⟨g5,0,none⟩) 1 1, .slice none 0 0, .slice none 0 0, .int .i64 0, .int .i64 0, .int .i64 1, .int .i64 0, .int .i64 400, .bool false, .bool false] 122)) L Sv.bare/\(∀k,k<b->(L.cY k).1≠L.id)/\Fr [] w (w.alloc (.cells #[.pointer (some ⟨tL.a,0,none⟩), .pointer (some ⟨hL.a,0,none⟩), .int .i64 0, .slice none 0 0, .slice (some ⟨g4,0,none⟩) 2 2, .slice (some ⟨g5,0,none⟩) 1 1, .slice none 0 0, .slice none 0 0, .int .i64 0, .int .i64 0, .int .i64 1, .int .i64 0, .int .i64 400, .bool false, .bool false] 122)):=by
 obtain⟨n1,n2,n4,n5,d12,d14,d15,d24,d25,d45⟩:=hx;have zd:=ht.lt;have m6:=hh.lt;have MY:g4<w.heap.size:=dZ hw g4 (by simp[ak]);have hl5:g5<w.heap.size:=dZ hp g5 (by simp[ak]);have hf:Fr [] w (w.alloc (.cells #[.pointer (some ⟨tL.a,0,none⟩), .pointer (some ⟨hL.a,0,none⟩), .int .i64 0, .slice none 0 0, .slice (some ⟨g4,0,none⟩) 2 2, .slice (some ⟨g5,0,none⟩) 1 1, .slice none 0 0, .slice none 0 0, .int .i64 0, .int .i64 0, .int .i64 1, .int .i64 0, .int .i64 400, .bool false, .bool false] 122)):=aH _ _;refine⟨tB w.heap.size tL hL g4 g5,rfl,?_,?_,hf⟩
 ·refine⟨At.new w _ _,ht.fr hf (by simp),hh.fr hf (by simp),hm,rfl,rfl,World.ownsRow_nil _ 0 _ 3,?_,?_,World.ownsRow_nil _ 0 _ 1,Ints.nil _,fun n hn=>absurd hn (aI _),fun c hc=> ?_,?_,?_,?_,?_,?_,?_,?_,?_,fun n hn=>absurd hn (aI _),fun c hc=> ?_⟩
  ·exact fc hw hf (by simp)
  ·exact fc hp hf (by simp)
  ·have :c=0\/c=1:=by simp[tB]at hc;omega
   rcases this with rfl |rfl <;>exact Ints.nil _
  ·simp[tB]
  ·intro k (hk:k∈tL.fp);have :=zd k hk;show(if k=w.heap.size then(0,0,0)else if k∈tL.fp then(0,1,0)else _)=((0,1,0):Nat×Nat×Nat);rw[aac (by omega),aae hk]
  ·intro k (hk:k∈hL.fp);have :=m6 k hk;show(if k=w.heap.size then(0,0,0)else if k∈tL.fp then(0,1,0)else if k∈hL.fp then(0,2,0)else _)=((0,2,0):Nat×Nat×Nat);rw[aac (by omega),aac (fun h=>d12 k h hk),aae hk]
  ·intro k hk;simp[tB,ak]at hk
  ·intro k hk;simp[tB,ak]at hk;subst hk;simp only[tB];rw[aac (by omega),aac d14,aac d24];rfl
  ·intro k hk;simp[tB,ak]at hk;subst hk;simp only[tB];rw[aac (by omega),aac d15,aac d25,aac (fun h=>d45 h.symm)];rfl
  ·intro k hk;simp[tB,ak]at hk
  ·intro k hk;simp[tB,ak]at hk
  ·have :c=0\/c=1:=by simp[tB]at hc;omega
   rcases this with rfl |rfl <;>(intro k hk;simp[tB,ak]at hk)
 ·intro k hk;simp only[tB];rw[aac (by omega),aac (fun h=>by have :=n1 k h;omega),aac (fun h=>by have :=n2 k h;omega),aac (by omega),aac (by omega)];simp
theorem Sv.Ok.bare:Sv.bare.Ok 0:=by
 have hT:TRep (Tr.fresh.ew 0) 0 [] 0:=by have :=TRep.fresh.grow 0 (by omega);exact this
 have hH:(Hp.none_.ew 1)=Hp.none_.growBy 1:=rfl;refine⟨by decide,⟨[],hT⟩,?_,rfl,rfl,rfl,by decide,fun c k hk=> ?_,by decide,fun j x hx=> ?_,fun j=> ?_,fun j=> ?_,by decide,fun v=> ?_⟩
 ·show HI (Hp.none_.ew 1);rw[hH];exact HI.none_.grow 1
 ·have :k∈([[],[]]:List (List Nat))[c]! :=hk;rcases c with _ |_ |c
  ·simp at this
  ·simp at this
  ·exact absurd (show k∈([]:List Nat)from this) cd
 ·have e:Sv.bare.rc j=⟨[],false,0⟩:=Sv.nD (bR j);rw[e]at hx;simp at hx
 ·have e:Sv.bare.rc j=⟨[],false,0⟩:=Sv.nD (bR j);rw[e];simp
 ·have e:Sv.bare.rc j=⟨[],false,0⟩:=Sv.nD (bR j);rw[e];simp
 ·have :=hT.fy v;show 0<=(Tr.fresh.ew 0).fy v/\(Tr.fresh.ew 0).fy v<=_;rw[this];simp[look]
theorem wz (W:World)(z:Int)(h0:0<=z)(h1:z<=1099511627776):
  (Instr.makeSlice 28 (.int .i64 z) (.int .i64 z)).run Tryz.prog W= .ok (.slice (some ⟨W.heap.size,0,none⟩) z.toNat z.toNat) (W.alloc (.cells (madeCells #[.slice none 0 0] z.toNat) 22)):=by
 obtain⟨i0,hi,vy,nN,za⟩:=info_parts si;obtain⟨n,rfl⟩:=Int.eq_ofNat_of_zero_le h0;have hr:=run_make (P:=Tryz.prog) W 28 22 i0 (.slice none 0 0) Tryz.underlying28 hi vy .i64 .i64 n n (by omega) (my _) (by rw[za];omega) (by omega);simp only[Int.toNat_natCast]at hr⊢;rw[nN,ku]at hr;exact hr
theorem Uh (W:World):sR (W.alloc (.cells (madeCells #[.slice none 0 0] 2) 22)) (some ⟨W.heap.size,0,none⟩) 2 [⟨none,0,[]⟩,⟨none,0,[]⟩]:=by have :=World.ownsRow_lit (base:=0) (e:=22) (size:=1) W (madeCells #[.slice none 0 0] 2) 2 (bR _) (by decide) (by rw[size_madeCells]);rw[toList_madeCells_one]at this;exact this
theorem Ui (W:World):Bools (W.alloc (.cells (madeCells #[.bool false] 1) 4)) (some ⟨W.heap.size,0,none⟩) 1 [false]:=qZ W 1 (by decide)
theorem bE {w w':World}{A:Option Addr}{c:Nat}{l:List Bool}(h:Bools w A c l)(hf:Fr [] w w'):Bools w' A c l:=fc h hf (by simp)
theorem bP {w w':World}{A:Option Addr}{c:Nat}{l:List Wl}(h:sR w A c l)(hf:Fr [] w w'):sR w' A c l:=fc h hf (by simp)
def afz (S:Sv)(w:World)(e:Ending)(w':World):Prop:=∃L:aO,e= .returned (.pointer (some ⟨L.a,0,none⟩))/\aX w' L S/\(∀k,k<w.heap.size->(L.cY k).1≠L.id)/\Fr [] w w'
theorem kB (w:World)(o:Obj):(w.alloc o).heap.size=w.heap.size+1:=by simp
theorem kz (w:World):w.drew.heap.size=w.heap.size:=rfl
theorem Uf {w cur:World}(h:(fun w':World=>Fr [] w w') cur):sR (cur.alloc (.cells (madeCells #[.slice none 0 0] 2) 22)) (some ⟨cur.heap.size,0,none⟩) 2 [⟨none,0,[]⟩,⟨none,0,[]⟩]/\Fr [] cur (cur.alloc (.cells (madeCells #[.slice none 0 0] 2) 22)):=⟨Uh cur,aH _ _⟩
theorem Ug {w cur:World}(h:(fun w':World=>Fr [] w w') cur):Bools (cur.alloc (.cells (madeCells #[.bool false] 1) 4)) (some ⟨cur.heap.size,0,none⟩) 1 [false]/\Fr [] cur (cur.alloc (.cells (madeCells #[.bool false] 1) 4)):=⟨Ui cur,aH _ _⟩
theorem fR {w W:World}{L9:aO}(h9:aX W L9 Sv.bare)(oe:∀k,k<w.heap.size->(L9.cY k).1≠L9.id)(hF:Fr [] w W)(n:Nat)(hn:n<=262143):
  Calls Tryz.prog 79 #[.pointer (some ⟨L9.a,0,none⟩), .int .i64 (n:Int)] W fun e w8=>e= .returned (.tuple #[])/\afz (Sv.bare.grow n) w (.returned (.pointer (some ⟨L9.a,0,none⟩))) w8:=by
 refine(IC _ L9 Sv.bare h9 Sv.Ok.bare n (by show 0+n<=_;omega)).mono ?_;rintro e w8 ⟨rfl,L8,h8,VB,mp⟩;refine⟨rfl,L8,by rw[VB.1],h8,fun k hk e=>oe k hk (VB.2.2 k (aK hk hF.size) (e.trans VB.2.1)),hF.trans mp (fun k hk=> ?_)⟩;rw[aO.bT]at hk;rcases bv k w.heap.size with hl |hl
 ·exact absurd hk.2 (oe k hl)
 ·exact .inr hl
set_option maxRecDepth 100000 in
set_option maxHeartbeats 16000000 in
theorem LQ (w:World)(vars:Int)(Oj: -9223372036854775808<=vars)(hv1:vars<=9223372036854775807):Calls Tryz.prog 39 #[.int .i64 vars] w (afz (Sv.new vars) w):=by
 have KT:=aa (fun W=>Ly W 0);have KH:=aa (fun W=>QN W 1);have sm:=fun W=>wz W 2 (by omega) (by omega);have mz:=fun W=>mf W 1 (by omega) (by omega);simp only[show(2:Int).toNat=2 from rfl]at sm;simp only[show(1:Int).toNat=1 from rfl]at mz;obtain⟨n,hn⟩:∃n:Nat,(min (max vars 0) 262143).toNat=n:=⟨_,rfl⟩
 have ke:n<=262143:=by omega
 have zG:Hid (Sv.new vars=Sv.bare.grow n):=by show _=_;unfold Sv.new;rw[hn]
 have mv:Hid (min (max vars 0) 262143=(n:Int)):=by show _=_;omega
 clear hn;go_enter Tryz.func39,Tryz.ntmps39;go_upto_region 1 with fail;refine aam ?_;refine bi (fun w':World=>Fr [] w w') 5 (by kernel_rfl) ((Fr.refl [] w).drew) (fun cZ=> ?_);have aw:=cZ.resolve_left (by decide);refine bJ (rs:=[0,2,3]) (by kernel_rfl) (by simp) ?_;refine aZ.cons (o:= ?an6) ?Zw ?Mv ?_;case Zw=>rfl
 case Mv=>
  intro K hK
  (go_simp;refine(KT.out _).mono ?_;rintro e w5 ⟨tL,rfl,ht,hn,hf⟩;(try have HT:=aa (HT.out.fr hf (by simp)));(try have HP:=aa (HP.out.fr hf (by simp)));(try have eZ:=aa (bP eZ.out hf));(try have eF:=aa (bE eF.out hf));have qf:=hf.size;have eP:=aa (aw.ag hf);have qO:=aa (show ∀k,k∈tL.fp->_/\k<w5.heap.size from fun k hk=>⟨hn k hk,ht.lt k hk⟩);have HT:=aa ht;clear ht hn;dsimp only)
  refine hK.out _ _ (.inr ?_) (fun XL=> ?_)
  ·first |exact eP.out |exact aw.alloc _ |exact aw
  clear hK K;try simp only[Act.put,q5,q6,q7]
  have aw:=XL.resolve_left (by decide);refine bJ (rs:=[1,2,3]) (by kernel_rfl) (by simp) ?_;refine aZ.cons (o:= ?an5) ?Zv ?Mu ?_;case Zv=>rfl
  case Mu=>
   intro K hK
   (go_simp;refine(KH.out _).mono ?_;rintro e w5 ⟨hL,rfl,ht,hm,hn,hf⟩;(try have HT:=aa (HT.out.fr hf (by simp)));(try have HP:=aa (HP.out.fr hf (by simp)));(try have eZ:=aa (bP eZ.out hf));(try have eF:=aa (bE eF.out hf));have qf:=hf.size;have eP:=aa (aw.ag hf);have kr:=aa (show ∀k,k∈hL.fp->_/\k<w5.heap.size from fun k hk=>⟨hn k hk,ht.lt k hk⟩);have HP:=aa ht;have vP:=aa hm;clear ht hn hm;dsimp only)
   refine hK.out _ _ (.inr ?_) (fun Nh=> ?_)
   ·first |exact eP.out |exact aw.alloc _ |exact aw
   clear hK K;try simp only[Act.put,q5,q6,q7]
   have aw:=Nh.resolve_left (by decide);refine bJ (rs:=[2,3]) (by kernel_rfl) (by simp) ?_;refine aZ.cons (o:= ?an4) ?Zu ?Mt ?_;case Zu=>rfl
   case Mt=>
    intro K hK
    (obtain⟨nO,hf⟩:=Uf aw;(try have HT:=aa (HT.out.fr hf (by simp)));(try have HP:=aa (HP.out.fr hf (by simp)));(try have eZ:=aa (bP eZ.out hf));(try have eF:=aa (bE eF.out hf));have qf:=hf.size;have eZ:=aa nO;have eP:=aa (aw.ag hf);clear nO;go_simp)
    refine hK.out _ _ (.inr ?_) (fun u7=> ?_)
    ·first |exact eP.out |exact aw.alloc _ |exact aw
    clear hK K;try simp only[Act.put,q5,q6,q7]
    refine R2 3 (by kernel_rfl) (by rfl) u7 fun K hK aw=> ?_
    (obtain⟨sr,hf⟩:=Ug aw;(try have HT:=aa (HT.out.fr hf (by simp)));(try have HP:=aa (HP.out.fr hf (by simp)));(try have eZ:=aa (bP eZ.out hf));(try have eF:=aa (bE eF.out hf));have qf:=hf.size;have eF:=aa sr;have eP:=aa (aw.ag hf);clear sr;go_simp)
    refine hK.out _ _ (.inr ?_) (fun iS=> ?_)
    ·first |exact eP.out |exact aw.alloc _ |exact aw
    clear hK K;try simp only[Act.put,q5,q6,q7]
    apply TB 1 [(4,[])];kernel_rfl;rfl;· (repeat (apply eH;rfl;rfl;(· intro w bl;go_simp<;>with_reducible rfl);try simp only[Act.put,q5,q6,q7]));exact eG
    exact iS;intro iS;refine R2 5 (by kernel_rfl) (by rfl) iS fun K hK aw=> ?_
    (go_simp)
    refine hK.out _ _ (.inl rfl) (fun u6=> ?_);clear hK K;try simp only[Act.put,q5,q6,q7]
    refine R1 (i:=6) (o:= ?an1) (by kernel_rfl) (by rfl) ?_;intro K hK;go_simp;refine hK.out _ _ (.inl rfl) (fun vF=> ?_);clear hK K;try simp only[Act.put,q5,q6,q7]
    refine aD (by kernel_rfl) ?_ _;refine NoPanic.normal ?_;have pq:=eP.out.size;obtain⟨L9,lh,li,oe,lj⟩:=aX.make HT.out HP.out vP.out eZ.out eF.out w.heap.size pq (by refine⟨?_,?_,?_,?_,?_,?_,?_,?_,?_,?_⟩<;>((try intro a1);(try intro a2);(try intro a3);(try have b1:=qO.out _ a1);(try have b2:=qO.out _ a2);(try have b3:=kr.out _ a1);(try have b4:=kr.out _ a2);(try have b5:=kr.out _ a3);(try simp only[kB,kz]at *);omega))
    (try simp only[kB,kz]at li lh lj)
    have KG:=fR (w:=w) li oe (eP.out.ag lj) n ke;rw[lh,<-zG.out]at KG;have KG:=aa KG;clear li lh oe pq lj sm mz;by_cases h0:vars<0
    ·obtain rfl :n=0:=by have :=mv.out;omega
     go_wp2_with fail;refine KG.out.mono ?_;rintro e w8 ⟨rfl,hN⟩;have FF:=aa hN;clear hN KG;go_wp2_with fail;go_ret;exact FF.out
    ·have Kp:(0:Int)<=vars:=(by omega)
     by_cases h1:262143<vars
     ·obtain rfl :n=262143:=by have :=mv.out;omega
      go_wp2_with fail;refine KG.out.mono ?_;rintro e w8 ⟨rfl,hN⟩;have FF:=aa hN;clear hN KG;go_wp2_with fail;go_ret;exact FF.out
     ·obtain rfl :vars=(n:Int):=by have :=mv.out;omega
      have yK:(n:Int)<=262143:=(by omega)
      go_wp2_with fail;refine KG.out.mono ?_;rintro e w8 ⟨rfl,hN⟩;have FF:=aa hN;clear hN KG;go_wp2_with fail;go_ret;exact FF.out
   refine aZ.cons (o:= ?WX) ?Zs ?abQ aZ.nil;case Zs=>rfl
   intro K hK
   (obtain⟨sr,hf⟩:=Ug aw;(try have HT:=aa (HT.out.fr hf (by simp)));(try have HP:=aa (HP.out.fr hf (by simp)));(try have eZ:=aa (bP eZ.out hf));(try have eF:=aa (bE eF.out hf));have qf:=hf.size;have eF:=aa sr;have eP:=aa (aw.ag hf);clear sr;go_simp)
   refine hK.out _ _ (.inr ?_) (fun u7=> ?_)
   ·first |exact eP.out |exact aw.alloc _ |exact aw
   clear hK K;try simp only[Act.put,q5,q6,q7]
   refine R2 2 (by kernel_rfl) (by rfl) u7 fun K hK aw=> ?_
   (obtain⟨nO,hf⟩:=Uf aw;(try have HT:=aa (HT.out.fr hf (by simp)));(try have HP:=aa (HP.out.fr hf (by simp)));(try have eZ:=aa (bP eZ.out hf));(try have eF:=aa (bE eF.out hf));have qf:=hf.size;have eZ:=aa nO;have eP:=aa (aw.ag hf);clear nO;go_simp)
   refine hK.out _ _ (.inr ?_) (fun iS=> ?_)
   ·first |exact eP.out |exact aw.alloc _ |exact aw
   clear hK K;try simp only[Act.put,q5,q6,q7]
   apply TB 1 [(4,[])];kernel_rfl;rfl;· (repeat (apply eH;rfl;rfl;(· intro w bl;go_simp<;>with_reducible rfl);try simp only[Act.put,q5,q6,q7]));exact eG
   exact iS;intro iS;refine R2 5 (by kernel_rfl) (by rfl) iS fun K hK aw=> ?_
   (go_simp)
   refine hK.out _ _ (.inl rfl) (fun u6=> ?_);clear hK K;try simp only[Act.put,q5,q6,q7]
   refine R1 (i:=6) (o:= ?ajM) (by kernel_rfl) (by rfl) ?_;intro K hK;go_simp;refine hK.out _ _ (.inl rfl) (fun vF=> ?_);clear hK K;try simp only[Act.put,q5,q6,q7]
   refine aD (by kernel_rfl) ?_ _;refine NoPanic.normal ?_;have pq:=eP.out.size;obtain⟨L9,lh,li,oe,lj⟩:=aX.make HT.out HP.out vP.out eZ.out eF.out w.heap.size pq (by refine⟨?_,?_,?_,?_,?_,?_,?_,?_,?_,?_⟩<;>((try intro a1);(try intro a2);(try intro a3);(try have b1:=qO.out _ a1);(try have b2:=qO.out _ a2);(try have b3:=kr.out _ a1);(try have b4:=kr.out _ a2);(try have b5:=kr.out _ a3);(try simp only[kB,kz]at *);omega))
   (try simp only[kB,kz]at li lh lj)
   have KG:=fR (w:=w) li oe (eP.out.ag lj) n ke;rw[lh,<-zG.out]at KG;have KG:=aa KG;clear li lh oe pq lj sm mz;by_cases h0:vars<0
   ·obtain rfl :n=0:=by have :=mv.out;omega
    go_wp2_with fail;refine KG.out.mono ?_;rintro e w8 ⟨rfl,hN⟩;have FF:=aa hN;clear hN KG;go_wp2_with fail;go_ret;exact FF.out
   ·have Kp:(0:Int)<=vars:=by omega
    by_cases h1:262143<vars
    ·obtain rfl :n=262143:=by have :=mv.out;omega
     go_wp2_with fail;refine KG.out.mono ?_;rintro e w8 ⟨rfl,hN⟩;have FF:=aa hN;clear hN KG;go_wp2_with fail;go_ret;exact FF.out
    ·obtain rfl :vars=(n:Int):=by have :=mv.out;omega
     have yK:(n:Int)<=262143:=(by omega)
     go_wp2_with fail;refine KG.out.mono ?_;rintro e w8 ⟨rfl,hN⟩;have FF:=aa hN;clear hN KG;go_wp2_with fail;go_ret;exact FF.out
  refine aZ.cons (o:= ?YF) ?Vg ?Ho ?_;case Vg=>rfl
  case Ho=>
   intro K hK
   (obtain⟨nO,hf⟩:=Uf aw;(try have HT:=aa (HT.out.fr hf (by simp)));(try have HP:=aa (HP.out.fr hf (by simp)));(try have eZ:=aa (bP eZ.out hf));(try have eF:=aa (bE eF.out hf));have qf:=hf.size;have eZ:=aa nO;have eP:=aa (aw.ag hf);clear nO;go_simp)
   refine hK.out _ _ (.inr ?_) (fun Nh=> ?_)
   ·first |exact eP.out |exact aw.alloc _ |exact aw
   clear hK K;try simp only[Act.put,q5,q6,q7]
   have aw:=Nh.resolve_left (by decide);refine bJ (rs:=[1,3]) (by kernel_rfl) (by simp) ?_;refine aZ.cons (o:= ?ajL) ?Vf ?Hn ?_;case Vf=>rfl
   case Hn=>
    intro K hK
    (go_simp;refine(KH.out _).mono ?_;rintro e w5 ⟨hL,rfl,ht,hm,hn,hf⟩;(try have HT:=aa (HT.out.fr hf (by simp)));(try have HP:=aa (HP.out.fr hf (by simp)));(try have eZ:=aa (bP eZ.out hf));(try have eF:=aa (bE eF.out hf));have qf:=hf.size;have eP:=aa (aw.ag hf);have kr:=aa (show ∀k,k∈hL.fp->_/\k<w5.heap.size from fun k hk=>⟨hn k hk,ht.lt k hk⟩);have HP:=aa ht;have vP:=aa hm;clear ht hn hm;dsimp only)
    refine hK.out _ _ (.inr ?_) (fun u7=> ?_)
    ·first |exact eP.out |exact aw.alloc _ |exact aw
    clear hK K;try simp only[Act.put,q5,q6,q7]
    refine R2 3 (by kernel_rfl) (by rfl) u7 fun K hK aw=> ?_
    (obtain⟨sr,hf⟩:=Ug aw;(try have HT:=aa (HT.out.fr hf (by simp)));(try have HP:=aa (HP.out.fr hf (by simp)));(try have eZ:=aa (bP eZ.out hf));(try have eF:=aa (bE eF.out hf));have qf:=hf.size;have eF:=aa sr;have eP:=aa (aw.ag hf);clear sr;go_simp)
    refine hK.out _ _ (.inr ?_) (fun iS=> ?_)
    ·first |exact eP.out |exact aw.alloc _ |exact aw
    clear hK K;try simp only[Act.put,q5,q6,q7]
    apply TB 1 [(4,[])];kernel_rfl;rfl;· (repeat (apply eH;rfl;rfl;(· intro w bl;go_simp<;>with_reducible rfl);try simp only[Act.put,q5,q6,q7]));exact eG
    exact iS;intro iS;refine R2 5 (by kernel_rfl) (by rfl) iS fun K hK aw=> ?_
    (go_simp)
    refine hK.out _ _ (.inl rfl) (fun u6=> ?_);clear hK K;try simp only[Act.put,q5,q6,q7]
    refine R1 (i:=6) (o:= ?ajK) (by kernel_rfl) (by rfl) ?_;intro K hK;go_simp;refine hK.out _ _ (.inl rfl) (fun vF=> ?_);clear hK K;try simp only[Act.put,q5,q6,q7]
    refine aD (by kernel_rfl) ?_ _;refine NoPanic.normal ?_;have pq:=eP.out.size;obtain⟨L9,lh,li,oe,lj⟩:=aX.make HT.out HP.out vP.out eZ.out eF.out w.heap.size pq (by refine⟨?_,?_,?_,?_,?_,?_,?_,?_,?_,?_⟩<;>((try intro a1);(try intro a2);(try intro a3);(try have b1:=qO.out _ a1);(try have b2:=qO.out _ a2);(try have b3:=kr.out _ a1);(try have b4:=kr.out _ a2);(try have b5:=kr.out _ a3);(try simp only[kB,kz]at *);omega))
    (try simp only[kB,kz]at li lh lj)
    have KG:=fR (w:=w) li oe (eP.out.ag lj) n ke;rw[lh,<-zG.out]at KG;have KG:=aa KG;clear li lh oe pq lj sm mz;by_cases h0:vars<0
    ·obtain rfl :n=0:=by have :=mv.out;omega
     go_wp2_with fail;refine KG.out.mono ?_;rintro e w8 ⟨rfl,hN⟩;have FF:=aa hN;clear hN KG;go_wp2_with fail;go_ret;exact FF.out
    ·have Kp:(0:Int)<=vars:=(by omega)
     by_cases h1:262143<vars
     ·obtain rfl :n=262143:=by have :=mv.out;omega
      go_wp2_with fail;refine KG.out.mono ?_;rintro e w8 ⟨rfl,hN⟩;have FF:=aa hN;clear hN KG;go_wp2_with fail;go_ret;exact FF.out
     ·obtain rfl :vars=(n:Int):=by have :=mv.out;omega
      have yK:(n:Int)<=262143:=(by omega)
      go_wp2_with fail;refine KG.out.mono ?_;rintro e w8 ⟨rfl,hN⟩;have FF:=aa hN;clear hN KG;go_wp2_with fail;go_ret;exact FF.out
   refine aZ.cons (o:= ?ajJ) ?Ve ?Zj aZ.nil;case Ve=>rfl
   intro K hK
   (obtain⟨sr,hf⟩:=Ug aw;(try have HT:=aa (HT.out.fr hf (by simp)));(try have HP:=aa (HP.out.fr hf (by simp)));(try have eZ:=aa (bP eZ.out hf));(try have eF:=aa (bE eF.out hf));have qf:=hf.size;have eF:=aa sr;have eP:=aa (aw.ag hf);clear sr;go_simp)
   refine hK.out _ _ (.inr ?_) (fun u7=> ?_)
   ·first |exact eP.out |exact aw.alloc _ |exact aw
   clear hK K;try simp only[Act.put,q5,q6,q7]
   refine R2 1 (by kernel_rfl) (by rfl) u7 fun K hK aw=> ?_
   (go_simp;refine(KH.out _).mono ?_;rintro e w5 ⟨hL,rfl,ht,hm,hn,hf⟩;(try have HT:=aa (HT.out.fr hf (by simp)));(try have HP:=aa (HP.out.fr hf (by simp)));(try have eZ:=aa (bP eZ.out hf));(try have eF:=aa (bE eF.out hf));have qf:=hf.size;have eP:=aa (aw.ag hf);have kr:=aa (show ∀k,k∈hL.fp->_/\k<w5.heap.size from fun k hk=>⟨hn k hk,ht.lt k hk⟩);have HP:=aa ht;have vP:=aa hm;clear ht hn hm;dsimp only)
   refine hK.out _ _ (.inr ?_) (fun iS=> ?_)
   ·first |exact eP.out |exact aw.alloc _ |exact aw
   clear hK K;try simp only[Act.put,q5,q6,q7]
   apply TB 1 [(4,[])];kernel_rfl;rfl;· (repeat (apply eH;rfl;rfl;(· intro w bl;go_simp<;>with_reducible rfl);try simp only[Act.put,q5,q6,q7]));exact eG
   exact iS;intro iS;refine R2 5 (by kernel_rfl) (by rfl) iS fun K hK aw=> ?_
   (go_simp)
   refine hK.out _ _ (.inl rfl) (fun u6=> ?_);clear hK K;try simp only[Act.put,q5,q6,q7]
   refine R1 (i:=6) (o:= ?ajI) (by kernel_rfl) (by rfl) ?_;intro K hK;go_simp;refine hK.out _ _ (.inl rfl) (fun vF=> ?_);clear hK K;try simp only[Act.put,q5,q6,q7]
   refine aD (by kernel_rfl) ?_ _;refine NoPanic.normal ?_;have pq:=eP.out.size;obtain⟨L9,lh,li,oe,lj⟩:=aX.make HT.out HP.out vP.out eZ.out eF.out w.heap.size pq (by refine⟨?_,?_,?_,?_,?_,?_,?_,?_,?_,?_⟩<;>((try intro a1);(try intro a2);(try intro a3);(try have b1:=qO.out _ a1);(try have b2:=qO.out _ a2);(try have b3:=kr.out _ a1);(try have b4:=kr.out _ a2);(try have b5:=kr.out _ a3);(try simp only[kB,kz]at *);omega))
   (try simp only[kB,kz]at li lh lj)
   have KG:=fR (w:=w) li oe (eP.out.ag lj) n ke;rw[lh,<-zG.out]at KG;have KG:=aa KG;clear li lh oe pq lj sm mz;by_cases h0:vars<0
   ·obtain rfl :n=0:=by have :=mv.out;omega
    go_wp2_with fail;refine KG.out.mono ?_;rintro e w8 ⟨rfl,hN⟩;have FF:=aa hN;clear hN KG;go_wp2_with fail;go_ret;exact FF.out
   ·have Kp:(0:Int)<=vars:=by omega
    by_cases h1:262143<vars
    ·obtain rfl :n=262143:=by have :=mv.out;omega
     go_wp2_with fail;refine KG.out.mono ?_;rintro e w8 ⟨rfl,hN⟩;have FF:=aa hN;clear hN KG;go_wp2_with fail;go_ret;exact FF.out
    ·obtain rfl :vars=(n:Int):=by have :=mv.out;omega
     have yK:(n:Int)<=262143:=(by omega)
     go_wp2_with fail;refine KG.out.mono ?_;rintro e w8 ⟨rfl,hN⟩;have FF:=aa hN;clear hN KG;go_wp2_with fail;go_ret;exact FF.out
  refine aZ.cons (o:= ?ajH) ?Vd ?Zi aZ.nil;case Vd=>rfl
  intro K hK
  (obtain⟨sr,hf⟩:=Ug aw;(try have HT:=aa (HT.out.fr hf (by simp)));(try have HP:=aa (HP.out.fr hf (by simp)));(try have eZ:=aa (bP eZ.out hf));(try have eF:=aa (bE eF.out hf));have qf:=hf.size;have eF:=aa sr;have eP:=aa (aw.ag hf);clear sr;go_simp)
  refine hK.out _ _ (.inr ?_) (fun Nh=> ?_)
  ·first |exact eP.out |exact aw.alloc _ |exact aw
  clear hK K;try simp only[Act.put,q5,q6,q7]
  have aw:=Nh.resolve_left (by decide);refine bJ (rs:=[1,2]) (by kernel_rfl) (by simp) ?_;refine aZ.cons (o:= ?ajG) ?Vc ?Hm ?_;case Vc=>rfl
  case Hm=>
   intro K hK
   (go_simp;refine(KH.out _).mono ?_;rintro e w5 ⟨hL,rfl,ht,hm,hn,hf⟩;(try have HT:=aa (HT.out.fr hf (by simp)));(try have HP:=aa (HP.out.fr hf (by simp)));(try have eZ:=aa (bP eZ.out hf));(try have eF:=aa (bE eF.out hf));have qf:=hf.size;have eP:=aa (aw.ag hf);have kr:=aa (show ∀k,k∈hL.fp->_/\k<w5.heap.size from fun k hk=>⟨hn k hk,ht.lt k hk⟩);have HP:=aa ht;have vP:=aa hm;clear ht hn hm;dsimp only)
   refine hK.out _ _ (.inr ?_) (fun u7=> ?_)
   ·first |exact eP.out |exact aw.alloc _ |exact aw
   clear hK K;try simp only[Act.put,q5,q6,q7]
   refine R2 2 (by kernel_rfl) (by rfl) u7 fun K hK aw=> ?_
   (obtain⟨nO,hf⟩:=Uf aw;(try have HT:=aa (HT.out.fr hf (by simp)));(try have HP:=aa (HP.out.fr hf (by simp)));(try have eZ:=aa (bP eZ.out hf));(try have eF:=aa (bE eF.out hf));have qf:=hf.size;have eZ:=aa nO;have eP:=aa (aw.ag hf);clear nO;go_simp)
   refine hK.out _ _ (.inr ?_) (fun iS=> ?_)
   ·first |exact eP.out |exact aw.alloc _ |exact aw
   clear hK K;try simp only[Act.put,q5,q6,q7]
   apply TB 1 [(4,[])];kernel_rfl;rfl;· (repeat (apply eH;rfl;rfl;(· intro w bl;go_simp<;>with_reducible rfl);try simp only[Act.put,q5,q6,q7]));exact eG
   exact iS;intro iS;refine R2 5 (by kernel_rfl) (by rfl) iS fun K hK aw=> ?_
   (go_simp)
   refine hK.out _ _ (.inl rfl) (fun u6=> ?_);clear hK K;try simp only[Act.put,q5,q6,q7]
   refine R1 (i:=6) (o:= ?ajF) (by kernel_rfl) (by rfl) ?_;intro K hK;go_simp;refine hK.out _ _ (.inl rfl) (fun vF=> ?_);clear hK K;try simp only[Act.put,q5,q6,q7]
   refine aD (by kernel_rfl) ?_ _;refine NoPanic.normal ?_;have pq:=eP.out.size;obtain⟨L9,lh,li,oe,lj⟩:=aX.make HT.out HP.out vP.out eZ.out eF.out w.heap.size pq (by refine⟨?_,?_,?_,?_,?_,?_,?_,?_,?_,?_⟩<;>((try intro a1);(try intro a2);(try intro a3);(try have b1:=qO.out _ a1);(try have b2:=qO.out _ a2);(try have b3:=kr.out _ a1);(try have b4:=kr.out _ a2);(try have b5:=kr.out _ a3);(try simp only[kB,kz]at *);omega))
   (try simp only[kB,kz]at li lh lj)
   have KG:=fR (w:=w) li oe (eP.out.ag lj) n ke;rw[lh,<-zG.out]at KG;have KG:=aa KG;clear li lh oe pq lj sm mz;by_cases h0:vars<0
   ·obtain rfl :n=0:=by have :=mv.out;omega
    go_wp2_with fail;refine KG.out.mono ?_;rintro e w8 ⟨rfl,hN⟩;have FF:=aa hN;clear hN KG;go_wp2_with fail;go_ret;exact FF.out
   ·have Kp:(0:Int)<=vars:=by omega
    by_cases h1:262143<vars
    ·obtain rfl :n=262143:=by have :=mv.out;omega
     go_wp2_with fail;refine KG.out.mono ?_;rintro e w8 ⟨rfl,hN⟩;have FF:=aa hN;clear hN KG;go_wp2_with fail;go_ret;exact FF.out
    ·obtain rfl :vars=(n:Int):=by have :=mv.out;omega
     have yK:(n:Int)<=262143:=(by omega)
     go_wp2_with fail;refine KG.out.mono ?_;rintro e w8 ⟨rfl,hN⟩;have FF:=aa hN;clear hN KG;go_wp2_with fail;go_ret;exact FF.out
  refine aZ.cons (o:= ?ajE) ?Vb ?Zh aZ.nil;case Vb=>rfl
  intro K hK
  (obtain⟨nO,hf⟩:=Uf aw;(try have HT:=aa (HT.out.fr hf (by simp)));(try have HP:=aa (HP.out.fr hf (by simp)));(try have eZ:=aa (bP eZ.out hf));(try have eF:=aa (bE eF.out hf));have qf:=hf.size;have eZ:=aa nO;have eP:=aa (aw.ag hf);clear nO;go_simp)
  refine hK.out _ _ (.inr ?_) (fun u7=> ?_)
  ·first |exact eP.out |exact aw.alloc _ |exact aw
  clear hK K;try simp only[Act.put,q5,q6,q7]
  refine R2 1 (by kernel_rfl) (by rfl) u7 fun K hK aw=> ?_
  (go_simp;refine(KH.out _).mono ?_;rintro e w5 ⟨hL,rfl,ht,hm,hn,hf⟩;(try have HT:=aa (HT.out.fr hf (by simp)));(try have HP:=aa (HP.out.fr hf (by simp)));(try have eZ:=aa (bP eZ.out hf));(try have eF:=aa (bE eF.out hf));have qf:=hf.size;have eP:=aa (aw.ag hf);have kr:=aa (show ∀k,k∈hL.fp->_/\k<w5.heap.size from fun k hk=>⟨hn k hk,ht.lt k hk⟩);have HP:=aa ht;have vP:=aa hm;clear ht hn hm;dsimp only)
  refine hK.out _ _ (.inr ?_) (fun iS=> ?_)
  ·first |exact eP.out |exact aw.alloc _ |exact aw
  clear hK K;try simp only[Act.put,q5,q6,q7]
  apply TB 1 [(4,[])];kernel_rfl;rfl;· (repeat (apply eH;rfl;rfl;(· intro w bl;go_simp<;>with_reducible rfl);try simp only[Act.put,q5,q6,q7]));exact eG
  exact iS;intro iS;refine R2 5 (by kernel_rfl) (by rfl) iS fun K hK aw=> ?_
  (go_simp)
  refine hK.out _ _ (.inl rfl) (fun u6=> ?_);clear hK K;try simp only[Act.put,q5,q6,q7]
  refine R1 (i:=6) (o:= ?ajD) (by kernel_rfl) (by rfl) ?_;intro K hK;go_simp;refine hK.out _ _ (.inl rfl) (fun vF=> ?_);clear hK K;try simp only[Act.put,q5,q6,q7]
  refine aD (by kernel_rfl) ?_ _;refine NoPanic.normal ?_;have pq:=eP.out.size;obtain⟨L9,lh,li,oe,lj⟩:=aX.make HT.out HP.out vP.out eZ.out eF.out w.heap.size pq (by refine⟨?_,?_,?_,?_,?_,?_,?_,?_,?_,?_⟩<;>((try intro a1);(try intro a2);(try intro a3);(try have b1:=qO.out _ a1);(try have b2:=qO.out _ a2);(try have b3:=kr.out _ a1);(try have b4:=kr.out _ a2);(try have b5:=kr.out _ a3);(try simp only[kB,kz]at *);omega))
  (try simp only[kB,kz]at li lh lj)
  have KG:=fR (w:=w) li oe (eP.out.ag lj) n ke;rw[lh,<-zG.out]at KG;have KG:=aa KG;clear li lh oe pq lj sm mz;by_cases h0:vars<0
  ·obtain rfl :n=0:=by have :=mv.out;omega
   go_wp2_with fail;refine KG.out.mono ?_;rintro e w8 ⟨rfl,hN⟩;have FF:=aa hN;clear hN KG;go_wp2_with fail;go_ret;exact FF.out
  ·have Kp:(0:Int)<=vars:=by omega
   by_cases h1:262143<vars
   ·obtain rfl :n=262143:=by have :=mv.out;omega
    go_wp2_with fail;refine KG.out.mono ?_;rintro e w8 ⟨rfl,hN⟩;have FF:=aa hN;clear hN KG;go_wp2_with fail;go_ret;exact FF.out
   ·obtain rfl :vars=(n:Int):=by have :=mv.out;omega
    have yK:(n:Int)<=262143:=(by omega)
    go_wp2_with fail;refine KG.out.mono ?_;rintro e w8 ⟨rfl,hN⟩;have FF:=aa hN;clear hN KG;go_wp2_with fail;go_ret;exact FF.out
 refine aZ.cons (o:= ?ajC) ?Va ?Hl ?_;case Va=>rfl
 case Hl=>
  intro K hK
  (obtain⟨nO,hf⟩:=Uf aw;(try have HT:=aa (HT.out.fr hf (by simp)));(try have HP:=aa (HP.out.fr hf (by simp)));(try have eZ:=aa (bP eZ.out hf));(try have eF:=aa (bE eF.out hf));have qf:=hf.size;have eZ:=aa nO;have eP:=aa (aw.ag hf);clear nO;go_simp)
  refine hK.out _ _ (.inr ?_) (fun XL=> ?_)
  ·first |exact eP.out |exact aw.alloc _ |exact aw
  clear hK K;try simp only[Act.put,q5,q6,q7]
  have aw:=XL.resolve_left (by decide);refine bJ (rs:=[0,3]) (by kernel_rfl) (by simp) ?_;refine aZ.cons (o:= ?ajB) ?U9 ?Hj ?_;case U9=>rfl
  case Hj=>
   intro K hK
   (go_simp;refine(KT.out _).mono ?_;rintro e w5 ⟨tL,rfl,ht,hn,hf⟩;(try have HT:=aa (HT.out.fr hf (by simp)));(try have HP:=aa (HP.out.fr hf (by simp)));(try have eZ:=aa (bP eZ.out hf));(try have eF:=aa (bE eF.out hf));have qf:=hf.size;have eP:=aa (aw.ag hf);have qO:=aa (show ∀k,k∈tL.fp->_/\k<w5.heap.size from fun k hk=>⟨hn k hk,ht.lt k hk⟩);have HT:=aa ht;clear ht hn;dsimp only)
   refine hK.out _ _ (.inr ?_) (fun Nh=> ?_)
   ·first |exact eP.out |exact aw.alloc _ |exact aw
   clear hK K;try simp only[Act.put,q5,q6,q7]
   have aw:=Nh.resolve_left (by decide);refine bJ (rs:=[1,3]) (by kernel_rfl) (by simp) ?_;refine aZ.cons (o:= ?ajA) ?U8 ?Hi ?_;case U8=>rfl
   case Hi=>
    intro K hK
    (go_simp;refine(KH.out _).mono ?_;rintro e w5 ⟨hL,rfl,ht,hm,hn,hf⟩;(try have HT:=aa (HT.out.fr hf (by simp)));(try have HP:=aa (HP.out.fr hf (by simp)));(try have eZ:=aa (bP eZ.out hf));(try have eF:=aa (bE eF.out hf));have qf:=hf.size;have eP:=aa (aw.ag hf);have kr:=aa (show ∀k,k∈hL.fp->_/\k<w5.heap.size from fun k hk=>⟨hn k hk,ht.lt k hk⟩);have HP:=aa ht;have vP:=aa hm;clear ht hn hm;dsimp only)
    refine hK.out _ _ (.inr ?_) (fun u7=> ?_)
    ·first |exact eP.out |exact aw.alloc _ |exact aw
    clear hK K;try simp only[Act.put,q5,q6,q7]
    refine R2 3 (by kernel_rfl) (by rfl) u7 fun K hK aw=> ?_
    (obtain⟨sr,hf⟩:=Ug aw;(try have HT:=aa (HT.out.fr hf (by simp)));(try have HP:=aa (HP.out.fr hf (by simp)));(try have eZ:=aa (bP eZ.out hf));(try have eF:=aa (bE eF.out hf));have qf:=hf.size;have eF:=aa sr;have eP:=aa (aw.ag hf);clear sr;go_simp)
    refine hK.out _ _ (.inr ?_) (fun iS=> ?_)
    ·first |exact eP.out |exact aw.alloc _ |exact aw
    clear hK K;try simp only[Act.put,q5,q6,q7]
    apply TB 1 [(4,[])];kernel_rfl;rfl;· (repeat (apply eH;rfl;rfl;(· intro w bl;go_simp<;>with_reducible rfl);try simp only[Act.put,q5,q6,q7]));exact eG
    exact iS;intro iS;refine R2 5 (by kernel_rfl) (by rfl) iS fun K hK aw=> ?_
    (go_simp)
    refine hK.out _ _ (.inl rfl) (fun u6=> ?_);clear hK K;try simp only[Act.put,q5,q6,q7]
    refine R1 (i:=6) (o:= ?ajz) (by kernel_rfl) (by rfl) ?_;intro K hK;go_simp;refine hK.out _ _ (.inl rfl) (fun vF=> ?_);clear hK K;try simp only[Act.put,q5,q6,q7]
    refine aD (by kernel_rfl) ?_ _;refine NoPanic.normal ?_;have pq:=eP.out.size;obtain⟨L9,lh,li,oe,lj⟩:=aX.make HT.out HP.out vP.out eZ.out eF.out w.heap.size pq (by refine⟨?_,?_,?_,?_,?_,?_,?_,?_,?_,?_⟩<;>((try intro a1);(try intro a2);(try intro a3);(try have b1:=qO.out _ a1);(try have b2:=qO.out _ a2);(try have b3:=kr.out _ a1);(try have b4:=kr.out _ a2);(try have b5:=kr.out _ a3);(try simp only[kB,kz]at *);omega))
    (try simp only[kB,kz]at li lh lj)
    have KG:=fR (w:=w) li oe (eP.out.ag lj) n ke;rw[lh,<-zG.out]at KG;have KG:=aa KG;clear li lh oe pq lj sm mz;by_cases h0:vars<0
    ·obtain rfl :n=0:=by have :=mv.out;omega
     go_wp2_with fail;refine KG.out.mono ?_;rintro e w8 ⟨rfl,hN⟩;have FF:=aa hN;clear hN KG;go_wp2_with fail;go_ret;exact FF.out
    ·have Kp:(0:Int)<=vars:=(by omega)
     by_cases h1:262143<vars
     ·obtain rfl :n=262143:=by have :=mv.out;omega
      go_wp2_with fail;refine KG.out.mono ?_;rintro e w8 ⟨rfl,hN⟩;have FF:=aa hN;clear hN KG;go_wp2_with fail;go_ret;exact FF.out
     ·obtain rfl :vars=(n:Int):=by have :=mv.out;omega
      have yK:(n:Int)<=262143:=(by omega)
      go_wp2_with fail;refine KG.out.mono ?_;rintro e w8 ⟨rfl,hN⟩;have FF:=aa hN;clear hN KG;go_wp2_with fail;go_ret;exact FF.out
   refine aZ.cons (o:= ?ajy) ?U7 ?Zg aZ.nil;case U7=>rfl
   intro K hK
   (obtain⟨sr,hf⟩:=Ug aw;(try have HT:=aa (HT.out.fr hf (by simp)));(try have HP:=aa (HP.out.fr hf (by simp)));(try have eZ:=aa (bP eZ.out hf));(try have eF:=aa (bE eF.out hf));have qf:=hf.size;have eF:=aa sr;have eP:=aa (aw.ag hf);clear sr;go_simp)
   refine hK.out _ _ (.inr ?_) (fun u7=> ?_)
   ·first |exact eP.out |exact aw.alloc _ |exact aw
   clear hK K;try simp only[Act.put,q5,q6,q7]
   refine R2 1 (by kernel_rfl) (by rfl) u7 fun K hK aw=> ?_
   (go_simp;refine(KH.out _).mono ?_;rintro e w5 ⟨hL,rfl,ht,hm,hn,hf⟩;(try have HT:=aa (HT.out.fr hf (by simp)));(try have HP:=aa (HP.out.fr hf (by simp)));(try have eZ:=aa (bP eZ.out hf));(try have eF:=aa (bE eF.out hf));have qf:=hf.size;have eP:=aa (aw.ag hf);have kr:=aa (show ∀k,k∈hL.fp->_/\k<w5.heap.size from fun k hk=>⟨hn k hk,ht.lt k hk⟩);have HP:=aa ht;have vP:=aa hm;clear ht hn hm;dsimp only)
   refine hK.out _ _ (.inr ?_) (fun iS=> ?_)
   ·first |exact eP.out |exact aw.alloc _ |exact aw
   clear hK K;try simp only[Act.put,q5,q6,q7]
   apply TB 1 [(4,[])];kernel_rfl;rfl;· (repeat (apply eH;rfl;rfl;(· intro w bl;go_simp<;>with_reducible rfl);try simp only[Act.put,q5,q6,q7]));exact eG
   exact iS;intro iS;refine R2 5 (by kernel_rfl) (by rfl) iS fun K hK aw=> ?_
   (go_simp)
   refine hK.out _ _ (.inl rfl) (fun u6=> ?_);clear hK K;try simp only[Act.put,q5,q6,q7]
   refine R1 (i:=6) (o:= ?ajx) (by kernel_rfl) (by rfl) ?_;intro K hK;go_simp;refine hK.out _ _ (.inl rfl) (fun vF=> ?_);clear hK K;try simp only[Act.put,q5,q6,q7]
   refine aD (by kernel_rfl) ?_ _;refine NoPanic.normal ?_;have pq:=eP.out.size;obtain⟨L9,lh,li,oe,lj⟩:=aX.make HT.out HP.out vP.out eZ.out eF.out w.heap.size pq (by refine⟨?_,?_,?_,?_,?_,?_,?_,?_,?_,?_⟩<;>((try intro a1);(try intro a2);(try intro a3);(try have b1:=qO.out _ a1);(try have b2:=qO.out _ a2);(try have b3:=kr.out _ a1);(try have b4:=kr.out _ a2);(try have b5:=kr.out _ a3);(try simp only[kB,kz]at *);omega))
   (try simp only[kB,kz]at li lh lj)
   have KG:=fR (w:=w) li oe (eP.out.ag lj) n ke;rw[lh,<-zG.out]at KG;have KG:=aa KG;clear li lh oe pq lj sm mz;by_cases h0:vars<0
   ·obtain rfl :n=0:=by have :=mv.out;omega
    go_wp2_with fail;refine KG.out.mono ?_;rintro e w8 ⟨rfl,hN⟩;have FF:=aa hN;clear hN KG;go_wp2_with fail;go_ret;exact FF.out
   ·have Kp:(0:Int)<=vars:=by omega
    by_cases h1:262143<vars
    ·obtain rfl :n=262143:=by have :=mv.out;omega
     go_wp2_with fail;refine KG.out.mono ?_;rintro e w8 ⟨rfl,hN⟩;have FF:=aa hN;clear hN KG;go_wp2_with fail;go_ret;exact FF.out
    ·obtain rfl :vars=(n:Int):=by have :=mv.out;omega
     have yK:(n:Int)<=262143:=(by omega)
     go_wp2_with fail;refine KG.out.mono ?_;rintro e w8 ⟨rfl,hN⟩;have FF:=aa hN;clear hN KG;go_wp2_with fail;go_ret;exact FF.out
  refine aZ.cons (o:= ?ajw) ?U6 ?Zf aZ.nil;case U6=>rfl
  intro K hK
  (obtain⟨sr,hf⟩:=Ug aw;(try have HT:=aa (HT.out.fr hf (by simp)));(try have HP:=aa (HP.out.fr hf (by simp)));(try have eZ:=aa (bP eZ.out hf));(try have eF:=aa (bE eF.out hf));have qf:=hf.size;have eF:=aa sr;have eP:=aa (aw.ag hf);clear sr;go_simp)
  refine hK.out _ _ (.inr ?_) (fun Nh=> ?_)
  ·first |exact eP.out |exact aw.alloc _ |exact aw
  clear hK K;try simp only[Act.put,q5,q6,q7]
  refine R2 0 (by kernel_rfl) (by rfl) Nh fun K hK aw=> ?_
  (go_simp;refine(KT.out _).mono ?_;rintro e w5 ⟨tL,rfl,ht,hn,hf⟩;(try have HT:=aa (HT.out.fr hf (by simp)));(try have HP:=aa (HP.out.fr hf (by simp)));(try have eZ:=aa (bP eZ.out hf));(try have eF:=aa (bE eF.out hf));have qf:=hf.size;have eP:=aa (aw.ag hf);have qO:=aa (show ∀k,k∈tL.fp->_/\k<w5.heap.size from fun k hk=>⟨hn k hk,ht.lt k hk⟩);have HT:=aa ht;clear ht hn;dsimp only)
  refine hK.out _ _ (.inr ?_) (fun u7=> ?_)
  ·first |exact eP.out |exact aw.alloc _ |exact aw
  clear hK K;try simp only[Act.put,q5,q6,q7]
  refine R2 1 (by kernel_rfl) (by rfl) u7 fun K hK aw=> ?_
  (go_simp;refine(KH.out _).mono ?_;rintro e w5 ⟨hL,rfl,ht,hm,hn,hf⟩;(try have HT:=aa (HT.out.fr hf (by simp)));(try have HP:=aa (HP.out.fr hf (by simp)));(try have eZ:=aa (bP eZ.out hf));(try have eF:=aa (bE eF.out hf));have qf:=hf.size;have eP:=aa (aw.ag hf);have kr:=aa (show ∀k,k∈hL.fp->_/\k<w5.heap.size from fun k hk=>⟨hn k hk,ht.lt k hk⟩);have HP:=aa ht;have vP:=aa hm;clear ht hn hm;dsimp only)
  refine hK.out _ _ (.inr ?_) (fun iS=> ?_)
  ·first |exact eP.out |exact aw.alloc _ |exact aw
  clear hK K;try simp only[Act.put,q5,q6,q7]
  apply TB 1 [(4,[])];kernel_rfl;rfl;· (repeat (apply eH;rfl;rfl;(· intro w bl;go_simp<;>with_reducible rfl);try simp only[Act.put,q5,q6,q7]));exact eG
  exact iS;intro iS;refine R2 5 (by kernel_rfl) (by rfl) iS fun K hK aw=> ?_
  (go_simp)
  refine hK.out _ _ (.inl rfl) (fun u6=> ?_);clear hK K;try simp only[Act.put,q5,q6,q7]
  refine R1 (i:=6) (o:= ?ajv) (by kernel_rfl) (by rfl) ?_;intro K hK;go_simp;refine hK.out _ _ (.inl rfl) (fun vF=> ?_);clear hK K;try simp only[Act.put,q5,q6,q7]
  refine aD (by kernel_rfl) ?_ _;refine NoPanic.normal ?_;have pq:=eP.out.size;obtain⟨L9,lh,li,oe,lj⟩:=aX.make HT.out HP.out vP.out eZ.out eF.out w.heap.size pq (by refine⟨?_,?_,?_,?_,?_,?_,?_,?_,?_,?_⟩<;>((try intro a1);(try intro a2);(try intro a3);(try have b1:=qO.out _ a1);(try have b2:=qO.out _ a2);(try have b3:=kr.out _ a1);(try have b4:=kr.out _ a2);(try have b5:=kr.out _ a3);(try simp only[kB,kz]at *);omega))
  (try simp only[kB,kz]at li lh lj)
  have KG:=fR (w:=w) li oe (eP.out.ag lj) n ke;rw[lh,<-zG.out]at KG;have KG:=aa KG;clear li lh oe pq lj sm mz;by_cases h0:vars<0
  ·obtain rfl :n=0:=by have :=mv.out;omega
   go_wp2_with fail;refine KG.out.mono ?_;rintro e w8 ⟨rfl,hN⟩;have FF:=aa hN;clear hN KG;go_wp2_with fail;go_ret;exact FF.out
  ·have Kp:(0:Int)<=vars:=by omega
   by_cases h1:262143<vars
   ·obtain rfl :n=262143:=by have :=mv.out;omega
    go_wp2_with fail;refine KG.out.mono ?_;rintro e w8 ⟨rfl,hN⟩;have FF:=aa hN;clear hN KG;go_wp2_with fail;go_ret;exact FF.out
   ·obtain rfl :vars=(n:Int):=by have :=mv.out;omega
    have yK:(n:Int)<=262143:=(by omega)
    go_wp2_with fail;refine KG.out.mono ?_;rintro e w8 ⟨rfl,hN⟩;have FF:=aa hN;clear hN KG;go_wp2_with fail;go_ret;exact FF.out
 refine aZ.cons (o:= ?aju) ?U5 ?Ze aZ.nil;case U5=>rfl
 intro K hK
 (obtain⟨sr,hf⟩:=Ug aw;(try have HT:=aa (HT.out.fr hf (by simp)));(try have HP:=aa (HP.out.fr hf (by simp)));(try have eZ:=aa (bP eZ.out hf));(try have eF:=aa (bE eF.out hf));have qf:=hf.size;have eF:=aa sr;have eP:=aa (aw.ag hf);clear sr;go_simp)
 refine hK.out _ _ (.inr ?_) (fun XL=> ?_)
 ·first |exact eP.out |exact aw.alloc _ |exact aw
 clear hK K;try simp only[Act.put,q5,q6,q7]
 have aw:=XL.resolve_left (by decide);refine bJ (rs:=[0,2]) (by kernel_rfl) (by simp) ?_;refine aZ.cons (o:= ?ajt) ?U4 ?Hg ?_;case U4=>rfl
 case Hg=>
  intro K hK
  (go_simp;refine(KT.out _).mono ?_;rintro e w5 ⟨tL,rfl,ht,hn,hf⟩;(try have HT:=aa (HT.out.fr hf (by simp)));(try have HP:=aa (HP.out.fr hf (by simp)));(try have eZ:=aa (bP eZ.out hf));(try have eF:=aa (bE eF.out hf));have qf:=hf.size;have eP:=aa (aw.ag hf);have qO:=aa (show ∀k,k∈tL.fp->_/\k<w5.heap.size from fun k hk=>⟨hn k hk,ht.lt k hk⟩);have HT:=aa ht;clear ht hn;dsimp only)
  refine hK.out _ _ (.inr ?_) (fun Nh=> ?_)
  ·first |exact eP.out |exact aw.alloc _ |exact aw
  clear hK K;try simp only[Act.put,q5,q6,q7]
  have aw:=Nh.resolve_left (by decide);refine bJ (rs:=[1,2]) (by kernel_rfl) (by simp) ?_;refine aZ.cons (o:= ?ajs) ?U3 ?Hf ?_;case U3=>rfl
  case Hf=>
   intro K hK
   (go_simp;refine(KH.out _).mono ?_;rintro e w5 ⟨hL,rfl,ht,hm,hn,hf⟩;(try have HT:=aa (HT.out.fr hf (by simp)));(try have HP:=aa (HP.out.fr hf (by simp)));(try have eZ:=aa (bP eZ.out hf));(try have eF:=aa (bE eF.out hf));have qf:=hf.size;have eP:=aa (aw.ag hf);have kr:=aa (show ∀k,k∈hL.fp->_/\k<w5.heap.size from fun k hk=>⟨hn k hk,ht.lt k hk⟩);have HP:=aa ht;have vP:=aa hm;clear ht hn hm;dsimp only)
   refine hK.out _ _ (.inr ?_) (fun u7=> ?_)
   ·first |exact eP.out |exact aw.alloc _ |exact aw
   clear hK K;try simp only[Act.put,q5,q6,q7]
   refine R2 2 (by kernel_rfl) (by rfl) u7 fun K hK aw=> ?_
   (obtain⟨nO,hf⟩:=Uf aw;(try have HT:=aa (HT.out.fr hf (by simp)));(try have HP:=aa (HP.out.fr hf (by simp)));(try have eZ:=aa (bP eZ.out hf));(try have eF:=aa (bE eF.out hf));have qf:=hf.size;have eZ:=aa nO;have eP:=aa (aw.ag hf);clear nO;go_simp)
   refine hK.out _ _ (.inr ?_) (fun iS=> ?_)
   ·first |exact eP.out |exact aw.alloc _ |exact aw
   clear hK K;try simp only[Act.put,q5,q6,q7]
   apply TB 1 [(4,[])];kernel_rfl;rfl;· (repeat (apply eH;rfl;rfl;(· intro w bl;go_simp<;>with_reducible rfl);try simp only[Act.put,q5,q6,q7]));exact eG
   exact iS;intro iS;refine R2 5 (by kernel_rfl) (by rfl) iS fun K hK aw=> ?_
   (go_simp)
   refine hK.out _ _ (.inl rfl) (fun u6=> ?_);clear hK K;try simp only[Act.put,q5,q6,q7]
   refine R1 (i:=6) (o:= ?ajr) (by kernel_rfl) (by rfl) ?_;intro K hK;go_simp;refine hK.out _ _ (.inl rfl) (fun vF=> ?_);clear hK K;try simp only[Act.put,q5,q6,q7]
   refine aD (by kernel_rfl) ?_ _;refine NoPanic.normal ?_;have pq:=eP.out.size;obtain⟨L9,lh,li,oe,lj⟩:=aX.make HT.out HP.out vP.out eZ.out eF.out w.heap.size pq (by refine⟨?_,?_,?_,?_,?_,?_,?_,?_,?_,?_⟩<;>((try intro a1);(try intro a2);(try intro a3);(try have b1:=qO.out _ a1);(try have b2:=qO.out _ a2);(try have b3:=kr.out _ a1);(try have b4:=kr.out _ a2);(try have b5:=kr.out _ a3);(try simp only[kB,kz]at *);omega))
   (try simp only[kB,kz]at li lh lj)
   have KG:=fR (w:=w) li oe (eP.out.ag lj) n ke;rw[lh,<-zG.out]at KG;have KG:=aa KG;clear li lh oe pq lj sm mz;by_cases h0:vars<0
   ·obtain rfl :n=0:=by have :=mv.out;omega
    go_wp2_with fail;refine KG.out.mono ?_;rintro e w8 ⟨rfl,hN⟩;have FF:=aa hN;clear hN KG;go_wp2_with fail;go_ret;exact FF.out
   ·have Kp:(0:Int)<=vars:=by omega
    by_cases h1:262143<vars
    ·obtain rfl :n=262143:=by have :=mv.out;omega
     go_wp2_with fail;refine KG.out.mono ?_;rintro e w8 ⟨rfl,hN⟩;have FF:=aa hN;clear hN KG;go_wp2_with fail;go_ret;exact FF.out
    ·obtain rfl :vars=(n:Int):=by have :=mv.out;omega
     have yK:(n:Int)<=262143:=(by omega)
     go_wp2_with fail;refine KG.out.mono ?_;rintro e w8 ⟨rfl,hN⟩;have FF:=aa hN;clear hN KG;go_wp2_with fail;go_ret;exact FF.out
  refine aZ.cons (o:= ?ajq) ?U2 ?Zd aZ.nil;case U2=>rfl
  intro K hK
  (obtain⟨nO,hf⟩:=Uf aw;(try have HT:=aa (HT.out.fr hf (by simp)));(try have HP:=aa (HP.out.fr hf (by simp)));(try have eZ:=aa (bP eZ.out hf));(try have eF:=aa (bE eF.out hf));have qf:=hf.size;have eZ:=aa nO;have eP:=aa (aw.ag hf);clear nO;go_simp)
  refine hK.out _ _ (.inr ?_) (fun u7=> ?_)
  ·first |exact eP.out |exact aw.alloc _ |exact aw
  clear hK K;try simp only[Act.put,q5,q6,q7]
  refine R2 1 (by kernel_rfl) (by rfl) u7 fun K hK aw=> ?_
  (go_simp;refine(KH.out _).mono ?_;rintro e w5 ⟨hL,rfl,ht,hm,hn,hf⟩;(try have HT:=aa (HT.out.fr hf (by simp)));(try have HP:=aa (HP.out.fr hf (by simp)));(try have eZ:=aa (bP eZ.out hf));(try have eF:=aa (bE eF.out hf));have qf:=hf.size;have eP:=aa (aw.ag hf);have kr:=aa (show ∀k,k∈hL.fp->_/\k<w5.heap.size from fun k hk=>⟨hn k hk,ht.lt k hk⟩);have HP:=aa ht;have vP:=aa hm;clear ht hn hm;dsimp only)
  refine hK.out _ _ (.inr ?_) (fun iS=> ?_)
  ·first |exact eP.out |exact aw.alloc _ |exact aw
  clear hK K;try simp only[Act.put,q5,q6,q7]
  apply TB 1 [(4,[])];kernel_rfl;rfl;· (repeat (apply eH;rfl;rfl;(· intro w bl;go_simp<;>with_reducible rfl);try simp only[Act.put,q5,q6,q7]));exact eG
  exact iS;intro iS;refine R2 5 (by kernel_rfl) (by rfl) iS fun K hK aw=> ?_
  (go_simp)
  refine hK.out _ _ (.inl rfl) (fun u6=> ?_);clear hK K;try simp only[Act.put,q5,q6,q7]
  refine R1 (i:=6) (o:= ?ajp) (by kernel_rfl) (by rfl) ?_;intro K hK;go_simp;refine hK.out _ _ (.inl rfl) (fun vF=> ?_);clear hK K;try simp only[Act.put,q5,q6,q7]
  refine aD (by kernel_rfl) ?_ _;refine NoPanic.normal ?_;have pq:=eP.out.size;obtain⟨L9,lh,li,oe,lj⟩:=aX.make HT.out HP.out vP.out eZ.out eF.out w.heap.size pq (by refine⟨?_,?_,?_,?_,?_,?_,?_,?_,?_,?_⟩<;>((try intro a1);(try intro a2);(try intro a3);(try have b1:=qO.out _ a1);(try have b2:=qO.out _ a2);(try have b3:=kr.out _ a1);(try have b4:=kr.out _ a2);(try have b5:=kr.out _ a3);(try simp only[kB,kz]at *);omega))
  (try simp only[kB,kz]at li lh lj)
  have KG:=fR (w:=w) li oe (eP.out.ag lj) n ke;rw[lh,<-zG.out]at KG;have KG:=aa KG;clear li lh oe pq lj sm mz;by_cases h0:vars<0
  ·obtain rfl :n=0:=by have :=mv.out;omega
   go_wp2_with fail;refine KG.out.mono ?_;rintro e w8 ⟨rfl,hN⟩;have FF:=aa hN;clear hN KG;go_wp2_with fail;go_ret;exact FF.out
  ·have Kp:(0:Int)<=vars:=by omega
   by_cases h1:262143<vars
   ·obtain rfl :n=262143:=by have :=mv.out;omega
    go_wp2_with fail;refine KG.out.mono ?_;rintro e w8 ⟨rfl,hN⟩;have FF:=aa hN;clear hN KG;go_wp2_with fail;go_ret;exact FF.out
   ·obtain rfl :vars=(n:Int):=by have :=mv.out;omega
    have yK:(n:Int)<=262143:=(by omega)
    go_wp2_with fail;refine KG.out.mono ?_;rintro e w8 ⟨rfl,hN⟩;have FF:=aa hN;clear hN KG;go_wp2_with fail;go_ret;exact FF.out
 refine aZ.cons (o:= ?ajo) ?U1 ?Zc aZ.nil;case U1=>rfl
 intro K hK
 (obtain⟨nO,hf⟩:=Uf aw;(try have HT:=aa (HT.out.fr hf (by simp)));(try have HP:=aa (HP.out.fr hf (by simp)));(try have eZ:=aa (bP eZ.out hf));(try have eF:=aa (bE eF.out hf));have qf:=hf.size;have eZ:=aa nO;have eP:=aa (aw.ag hf);clear nO;go_simp)
 refine hK.out _ _ (.inr ?_) (fun Nh=> ?_)
 ·first |exact eP.out |exact aw.alloc _ |exact aw
 clear hK K;try simp only[Act.put,q5,q6,q7]
 refine R2 0 (by kernel_rfl) (by rfl) Nh fun K hK aw=> ?_
 (go_simp;refine(KT.out _).mono ?_;rintro e w5 ⟨tL,rfl,ht,hn,hf⟩;(try have HT:=aa (HT.out.fr hf (by simp)));(try have HP:=aa (HP.out.fr hf (by simp)));(try have eZ:=aa (bP eZ.out hf));(try have eF:=aa (bE eF.out hf));have qf:=hf.size;have eP:=aa (aw.ag hf);have qO:=aa (show ∀k,k∈tL.fp->_/\k<w5.heap.size from fun k hk=>⟨hn k hk,ht.lt k hk⟩);have HT:=aa ht;clear ht hn;dsimp only)
 refine hK.out _ _ (.inr ?_) (fun u7=> ?_)
 ·first |exact eP.out |exact aw.alloc _ |exact aw
 clear hK K;try simp only[Act.put,q5,q6,q7]
 refine R2 1 (by kernel_rfl) (by rfl) u7 fun K hK aw=> ?_
 (go_simp;refine(KH.out _).mono ?_;rintro e w5 ⟨hL,rfl,ht,hm,hn,hf⟩;(try have HT:=aa (HT.out.fr hf (by simp)));(try have HP:=aa (HP.out.fr hf (by simp)));(try have eZ:=aa (bP eZ.out hf));(try have eF:=aa (bE eF.out hf));have qf:=hf.size;have eP:=aa (aw.ag hf);have kr:=aa (show ∀k,k∈hL.fp->_/\k<w5.heap.size from fun k hk=>⟨hn k hk,ht.lt k hk⟩);have HP:=aa ht;have vP:=aa hm;clear ht hn hm;dsimp only)
 refine hK.out _ _ (.inr ?_) (fun iS=> ?_)
 ·first |exact eP.out |exact aw.alloc _ |exact aw
 clear hK K;try simp only[Act.put,q5,q6,q7]
 apply TB 1 [(4,[])];kernel_rfl;rfl;· (repeat (apply eH;rfl;rfl;(· intro w bl;go_simp<;>with_reducible rfl);try simp only[Act.put,q5,q6,q7]));exact eG
 exact iS;intro iS;refine R2 5 (by kernel_rfl) (by rfl) iS fun K hK aw=> ?_
 (go_simp)
 refine hK.out _ _ (.inl rfl) (fun u6=> ?_);clear hK K;try simp only[Act.put,q5,q6,q7]
 refine R1 (i:=6) (o:= ?ajn) (by kernel_rfl) (by rfl) ?_;intro K hK;go_simp;refine hK.out _ _ (.inl rfl) (fun vF=> ?_);clear hK K;try simp only[Act.put,q5,q6,q7]
 refine aD (by kernel_rfl) ?_ _;refine NoPanic.normal ?_;have pq:=eP.out.size;obtain⟨L9,lh,li,oe,lj⟩:=aX.make HT.out HP.out vP.out eZ.out eF.out w.heap.size pq (by refine⟨?_,?_,?_,?_,?_,?_,?_,?_,?_,?_⟩<;>((try intro a1);(try intro a2);(try intro a3);(try have b1:=qO.out _ a1);(try have b2:=qO.out _ a2);(try have b3:=kr.out _ a1);(try have b4:=kr.out _ a2);(try have b5:=kr.out _ a3);(try simp only[kB,kz]at *);omega))
 (try simp only[kB,kz]at li lh lj)
 have KG:=fR (w:=w) li oe (eP.out.ag lj) n ke;rw[lh,<-zG.out]at KG;have KG:=aa KG;clear li lh oe pq lj sm mz;by_cases h0:vars<0
 ·obtain rfl :n=0:=by have :=mv.out;omega
  go_wp2_with fail;refine KG.out.mono ?_;rintro e w8 ⟨rfl,hN⟩;have FF:=aa hN;clear hN KG;go_wp2_with fail;go_ret;exact FF.out
 ·have Kp:(0:Int)<=vars:=by omega
  by_cases h1:262143<vars
  ·obtain rfl :n=262143:=by have :=mv.out;omega
   go_wp2_with fail;refine KG.out.mono ?_;rintro e w8 ⟨rfl,hN⟩;have FF:=aa hN;clear hN KG;go_wp2_with fail;go_ret;exact FF.out
  ·obtain rfl :vars=(n:Int):=by have :=mv.out;omega
   have yK:(n:Int)<=262143:=by omega
   go_wp2_with fail;refine KG.out.mono ?_;rintro e w8 ⟨rfl,hN⟩;have FF:=aa hN;clear hN KG;go_wp2_with fail;go_ret;exact FF.out
theorem TRep.canon {T:Tr}{vars:Nat}{R:List St}{d:Nat}(h:TRep T vars R d):R=T.lits.map fun x=>(⟨x,T.dp (tv x),T.fy (tv x)⟩:St):=by
 rw[h.lits,List.map_map];have :∀e∈R,((fun x=>(⟨x,T.dp (tv x),T.fy (tv x)⟩:St))∘fun e:St=>e.x) e=e:=fun e he=>by simp only[Function.comp_apply];rw[h.dp,h.fy,im h.nd he]
 exact(List.map_id R).symm.trans (List.map_congr_left fun e he=>(this e he).symm)
namespace Sv
def R (S:Sv):List St:=S.T.lits.map fun x=>(⟨x,S.T.dp (tv x),S.T.fy (tv x)⟩:St)
theorem Ok.rep {S:Sv}{m:Nat}(ok:S.Ok m):TRep S.T S.vars S.R S.T.levels.length:=by obtain⟨R,hR⟩:=ok.tr;have :=hR.canon;unfold Sv.R;rw[<-this];exact hR
theorem jn (S:Sv):S.R.length=S.T.lits.length:=by simp[R]
theorem Wd {S:Sv}{R:List St}{d:Nat}(h:TRep S.T S.vars R d):S.R=R:=h.canon.symm
theorem dJ {S S':Sv}(h:S'.T=S.T):S'.R=S.R:=by unfold R;rw[h]
theorem fK {S:Sv}{m:Nat}(ok:S.Ok m)(x:Int):0<S.val x↔∃e∈S.R,e.x=x:=by
 have h:=ok.rep;unfold val;rw[h.lB];cases hk:look S.R (tv x)with
 |none=>
  simp only[Int.lt_irrefl,false_iff];rintro⟨e,he,rfl⟩;exact pQ hk e he rfl
 |some e=>
  obtain⟨h1,h2⟩:=iN hk;simp only;constructor
  ·intro h3;split at h3
   ·rename_i h4;exact⟨e,h1,h4⟩
   ·omega
  ·rintro⟨e',eK,rfl⟩;rw[im h.nd eK]at hk;cases hk;rw[aae rfl];omega
theorem gP {S:Sv}{m:Nat}(ok:S.Ok m)(x:Int):S.val x=0\/S.val x=1\/S.val x= -1:=by
 have h:=ok.rep;unfold val;rw[h.lB];cases look S.R (tv x)with
 |none=>exact .inl rfl
 |some e=>
  simp only;split
  ·exact .inr (.inl rfl)
  ·exact .inr (.inr rfl)
theorem TJ {x y:Int}(h:tv x=tv y)(h1:1<=tv x):x=y\/x= -y:=by
 unfold tv at h h1;split at h1
 ·omega
 ·rename_i e1;rw[aac e1]at h;split at h
  ·split at h
   ·omega
   ·split at h<;>omega
  ·split at h
   ·omega
   ·split at h<;>omega
theorem AX (x:Int)(h:1<=tv x)(h2:tv x<=4611686018427387904):tv (-x)=tv x:=by
 have h3:x=tv x\/x= -tv x:=by
  unfold tv at *;split at h
  ·omega
  ·rename_i e1;rw[aac e1];split at h
   ·rename_i e2;rw[aae e2];omega
   ·rename_i e2;rw[aac e2];omega
 generalize tv x=t at *;rcases h3 with rfl |rfl
 ·rw[qV (by omega) (by omega)];omega
 ·rw[Int.neg_neg,ni (by omega)]
theorem gM {S:Sv}{m:Nat}(ok:S.Ok m){e:St}(he:e∈S.R):1<=tv e.x/\tv e.x<=S.vars/\0<=e.l/\e.l<=S.T.levels.length:=by have :=ok.rep.bound e he;exact⟨this.2.2.1,this.2.2.2,this.1,this.2.1⟩
theorem val_neg {S:Sv}{m:Nat}(ok:S.Ok m){x:Int}:S.val x<0↔∃e∈S.R,e.x= -x:=by
 have h:=ok.rep;have lx:=ok.vl;have Ol:∀e∈S.R,e.x= -x->tv e.x=tv x:=fun e he hx=>by have hb:=h.bound e he;have :=AX e.x hb.2.2.1 (by omega);rw[<-this,hx,Int.neg_neg]
 unfold val;rw[h.lB];cases hk:look S.R (tv x)with
 |none=>
  simp only[Int.lt_irrefl,false_iff];rintro⟨e,he,hx⟩;exact pQ hk e he (Ol e he hx)
 |some e=>
  obtain⟨h1,h2⟩:=iN hk;have hb:=h.bound e h1;simp only;constructor
  ·intro h3;split at h3
   ·omega
   ·rename_i h4;rcases TJ h2 hb.2.2.1 with h5 |h5
    ·exact absurd h5 h4
    ·exact⟨e,h1,h5⟩
  ·rintro⟨e',eK,hx⟩;have h7:=Ol e' eK hx;have h8:=im h.nd eK;rw[h7,hk]at h8;cases h8;rw[aac (by
    intro h9;rw[hx]at h9;have h10:x=0:=(by omega)
    have h11:=hb.2.2.1;rw[hx,h10,ni (by omega)]at h11;omega)]
   omega
theorem ld {S:Sv}{m:Nat}(ok:S.Ok m){e:St}(he:e∈S.R):S.T.dp (tv e.x)=e.l/\S.T.fy (tv e.x)=e.r:=by have h:=ok.rep;rw[h.dp,h.fy,im h.nd he];exact⟨rfl,rfl⟩
theorem ol {S:Sv}{m:Nat}(ok:S.Ok m){x r:Int}(hb:S.T.ij x=true):(S.put x r).R=S.R++[⟨x,S.T.levels.length,r⟩]:=by
 have h:=ok.rep.put x r hb;have e:(S.put x r).T=S.T.pb x r:=by unfold put;simp only;rw[aae hb]
 have :TRep (S.put x r).T (S.put x r).vars (S.R++[⟨x,S.T.levels.length,r⟩]) S.T.levels.length:=by rw[e];exact h
 exact Wd this
theorem i9 {S:Sv}{m:Nat}(ok:S.Ok m){x:Int}(h1:1<=tv x)(h2:tv x<=S.vars)(hv:S.val x=0):S.T.ij x=true:=by
 have h:=ok.rep;rw[h.ij];simp only[ax,aal,Option.isNone_iff_eq_none];refine⟨⟨h1,h2⟩,?_⟩;unfold val at hv;rw[h.lB]at hv;cases hk:look S.R (tv x)with
 |none=>rfl
 |some e=>
  rw[hk]at hv;simp only at hv;split at hv<;>omega
theorem rB {S:Sv}{m:Nat}(ok:S.Ok m):S.deep.R=S.R:=by have h:=ok.rep.deep;exact Wd (S:=S.deep) h
theorem aaM {S:Sv}{m:Nat}(ok:S.Ok m)(level:Nat)(hl:level<S.T.levels.length):(S.back level).R=S.R.filter (fun e:St=>decide (e.l<=(level:Int))):=by
 have h:=ok.rep.back level hl;have hq:=jG (level:Int) S.T.lits.reverse S m ok;have e:(S.back level).T=S.T.df level/\(S.back level).vars=S.vars:=by unfold back;rw[aac (by omega)];exact⟨by simp only;rw[hq.2.1],hq.2.2.2.1⟩
 refine Wd (d:=level) ?_;rw[e.1,e.2];exact h
end Sv
def mD (a:Nat->Bool)(x:Int):Prop:=(a x.natAbs=true↔0<x)
theorem mD.neg {a:Nat->Bool}{x:Int}(h:x≠0):mD a (-x)↔¬mD a x:=by
 unfold mD;have h2:(0< -x)↔¬0<x:=by omega
 rw[Int.natAbs_neg,h2];cases a x.natAbs<;>by_cases hp:0<x<;>simp[hp]
def lG (a:Nat->Bool)(l:List Int):Prop:=∃y∈l,mD a y
namespace Sv
def Rsn (S:Sv):Prop:=∀A e B,S.R=A++e::B->e.r≠0->∃n:Nat,e.r=(n:Int)+1/\∃ls,(S.rc n).lits=e.x::ls/\∀y∈ls,∃e'∈A,e'.x= -y
def Dec (S:Sv):Prop:=∀A e B,S.R=A++e::B->e.r=0->e.l=0\/∀e'∈A,e'.l<e.l
def Hd (S:Sv):Prop:=∀e∈S.R.drop S.head,e.l=S.T.levels.length
def Jv (S:Sv)(n:Nat):Prop:=(∀y∈(S.rc n).lits,∃e∈S.R,e.x= -y)/\∃y∈(S.rc n).lits,∃e∈S.R,e.x= -y/\e.l=S.T.levels.length
def Good (S:Sv)(a:Nat->Bool):Prop:=(∀n:Nat,(S.rc n).lits≠[]->lG a (S.rc n).lits)/\∀e∈S.R,e.l=0->mD a e.x
def iW (d:Int)(seen:List Int)(Q:List St):Nat:=Q.countP fun e=>decide (e.l=d)&&decide (tv e.x∈seen)
theorem E3 {d:Int}{seen:List Int}{Q:List St}{v:Int}(h:∀e∈Q,tv e.x=v->e.l≠d):iW d (v::seen) Q=iW d seen Q:=by
 unfold iW;apply List.countP_congr;intro e he;by_cases hv:tv e.x=v
 ·simp[h e he hv]
 ·simp[hv]
theorem KJ {d:Int}{seen:List Int}{v:Int}:∀{Q:List St},(Q.map fun e:St=>tv e.x).Nodup->v∉seen->(∃e∈Q,tv e.x=v/\e.l=d)->iW d (v::seen) Q=iW d seen Q+1
 |[],_,_,h=>by obtain⟨e,he,_⟩:=h;cases he
 |e::Q,hn,hv,h=>by
  rw[cj,fG]at hn;by_cases he:tv e.x=v
  ·have hl:e.l=d:=by
    obtain⟨e',eK,h1,h2⟩:=h;rcases av.1 eK with rfl |eK
    ·exact h2
    ·exact absurd (by rw[he,<-h1];exact List.mem_map_of_mem (f:=fun e:St=>tv e.x) eK) hn.1
   have h0:iW d (v::seen) Q=iW d seen Q:=E3 (fun e' eK h1=>absurd (by rw[he,<-h1];exact List.mem_map_of_mem (f:=fun e:St=>tv e.x) eK) hn.1);unfold iW at *;rw[List.countP_cons,List.countP_cons,h0];simp[hl,he,hv]
  ·have ih:=KJ (d:=d) hn.2 hv (by
    obtain⟨e',eK,h1,h2⟩:=h;rcases av.1 eK with rfl |eK
    ·exact absurd h1 he
    ·exact⟨e',eK,h1,h2⟩)
   unfold iW at *;rw[List.countP_cons,List.countP_cons,ih];simp only[av,he,false_or];omega
theorem Kz {d:Int}{seen:List Int}{Q:List St}(h:0<iW d seen Q):∃e∈Q,e.l=d/\tv e.x∈seen:=by unfold iW at h;rw[List.countP_pos_iff]at h;obtain⟨e,he,h1⟩:=h;simp only[ax,aal]at h1;exact⟨e,he,h1⟩
structure LI (S:Sv)(d:Int)(G:Gr)(Q D:List St):Prop where
 split:S.R=Q.reverse++D
 T:G.S.T=S.T
 lits:∀m,(G.S.rc m).lits=(S.rc m).lits
 fP:G.fP=(iW d G.seen Q:Nat)
 jr:∀y∈G.bt.tail,tv y∈G.seen/\∃e∈S.R,e.x= -y/\1<=e.l/\e.l<d
 low:∀e∈S.R,tv e.x∈G.seen->e.l<d-> -e.x∈G.bt.tail
 nd:(G.bt.tail.map tv).Nodup
 l0:0<G.bt.length
 pos:∀e∈S.R,tv e.x∈G.seen->1<=e.l
theorem mt {S:Sv}{m:Nat}(ok:S.Ok m){e e':St}(h:e∈S.R)(h':e'∈S.R)(ht:tv e.x=tv e'.x):e=e':=by have h1:=im ok.rep.nd h;have h2:=im ok.rep.nd h';rw[ht,h2]at h1;cases h1;rfl
theorem kd {S:Sv}{m:Nat}(ok:S.Ok m){e:St}(h:e∈S.R){y:Int}(hy:e.x= -y):tv y=tv e.x/\y= -e.x:=by
 have hb:=gM ok h;have hv:=ok.vl;have :y= -e.x:=by omega
 exact⟨by rw[this];exact AX _ hb.1 (by omega),this⟩
theorem LI.meet {S:Sv}{m:Nat}(ok:S.Ok m){G:Gr}{Q D:List St}(h:LI S S.T.levels.length G Q D){y:Int}{e:St}(he:e∈Q)(hy:e.x= -y):
  LI S S.T.levels.length (meet G y) Q D/\(∀v∈G.seen,v∈(meet G y).seen)/\(e.l<=0\/tv y∈(meet G y).seen)/\(∀z∈G.bt.tail,z∈(meet G y).bt.tail):=by
 have hR:e∈S.R:=by rw[h.split];exact an _ (dK.2 he)
 obtain⟨ht,hy'⟩:=kd ok hR hy;have hl:=(ld ok hR).1;have Tk:=gM ok hR;by_cases h1:tv y∈G.seen\/G.S.T.dp (tv y)<=0
 ·rw[jK h1];refine⟨h,fun v hv=>hv,?_,fun z hz=>hz⟩;rcases h1 with h1 |h1
  ·exact .inr h1
  ·left
   rw[h.T,ht,hl]at h1;exact h1
 ·have Kd:tv y∉G.seen:=fun e=>h1 (.inl e);have hp:1<=e.l:=by have :¬G.S.T.dp (tv y)<=0:=fun e=>h1 (.inr e);rw[h.T,ht,hl]at this;omega
  have sj:∀e'∈S.R,tv e'.x∈tv y::G.seen->1<=e'.l:=fun e' eK hs=>by
   rcases av.1 hs with hs |hs
   ·rw[ht]at hs;rw[mt ok eK hR hs];exact hp
   ·exact h.pos e' eK hs
  have akx:(Q.map fun e:St=>tv e.x).Nodup:=by have h5:=ok.rep.nd;rw[h.split,bH,List.nodup_append,List.map_reverse]at h5;have h6:=h5.1;unfold List.Nodup at h6⊢;rw[List.pairwise_reverse]at h6;exact h6.imp (fun h e=>h e.symm)
  by_cases h2:G.S.T.dp (tv y)=G.S.T.levels.length
  ·rw[gT h1 h2];have M6:e.l=S.T.levels.length:=by rw[h.T,ht,hl]at h2;exact h2
   refine⟨⟨h.split,h.T,h.lits,?_,fun z hz=>⟨aY _ (h.jr z hz).1,(h.jr z hz).2⟩,fun e' eK hs bw=> ?_,h.nd,h.l0,sj⟩,fun v hv=>aY _ hv, .inr bD,fun z hz=>hz⟩
   ·show G.fP+1=_;rw[KJ akx Kd ⟨e,he,ht.symm,M6⟩,h.fP];rfl
   ·rcases av.1 hs with hs |hs
    ·rw[ht]at hs;rw[mt ok eK hR hs]at bw;omega
    ·exact h.low e' eK hs bw
  ·rw[jb h1 h2];have M6:e.l≠S.T.levels.length:=by rw[h.T,ht,hl]at h2;exact h2
   have Mp:(G.bt++[y]).tail=G.bt.tail++[y]:=Dl h.l0;refine⟨⟨h.split,h.T,h.lits,?_,fun z hz=> ?_,fun e' eK hs bw=> ?_,?_,by simp,sj⟩,fun v hv=>aY _ hv, .inr bD,fun z hz=> ?_⟩
   ·show G.fP=_;rw[E3,h.fP];intro e' eK hs;rw[ht]at hs;rw[mt ok (by rw[h.split];exact an _ (dK.2 eK)) hR hs];exact M6
   ·have hz:z∈(G.bt++[y]).tail:=hz;rw[Mp]at hz;rcases ah.1 hz with hz |hz
    ·exact⟨aY _ (h.jr z hz).1,(h.jr z hz).2⟩
    ·rw[ai.1 hz];exact⟨bD,e,hR,hy,hp,by omega⟩
   ·show -e'.x∈(G.bt++[y]).tail;rw[Mp];rcases av.1 hs with hs |hs
    ·rw[ht]at hs;rw[mt ok eK hR hs,<-hy'];simp
    ·exact an _ (h.low e' eK hs bw)
   ·show((G.bt++[y]).tail.map tv).Nodup;rw[Mp,bH,List.nodup_append];refine⟨h.nd,by simp,fun a ha b hb=> ?_⟩;rw[aG]at ha;obtain⟨z,hz,rfl⟩:=ha;simp only[cj,dv,ai]at hb;rw[hb];intro e9;exact Kd (by rw[<-e9];exact(h.jr z hz).1)
   ·show z∈(G.bt++[y]).tail;rw[Mp];exact an _ hz
theorem LI.meets {S:Sv}{m:Nat}(ok:S.Ok m){Q D:List St}(skip:Int):∀(ls:List Int) (G:Gr),LI S S.T.levels.length G Q D->(∀y∈ls,y≠skip->∃e∈Q,e.x= -y)->
  LI S S.T.levels.length (meets skip ls G) Q D/\(∀v∈G.seen,v∈(meets skip ls G).seen)/\(∀y∈ls,y≠skip->∀e∈Q,e.x= -y->e.l<=0\/tv y∈(meets skip ls G).seen)/\(∀z∈G.bt.tail,z∈(meets skip ls G).bt.tail)
 |[],G,h,_=>⟨h,fun v hv=>hv,(fun y hy=>by cases hy),fun z hz=>hz⟩
 |y::r,G,h,hl=>by
  rw[Sv.meets];by_cases hs:y≠skip
  ·rw[aae hs];obtain⟨e,he,hy⟩:=hl y bD hs;obtain⟨h1,h2,h3,h4⟩:=h.meet ok he hy;obtain⟨k1,k2,k3,k4⟩:=LI.meets ok skip r _ h1 (fun z hz=>hl z (aY _ hz));refine⟨k1,fun v hv=>k2 v (h2 v hv),fun z hz y9 e' eK hz'=> ?_,fun z hz=>k4 z (h4 z hz)⟩;rcases av.1 hz with rfl |hz
   ·have :e'=e:=by have h5:=kd ok (by rw[h.split];exact an _ (dK.2 he)) hy;have h6:=kd ok (by rw[h.split];exact an _ (dK.2 eK)) hz';exact mt ok (by rw[h.split];exact an _ (dK.2 eK)) (by rw[h.split];exact an _ (dK.2 he)) (h6.1.symm.trans h5.1)
    rw[this];exact h3.imp id (fun h5=>k2 _ h5)
   ·exact k3 z hz y9 e' eK hz'
  ·rw[aac hs];obtain⟨k1,k2,k3,k4⟩:=LI.meets ok skip r _ h (fun z hz=>hl z (aY _ hz));refine⟨k1,k2,fun z hz y9=> ?_,k4⟩;rcases av.1 hz with rfl |hz
   ·exact absurd y9 hs
   ·exact k3 z hz y9
def Sm (d:Int)(G:Gr)(Q:List St)(a:Nat->Bool):Prop:=(∃y∈G.bt.tail,mD a y)\/∃e∈Q,e.l=d/\tv e.x∈G.seen/\¬mD a e.x
structure anP (S:Sv)(GE:Gr)(xe:Int):Prop where
 T:GE.S.T=S.T
 lits:∀m,(GE.S.rc m).lits=(S.rc m).lits
 jr:∀y∈GE.bt.tail,∃e∈S.R,e.x= -y/\1<=e.l/\e.l<S.T.levels.length
 nd:(GE.bt.tail.map tv).Nodup
 l0:0<GE.bt.length
 top:∃e∈S.R,e.x=xe/\e.l=S.T.levels.length
 sem:∀a,S.Good a->(∃y∈GE.bt.tail,mD a y)\/¬mD a xe
theorem uj {S:Sv}{m:Nat}(ok:S.Ok m)(hr:S.Rsn)(hd:S.Dec):∀(f:Nat) (G:Gr) (n:Nat) (skip:Int) (Q D:List St),Q.length<f->LI S S.T.levels.length G Q D->
  (∀y∈(S.rc n).lits,y≠skip->∃e∈Q,e.x= -y)->(0<iW S.T.levels.length G.seen Q\/(0<S.T.levels.length/\∃y∈(S.rc n).lits,y≠skip/\∃e∈Q,e.x= -y/\e.l=S.T.levels.length))->
  (∀a,S.Good a->Sm S.T.levels.length G Q a\/∃y∈(S.rc n).lits,y≠skip/\mD a y)->
  ∃GE xe,eR f G n skip (Q.map (·.x))=some (GE,xe)/\anP S GE xe
 |0,_,_,_,_,_,h,_,_,_,_=>absurd h (aI _)
 |f+1,G,n,skip,Q,D,hf,h,hc,hp,hs=>by
  rw[jz];have e1:dA G (n:Int) skip=meets skip (S.rc n).lits { G with S:=G.S.gK n }:=by unfold dA;rw[aae (by omega),Int.toNat_natCast,h.lits]
  have h0:LI S S.T.levels.length { G with S:=G.S.gK n } Q D:=⟨h.split,h.T,fun k=>(o9 G.S n k).1.trans (h.lits k),h.fP,h.jr,h.low,h.nd,h.l0,h.pos⟩
  obtain⟨g1,g2,g3,g4⟩:=h0.meets ok skip (S.rc n).lits _ hc;rw[e1];generalize meets skip (S.rc n).lits { G with S:=G.S.gK n }=G1 at g1 g2 g3 g4;have Ke:∀(A:List St),iW S.T.levels.length G.seen A<=iW S.T.levels.length G1.seen A:=fun A=>by unfold iW;apply List.countP_mono_left;intro e _ h5;simp only[ax,aal]at h5⊢;exact⟨h5.1,g2 _ h5.2⟩
  have sj:0<iW S.T.levels.length G1.seen Q:=by
   rcases hp with hp |⟨hd0,y,hy,Oe,e,he,up,M6⟩
   ·have :=Ke Q;omega
   ·unfold iW;rw[List.countP_pos_iff];refine⟨e,he,?_⟩;simp only[ax,aal];refine⟨M6,?_⟩;have h5:=g3 y hy Oe e he up;rw[(kd ok (by rw[h.split];exact an _ (dK.2 he)) up).1]at h5;rcases h5 with h5 |h5
    ·omega
    ·exact h5
  have Mw:∀a,S.Good a->Sm S.T.levels.length G1 Q a:=fun a ha=>by
   rcases hs a ha with h5 |⟨y,hy,Oe,J5⟩
   ·rcases h5 with⟨y,hy,J5⟩ |⟨e,he,M6,hes,het⟩
    ·exact .inl ⟨y,g4 y hy,J5⟩
    ·exact .inr ⟨e,he,M6,g2 _ hes,het⟩
   ·obtain⟨e,he,up⟩:=hc y hy Oe;have hR:e∈S.R:=by rw[h.split];exact an _ (dK.2 he)
    obtain⟨ht,hy'⟩:=kd ok hR up;have Tk:=gM ok hR;have dS:e.x≠0:=AW Tk.1;have hef:¬mD a e.x:=by have :=(mD.neg (a:=a) dS).1 (by rw[<-hy'];exact J5);exact this
    rcases g3 y hy Oe e he up with h5 |h5
    ·exact absurd (ha.2 e hR (by omega)) hef
    ·rw[ht]at h5;by_cases M6:e.l<S.T.levels.length
     ·left
      have :=g1.low e hR h5 M6;rw[<-hy']at this;exact⟨y,this,J5⟩
     ·exact .inr ⟨e,he,by omega,h5,hef⟩
  --Yu last one acH oE seen
  obtain⟨em,XF,aeD,aeC⟩:=Kz sj;have hex:∃P e0 Q',Q=P++e0::Q'/\(∀e∈P,tv e.x∉G1.seen)/\tv e0.x∈G1.seen:=by
   clear Ke sj Mw hs hp hc h0 g1 g3 g4 e1 hf h aeD;induction Q with
   |nil=>cases XF
   |cons e Q ih=>
    by_cases he:tv e.x∈G1.seen
    ·exact⟨[],e,Q,rfl,(fun _ h=>by cases h),he⟩
    ·rcases av.1 XF with rfl |XF
     ·exact absurd aeC he
     ·obtain⟨P,e0,Q',h1,h2,h3⟩:=ih XF;exact⟨e::P,e0,Q',by rw[h1];rfl,fun e' eK=>by
       rcases av.1 eK with rfl |eK
       ·exact he
       ·exact h2 e' eK,h3⟩
  obtain⟨P,e0,Q',hQ,hP,qI⟩:=hex;have hdw:(Q.map (·.x)).dropWhile (fun x=>decide (tv x∉G1.seen))=e0.x::Q'.map (·.x):=by
   rw[hQ,bH,cj];clear hQ;induction P with
   |nil=>rw[dv,List.nil_append,List.dropWhile_cons,aac (by simpa using qI)]
   |cons e P ih=>
    rw[cj,List.cons_append,List.dropWhile_cons,aae (by simpa using hP e bD)];exact ih (fun e' eK=>hP e' (aY _ eK))
  have hR0:S.R=Q'.reverse++e0::(P.reverse++D):=by rw[h.split,hQ];simp
  have VC:e0∈S.R:=by rw[hR0];simp
  have J9:=ok.rep.sorted;rw[hR0]at J9;have akJ:∀e∈Q',e.l<=e0.l:=fun e he=>(List.pairwise_append.1 J9).2.2 e (dK.2 he) e0 bD;have aeI:e0.l=S.T.levels.length:=by
   have h5:=(gM ok VC).2.2.2;rw[hQ]at XF;rcases ah.1 XF with h6 |h6
   ·exact absurd aeC (hP em h6)
   ·rcases av.1 h6 with rfl |h6
    ·exact aeD
    ·have :=akJ em h6;omega
  have ak5:iW S.T.levels.length G1.seen Q=iW S.T.levels.length G1.seen Q'+1:=by
   have hP0:iW S.T.levels.length G1.seen P=0:=by unfold iW;rw[List.countP_eq_zero];intro e he;simp[hP e he]
   rw[hQ];unfold iW at *;rw[List.countP_append,hP0,List.countP_cons];simp[aeI,qI]
  have Zx:G1.fP-1=(iW S.T.levels.length G1.seen Q':Nat):=by rw[g1.fP,ak5];omega
  have Xi:∀a,S.Good a->(∃y∈G1.bt.tail,mD a y)\/(¬mD a e0.x)\/∃e∈Q',e.l=S.T.levels.length/\tv e.x∈G1.seen/\¬mD a e.x:=fun a ha=>by
   rcases Mw a ha with h5 |⟨e,he,M6,hes,het⟩
   ·exact .inl h5
   ·rw[hQ]at he;rcases ah.1 he with h6 |h6
    ·exact absurd hes (hP e h6)
    ·rcases av.1 h6 with rfl |h6
     ·exact .inr (.inl het)
     ·exact .inr (.inr ⟨e,h6,M6,hes,het⟩)
  by_cases hz:iW S.T.levels.length G1.seen Q'=0
  ·refine⟨{ G1 with fP:=G1.fP-1 },e0.x,?_,⟨g1.T,g1.lits,fun y hy=>(g1.jr y hy).2,g1.nd,g1.l0,⟨e0,VC,rfl,aeI⟩,fun a ha=> ?_⟩⟩
   ·unfold dV;rw[hdw];simp only;rw[aae (by rw[Zx,hz];rfl)]
   ·rcases Xi a ha with h5 |h5 |⟨e,he,M6,hes,_⟩
    ·exact .inl h5
    ·exact .inr h5
    ·exfalso;unfold iW at hz;rw[List.countP_eq_zero]at hz;exact hz e he (by simp[M6,hes])
  ·obtain⟨eb,heb,asM,_⟩:=Kz (Nat.pos_of_ne_zero hz);have kp:e0.r≠0:=fun h5=>by
    rcases hd _ _ _ hR0 h5 with h6 |h6
    ·have :=g1.pos e0 VC qI;omega
    ·have :=h6 eb (dK.2 heb);omega
   obtain⟨n',hn',ls,kf,QC⟩:=hr _ _ _ hR0 kp;have ako:=(ld ok VC).2;have ZO:∀y∈(S.rc n').lits,y≠e0.x->∃e∈Q',e.x= -y:=fun y hy dS=>by
    rw[kf]at hy;rcases av.1 hy with rfl |hy
    ·exact absurd rfl dS
    ·obtain⟨e',eK,h5⟩:=QC y hy;exact⟨e',dK.1 eK,h5⟩
   have g5:LI S S.T.levels.length { G1 with fP:=G1.fP-1 } Q' (e0::(P.reverse++D)):=⟨hR0,g1.T,g1.lits,Zx,g1.jr,g1.low,g1.nd,g1.l0,g1.pos⟩
   obtain⟨GE,xe,k1,k2⟩:=uj ok hr hd f { G1 with fP:=G1.fP-1 } n' e0.x Q' (e0::(P.reverse++D)) (by rw[hQ]at hf;simp at hf;omega) g5 ZO (.inl (Nat.pos_of_ne_zero hz)) (fun a ha=>by
    rcases Xi a ha with h5 |h5 |h5
    ·exact .inl (.inl h5)
    ·right
     obtain⟨y,hy,J5⟩:=ha.1 n' (by rw[kf];simp);exact⟨y,hy,fun e9=>h5 (e9▸J5),J5⟩
    ·exact .inl (.inr h5))
   refine⟨GE,xe,?_,k2⟩;unfold dV;rw[hdw];simp only;rw[aac (by rw[Zx];omega),g1.T,ako,hn',show(n':Int)+1-1=(n':Int)from by omega];exact k1
end Sv
theorem mR {l:List Int}{i:Nat}(h:i<l.length):l[i]! =l[i]:=by simp only[ae,af h,ay]
theorem gR {l:List Int}{i j:Nat}(hi:i<l.length)(hj:j<l.length):(cS l i j).Perm l:=by unfold cS;rw[mR hi,mR hj];exact List.set_set_perm hi hj
theorem o3 {T:Tr}:∀(f k:Nat) (l:List Int) (ct:Int),l.length<=f+k->1<=k->(0<ct->T.dp (tv l[1]!)=ct)->(∀j,1<=j->j<k->j<l.length->T.dp (tv l[j]!)<=ct)->
  (Sv.second T f k l ct).1.Perm l/\(Sv.second T f k l ct).1[0]! =l[0]! /\(0<(Sv.second T f k l ct).2->T.dp (tv (Sv.second T f k l ct).1[1]!)=(Sv.second T f k l ct).2)/\(∀j,1<=j->j<l.length->T.dp (tv (Sv.second T f k l ct).1[j]!)<=(Sv.second T f k l ct).2)
 |0,k,l,ct,hf,hk,h1,h2=>⟨dy _,rfl,h1,fun j hj hl=>h2 j hj (by omega) hl⟩
 |f+1,k,l,ct,hf,hk,h1,h2=>by
  rw[Sv.second];by_cases oJ:k<l.length
  ·rw[aae oJ];by_cases hv:ct<T.dp (tv l[k]!)
   ·rw[aae hv];have hg:=fun j (hj:j<l.length)=>mG (l:=l) (i:=1) (j:=k) (k:=j) (by omega) oJ hj;have ih:=o3 (T:=T) f (k+1) (cS l 1 k) (T.dp (tv l[k]!)) (by rw[fO];omega) (by omega) (fun _=>by
     rw[hg 1 (by omega)];split
     ·rename_i e;rw[<-e]
     ·rw[aae rfl]) (fun j hj QI hj3=>by
     rw[fO]at hj3;rw[hg j hj3];split
     ·by_cases e1:1=k
      ·rw[e1];exact my _
      ·have :=h2 1 (by omega) (by omega) (by omega);omega
     ·split
      ·exact my _
      ·have :=h2 j hj (by omega) hj3;omega)
    rw[fO]at ih;refine⟨ih.1.trans (gR (by omega) oJ),?_,ih.2.2.1,ih.2.2.2⟩;rw[ih.2.1,hg 0 (by omega),aac (by omega),aac (by omega)]
   ·rw[aac hv];exact o3 f (k+1) l ct (by omega) (by omega) h1 (fun j hj QI hj3=>by
     by_cases e:j=k
     ·rw[e];omega
     ·exact h2 j hj (by omega) hj3)
  ·rw[aac oJ];exact⟨dy _,rfl,h1,fun j hj hl=>h2 j hj (by omega) hl⟩
namespace Sv
def j9 (S:Sv):Tr×Nat×List (List Nat)×List Bool×List Bool×List Int×Nat×Nat×Nat×Int×Nat×Bool×Bool×List (List Int×Bool):=
 (S.T,S.vars,S.watch,S.phase,S.model,S.core,S.head,S.used,S.bump,S.many,S.bQ,S.bad,S.has,S.list.map fun c=>(c.lits,c.jr))
theorem Gh (S:Sv)(n:Nat):(S.gK n).j9=S.j9:=by
 unfold j9 gK;simp only[List.map_set];congr 14;by_cases h:n<S.list.length
 ·have :(S.list.map fun c=>(c.lits,c.jr))[n]? =some ((S.rc n).lits,(S.rc n).jr):=by rw[aJ,af h];simp only[cD,rc,ae,af h,ay]
  exact kW this
 ·rw[List.set_eq_of_length_le (by simp;omega)]
theorem LC (G:Gr)(l:Int):(meet G l).S.j9=G.S.j9:=by
 by_cases h:tv l∈G.seen\/G.S.T.dp (tv l)<=0
 ·rw[jK h]
 ·by_cases h2:G.S.T.dp (tv l)=G.S.T.levels.length
  ·rw[gT h h2];rfl
  ·rw[jb h h2];rfl
theorem nt (skip:Int):∀(ls:List Int) (G:Gr),(meets skip ls G).S.j9=G.S.j9
 |[],G=>rfl
 |l::r,G=>by
  rw[meets];split
  ·rw[nt skip r,LC]
  ·exact nt skip r G
theorem uc:∀(f:Nat) (G:Gr) (n skip:Int) (rest:List Int) (GE:Gr) (xe:Int),eR f G n skip rest=some (GE,xe)->GE.S.j9=G.S.j9
 |0,G,n,skip,rest,GE,xe,h=>by rw[iO]at h;cases h
 |f+1,G,n,skip,rest,GE,xe,h=>by
  rw[jz]at h;have hk:(dA G n skip).S.j9=G.S.j9:=by
   unfold dA;split
   ·rw[nt];exact Gh G.S n.toNat
   ·rfl
  generalize dA G n skip=G1 at h hk;unfold dV at h;cases hq:rest.dropWhile (fun x=>decide (tv x∉G1.seen))with
  |nil=>rw[hq]at h;cases h
  |cons x r=>
   rw[hq]at h;simp only at h;split at h
   ·simp only[Option.some.injEq,Prod.mk.injEq]at h;obtain⟨rfl,rfl⟩:=h;exact hk
   ·exact(uc f _ _ _ _ GE xe h).trans hk
theorem jI {S S':Sv}(h:S'.j9=S.j9)(n:Nat):(S'.rc n).lits=(S.rc n).lits/\(S'.rc n).jr=(S.rc n).jr:=by
 have hl:S'.list.map (fun c=>(c.lits,c.jr))=S.list.map fun c=>(c.lits,c.jr):=by have :=aao (fun x=>x.2.2.2.2.2.2.2.2.2.2.2.2.2) h;exact this
 have e:∀S:Sv,((S.rc n).lits,(S.rc n).jr)=((S.list.map fun c=>(c.lits,c.jr))[n]?).getD ([],false):=fun S=>by
  rw[aJ];unfold rc;rw[ae];cases h:S.list[n]? with
  |none=>rfl
  |some c=>rfl
 have h1:=e S;rw[<-hl,<-e S']at h1;exact⟨(aao Prod.fst h1).symm,(aao Prod.snd h1).symm⟩
structure Lrd (S:Sv)(l:List Int)(ct:Int):Prop where
 l0:0<l.length
 top:∃e∈S.R,l[0]! = -e.x/\e.l=S.T.levels.length
 tail:∀k,1<=k->k<l.length->∃e∈S.R,e.x= -l[k]! /\1<=e.l/\e.l<=ct
 lt:0<=ct/\ct<S.T.levels.length
 one:l.length=1->ct=0
 two:2<=l.length->∃e∈S.R,e.x= -l[1]! /\e.l=ct
 nd:(l.map tv).Nodup
 sem:∀a,S.Good a->lG a l
theorem jf {S:Sv}{m:Nat}(ok:S.Ok m)(hr:S.Rsn)(hd:S.Dec){n:Nat}(hc:S.Jv n)(Nb:0<S.T.levels.length)(hn:((S.rc n).lits)≠[]):
  ∃S1 l ct,S.fL n=some (S1,l,ct)/\S1.j9=S.j9/\S.Lrd l ct:=by
 have Qf:S.T.lits.reverse=S.R.reverse.map (·.x):=by rw[ok.rep.lits,List.map_reverse]
 obtain⟨xu,yc,Uw,ec,hec,ak0,ak1⟩:=hc;have adr:∀y∈(S.rc n).lits,y≠0:=fun y hy=>(ok.lr n y hy).1;obtain⟨GE,xe,h1,h2⟩:=uj ok hr hd (S.T.lits.length+1) ⟨S,[],0,[0]⟩ n 0 S.R.reverse [] (by rw[List.length_reverse,jn];omega)
  ⟨by simp,rfl,fun _=>rfl,by simp[iW],fun y hy=>by simp at hy,fun e _ he=>by simp at he,by simp,by simp,fun e _ he=>by simp at he⟩
  (fun y hy _=>by obtain⟨e,he,h5⟩:=xu y hy;exact⟨e,dK.2 he,h5⟩)
  (.inr ⟨Nb,yc,Uw,adr yc Uw,ec,dK.2 hec,ak0,ak1⟩)
  (fun a ha=> .inr (by obtain⟨y,hy,J5⟩:=ha.1 n hn;exact⟨y,hy,adr y hy,J5⟩))
 rw[<-Qf]at h1;have hk:=uc _ _ _ _ _ GE xe h1;obtain⟨et,het,tR,M5⟩:=h2.top;have hrt:=gM ok het;have lx:=ok.vl;cases hg:GE.bt with
 |nil=>have :=h2.l0;rw[hg]at this;simp at this
 |cons z0 tl=>
  have QB:=h2.jr;have yC:=h2.nd;have Mw:=h2.sem;rw[hg]at QB yC Mw;simp only[List.tail_cons]at QB yC Mw;have akj:GE.bt.set 0 (-xe)= -xe::tl:=by rw[hg];rfl
  have QD:∀y∈tl,1<=S.T.dp (tv y)/\S.T.dp (tv y)<S.T.levels.length:=fun y hy=>by obtain⟨e,he,h5,h6,h7⟩:=QB y hy;rw[(kd ok he h5).1,(ld ok he).1];exact⟨h6,h7⟩
  have Ti:=o3 (T:=GE.S.T) (-xe::tl).length 1 (-xe::tl) 0 (by omega) (ap 1) (fun h=>by omega) (fun j hj QI _=>by omega);obtain⟨lr,xm⟩:∃lr,Sv.second GE.S.T (-xe::tl).length 1 (-xe::tl) 0=lr:=⟨_,rfl⟩
  rw[xm,h2.T]at Ti;obtain⟨hp,Qj,hp1,hp2⟩:=Ti;have mj:=kX (T:=GE.S.T) (D:=S.T.levels.length) (fun v=>by rw[h2.T];exact(GH ok v).2) (-xe::tl).length 1 (-xe::tl) 0;rw[xm]at mj;have hlen:=hp.length_eq;have kF:∀k,1<=k->k<lr.1.length->lr.1[k]! ∈tl:=fun k hk oJ=>by
   have akw:((-xe::tl).map tv).Nodup:=by rw[cj,fG];refine⟨fun hm=> ?_,yC⟩;rw[aG]at hm;obtain⟨y,hy,h5⟩:=hm;have h6:=QD y hy;rw[h5,<-tR,AX et.x hrt.1 (by omega),(ld ok het).1,M5]at h6;omega
   have akv:(lr.1.map tv).Nodup:=(hp.map tv).nodup_iff.2 akw;have hm:lr.1[k]! ∈ -xe::tl:=hp.mem_iff.1 (a8 oJ);rcases av.1 hm with h5 |h5
   ·exfalso;have h6:lr.1[0]! = -xe:=Qj;have h7:(lr.1.map tv)[0]'(by simp;omega)=(lr.1.map tv)[k]'(by simpa using oJ):=by rw[List.getElem_map,List.getElem_map,<-mR oJ,<-mR (by omega:0<lr.1.length),h5,h6]
    exact(List.pairwise_iff_getElem.1 akv) 0 k _ _ (by omega) h7
   ·exact h5
  refine⟨GE.S,lr.1,lr.2,?_,hk,?_⟩
  ·unfold fL;rw[h1];simp only;rw[akj,xm]
  ·refine⟨by rw[hlen];simp,⟨et,het,by rw[Qj,tR];rfl,M5⟩,fun k hk oJ=> ?_,⟨mj.1,?_⟩,fun h5=> ?_,fun h5=> ?_,?_,fun a ha=> ?_⟩
   ·obtain⟨e,he,h5,h6,h7⟩:=QB _ (kF k hk oJ);refine⟨e,he,h5,h6,?_⟩;have h8:=hp2 k hk (by omega);rw[(kd ok he h5).1,(ld ok he).1]at h8;exact h8
   ·by_cases h0:lr.2=0
    ·omega
    ·have h6:=hp1 (by omega);by_cases h7:1<lr.1.length
     ·have h8:=QD _ (kF 1 (ap 1) h7);omega
     ·exfalso
      --with one literal alone Yu level is 0
      have h9:tl=[]:=by
       have :lr.1.length=tl.length+1:=by rw[hlen];rfl
       exact aP (by omega)
      rw[h9]at xm;have :Sv.second GE.S.T [-xe].length 1 [-xe] 0=([-xe],0):=oZ (by simp);rw[this]at xm;exact h0 (by rw[<-xm])
   ·have h9:tl=[]:=by
     have :lr.1.length=tl.length+1:=by rw[hlen];rfl
     exact aP (by omega)
    rw[h9]at xm;have :Sv.second GE.S.T [-xe].length 1 [-xe] 0=([-xe],0):=oZ (by simp);rw[this]at xm;rw[<-xm]
   ·obtain⟨e,he,h6,h7,h8⟩:=QB _ (kF 1 (ap 1) (by omega));refine⟨e,he,h6,?_⟩;have h9:=hp2 1 (ap 1) (by omega);rw[(kd ok he h6).1,(ld ok he).1]at h9;have h10:=hp1 (by omega);rw[(kd ok he h6).1,(ld ok he).1]at h10;exact h10
   ·rw[(hp.map tv).nodup_iff,cj,fG];refine⟨fun hm=> ?_,yC⟩;rw[aG]at hm;obtain⟨y,hy,h5⟩:=hm;have h6:=QD y hy;rw[h5,<-tR,AX et.x hrt.1 (by omega),(ld ok het).1,M5]at h6;omega
   ·rcases Mw a ha with⟨y,hy,J5⟩ |h5
    ·exact⟨y,hp.mem_iff.2 (aY _ hy),J5⟩
    ·refine⟨-xe,hp.mem_iff.2 bD,?_⟩;rw[<-tR]at h5⊢;exact(mD.neg (AW hrt.1)).2 h5
end Sv
end Go.Proofs.YtjmmpfjcpdepjaaGreatDoor
