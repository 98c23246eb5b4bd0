/- Parts of a proof. -/
import Derived.Test.YtjmmpfjcpdepjaaGreatDoorGAR
import Derived.Test.YtjmmpfjcpdepjaaGreatDoorCards
import Derived.Test.YtjmmpfjcpdepjaaGreatDoorTie
import Derived.WalkKit
import Derived.ProofKit
import Derived.OpenShut
import Derived.Deep.Slices
import Derived.Carry
import Derived.SizedLaws
import Derived.Lib.SmallJoins
import Derived.Deep.Strs
import Derived.Deep.DeepHandedRow
import Derived.Deep.DeepLaidRun
set_option linter.unusedVariables false
set_option linter.unusedSimpArgs false
set_option maxHeartbeats 8000000
set_option maxRecDepth 100000
namespace Go.Proofs.YtjmmpfjcpdepjaaGreatDoor
section
open Go.RowKit Go.Shelf
def avC:Pc:=⟨0,[],[],[],[1],[],[],[]⟩
def avQ:Qn:=⟨avC,[],[],[],0,0,0⟩
theorem ND:Valid avC where
 m0:=by decide
 m1:=by decide
 i:=by decide
 l:=by decide
 n:=by decide
 aM:=fun j hj=>absurd hj (aI _)
 az:=fun j hj=>absurd hj (aI _)
 own:=fun j hj=>absurd hj (aI _)
 o:=by decide
 b:=by decide
 v:=by decide
theorem RF:sX avQ=0:=by unfold sX;rw[aac (fun h=>h ND),aac (by decide),aac (by decide),aac (by decide),aac (by decide)]
theorem NC:iF avQ []=0:=by unfold iF;rw[RF,aac (by decide),aac (by decide),aac (by decide)]
theorem V8:OY avQ 0 [] [[]]=0:=by unfold OY;rw[RF,aac (by decide),aae (show(0:Int)=avQ.bad from rfl)];decide+kernel
theorem aaE:(Sv.Ge 1099511627776 [dE 0 1] 40 40 (Tb avC [] [])).map (fun q=>decide (q.2=1))=some true:=by decide+kernel
theorem V7:decide ((Tb avC [] []).used<4611686018427387904)=true:=by decide+kernel
theorem aaF (w:World):qm (w.alloc (.cells #[.int .i64 1] 3)) ⟨⟨none,0,none,0,none,0,some ⟨w.heap.size,0,none⟩,1,none,0,none,0,none,0⟩,none,0,none,0,none,0⟩ avQ:=by
 refine⟨⟨fun h=>absurd h (by decide),fun h=>absurd h (by decide),fun h=>absurd h (by decide),?_,fun h=>absurd h (by decide),fun h=>absurd h (by decide),fun h=>absurd h (by decide),by decide,by decide,by decide,by decide,by decide,by decide,by decide,⟨by decide,by decide⟩,?_,?_,?_,?_,?_,?_,?_⟩,j3.LO _ _,j3.LO _ _,j3.LO _ _,by decide,by decide,by decide,⟨by decide,by decide⟩,⟨by decide,by decide⟩,⟨by decide,by decide⟩⟩
 ·intro _;refine⟨_,_,rfl,fun j hj=> ?_⟩;have :j=0:=by have :j<1:=hj;omega
  subst this;exact(At.new w 3 #[.int .i64 1]).cell 0
 ·exact fun j hj=>absurd hj (aI _)
 ·exact fun j hj=>absurd hj (aI _)
 ·exact fun j hj=>absurd hj (aI _)
 ·intro j hj;have :j=0:=by have :j<1:=hj;omega
  subst this;exact⟨by decide,by decide⟩
 ·exact fun j hj=>absurd hj (aI _)
 ·exact fun j hj=>absurd hj (aI _)
 ·exact fun j hj=>absurd hj (aI _)
theorem aft {W:World}{g b:Nat}(h:At W g 30 #[.int .i64 0, .slice none 0 0, .slice none 0 0, .slice none 0 0, .slice (some ⟨b,0,none⟩) 1 1, .slice none 0 0, .slice none 0 0, .slice none 0 0, .slice none 0 0, .slice none 0 0, .slice none 0 0, .int .i64 0, .int .i64 0, .int .i64 0]):W.cell? ⟨g,0,none⟩=some (.int .i64 0)/\W.cell? ⟨g,1,none⟩=some (.slice none 0 0)/\W.cell? ⟨g,2,none⟩=some (.slice none 0 0)/\W.cell? ⟨g,3,none⟩=some (.slice none 0 0)/\W.cell? ⟨g,4,none⟩=some (.slice (some ⟨b,0,none⟩) 1 1)/\W.cell? ⟨g,5,none⟩=some (.slice none 0 0)/\W.cell? ⟨g,6,none⟩=some (.slice none 0 0)/\W.cell? ⟨g,7,none⟩=some (.slice none 0 0)/\W.cell? ⟨g,8,none⟩=some (.slice none 0 0)/\W.cell? ⟨g,9,none⟩=some (.slice none 0 0)/\W.cell? ⟨g,10,none⟩=some (.slice none 0 0)/\W.cell? ⟨g,11,none⟩=some (.int .i64 0)/\W.cell? ⟨g,12,none⟩=some (.int .i64 0)/\W.cell? ⟨g,13,none⟩=some (.int .i64 0):=by refine⟨?_,?_,?_,?_,?_,?_,?_,?_,?_,?_,?_,?_,?_,?_⟩<;>(rw[h.cell];rfl)
theorem zx (w:World):Calls Tryz.prog 5 #[] w fun e w'=>e= .returned (.bool true)/\Fr [] w w':=by
 obtain⟨w1,dP⟩:∃W,w.alloc (.cells #[.int .i64 1] 3)=W:=⟨_,rfl⟩
 have dI:Hid (Fr [] w w1):=dP▸aH _ _;have hq:=aaF w;rw[dP]at hq;have KI:Hid (∀W,Fr [] w1 W->Calls Tryz.prog 16 #[.agg #[.int .i64 0, .slice none 0 0, .slice none 0 0, .slice none 0 0, .slice (some ⟨w.heap.size,0,none⟩) 1 1, .slice none 0 0, .slice none 0 0, .slice none 0 0, .slice none 0 0, .slice none 0 0, .slice none 0 0, .int .i64 0, .int .i64 0, .int .i64 0], .slice none 0 0] W fun e w'=>e= .returned (.int .i64 81)/\Fr [] W w'):=fun W hW=>by
  have hc:=uS W _ avQ (hq.keep hW) none 0 [] (j3.LO _ _) NC (by decide) (fun _ _=>True) (fun _ S=>S=Tb avC [] []) (fun _=>False) (fun _=>False) (fun _=>False) (fun _=>True) trivial (fun k hk=>absurd hk (aI _)) rfl (fun k hk=>absurd hk (aI _)) (by
   rintro S rfl;obtain⟨p,hp,hd⟩:=Option.map_eq_some_iff.1 aaE;obtain⟨S',r⟩:=p;have hr:r=1:=by simpa using hd
   subst hr;refine⟨of_decide_eq_true V7,false,(fun h=>by cases h),40,40,_,Sv.Pi hp,fun S2 r2 h2=> ?_⟩;simp only[Prod.mk.injEq]at h2;rw[h2.2,aac (by decide)]
   trivial)
  refine hc.mono ?_;rintro e w' ⟨hf,⟨-,S,hS⟩ |⟨rfl,h⟩⟩
  ·exact hS.elim
  ·exact⟨rfl,hf⟩
 have KW:Hid (∀W g,Fr [] w1 W->W.cell? ⟨g,0,none⟩=some (.string ⟨#[]⟩)->Calls Tryz.prog 14 #[.agg #[.int .i64 0, .slice none 0 0, .slice none 0 0, .slice none 0 0, .slice (some ⟨w.heap.size,0,none⟩) 1 1, .slice none 0 0, .slice none 0 0, .slice none 0 0, .slice none 0 0, .slice none 0 0, .slice none 0 0, .int .i64 0, .int .i64 0, .int .i64 0], .agg #[.int .i64 0, .string ⟨#[]⟩, .slice (some ⟨g,0,none⟩) 1 1]] W fun e w'=>e= .returned (.int .i64 0)/\Fr [] W w'):=fun W g hW hg=>by
  have hc:=II W _ avQ (hq.keep hW) 0 [] (by decide) (some ⟨g,0,none⟩) 1 [[]] (fun _=>⟨_,_,rfl,fun j hj=>by
   have :j=0:=by have :j<1:=hj;omega
   subst this;exact hg⟩) (fun s hs=>by rw[ai.1 hs];decide) (by decide)
  rw[V8]at hc;exact hc
 clear hq;go_enter Tryz.func5,Tryz.ntmps5;go_upto_region 2 with fail;obtain⟨w2,oG⟩:∃W,w1.alloc (.cells #[.int .i64 0, .slice none 0 0, .slice none 0 0, .slice none 0 0, .slice (some ⟨w.heap.size,0,none⟩) 1 1, .slice none 0 0, .slice none 0 0, .slice none 0 0, .slice none 0 0, .slice none 0 0, .slice none 0 0, .int .i64 0, .int .i64 0, .int .i64 0] 30)=W:=⟨_,rfl⟩
 have tT:At w2 w1.heap.size 30 #[.int .i64 0, .slice none 0 0, .slice none 0 0, .slice none 0 0, .slice (some ⟨w.heap.size,0,none⟩) 1 1, .slice none 0 0, .slice none 0 0, .slice none 0 0, .slice none 0 0, .slice none 0 0, .slice none 0 0, .int .i64 0, .int .i64 0, .int .i64 0]:=oG▸At.new _ _ _;have SV:=aa tT;have bW:Fr [] w1 w2:=oG▸aH _ _;have KI2:=aa (KI.out w2 bW);have cw:=aa bW;rw[oG];obtain⟨r0,r1,r2,r3,r4,r5,r6,r7,r8,r9,WV,r11,r12,r13⟩:=aft tT;clear oG tT bW KI dP;go_wp2_with fail;refine KI2.out.mono ?_;clear KI2 r0 r1 r2 r3 r4 r5 r6 r7 r8 r9 WV r11 r12 r13;rintro e w3 ⟨rfl,dh⟩;obtain⟨r0,r1,r2,r3,r4,r5,r6,r7,r8,r9,WV,r11,r12,r13⟩:=aft (SV.out.keep dh);have db:=aa (cw.out.ag dh);have KW3:=aa (KW.out (w3.alloc (.cells #[.string ⟨#[]⟩] 9)) w3.heap.size (db.out.ag (aH _ _)) ((At.new w3 9 #[.string ⟨#[]⟩]).cell 0));clear KW dh;go_wp2_with fail;refine KW3.out.mono ?_;clear KW3;rintro e w4 ⟨rfl,eS⟩;have gY:=aa (dI.out.ag (db.out.ag ((aH _ _).ag eS)));clear eS;go_wp2_with fail;go_ret;exact⟨rfl,gY.out⟩
end
section
open Go.RowKit
def Ac (C:Pc)(ls:List (List Int)):Bool:=ls.all fun x=>ft (C.aM.length:Int) x==0
theorem Gt (w:World)(H:Hd)(C:Pc)(h:fH w H C)(A:Option Addr)(c:Nat)(hs:List Ls)(hr:j3 w A hs)(hl:hs.length<=17592186044416):
  Calls Tryz.prog 8 #[dj H C, .slice A hs.length c] w fun e w'=>e= .returned (.bool (Ac C (hs.map (·.l))))/\Fr [] w w':=by
 have HX:=aa (Cx.start w H C);obtain⟨cT,de⟩:∃cT,Ac C (hs.map (·.l))=cT:=⟨_,rfl⟩
 rw[de];have dM:Hid (hs.all (fun h=>ft (C.aM.length:Int) h.l==0)=cT):=by show _=_;rw[<-de];unfold Ac;rw[List.all_map];rfl
 have FP:=aa (fun k (h:k<hs.length)=>wg hs (fun h=>ft (C.aM.length:Int) h.l==0) k h);have FE:Hid (∀k,k<hs.length->¬ft (C.aM.length:Int) (hs[k]!).l=0->cT=false):=fun k hk hf=>by rw[<-dM.out,List.all_eq_false];exact⟨_,a8 hk,by simpa using hf⟩
 have hlL:=h.lL;have HH:=aa hr;have KC:=aa (fun W B d l (h1:Rd W B l) (h2:Ra l)=>Bx W (C.aM.length:Int) B d l h1 h2);obtain⟨CK,hCK⟩:∃CK:List Int->Int,(fun l=>ft (C.aM.length:Int) l)=CK:=⟨_,rfl⟩
 have B4:∀l,ft (C.aM.length:Int) l=CK l:=fun l=>by rw[<-hCK]
 simp only[B4]at dM FP FE KC;clear h hr de hCK B4;obtain⟨mx,ins,aM,outs,aT,aU,az,bY⟩:=C;obtain⟨iA,iC,lA,lC,oA,oC,bA,bC,vA,vC,gA,gC,nA,nC⟩:=H;simp only[dj,iz]at *;obtain⟨c0,c1,c2,c3,c4,c5,c6,c7⟩:=HX.out.cells;simp only at c0 c1 c2 c3 c4 c5 c6 c7;go_enter Tryz.func8,Tryz.ntmps8;go_wp2_with fail;go_loopg [5] hs.length (fun g x5 wr=>∃k:Nat,k+g=hs.length/\x5= .int .i64 k/\Hid ((hs.take k).all (fun h=>CK h.l==0)=true)/\Hid (Cx w wr ⟨iA,iC,lA,lC,oA,oC,bA,bC,vA,vC,gA,gC,nA,nC⟩ ⟨mx,ins,aM,outs,aT,aU,az,bY⟩));case atStart=>exact⟨0,by omega,rfl,rfl,HX.out⟩
 case round=>
  obtain⟨k,hk,rfl,HT,eQ⟩:=hrel;have HK:=aa hk;have jg:k<=hs.length:=by omega
  clear hk HX c0 c1 c2 c3 c4 c5 c6 c7;by_cases bw:k<hs.length
  ·have ml:(k:Int)<(hs.length:Int):=by omega
   obtain⟨b,o,B,d,l,hA,he,cx,ok⟩:=(HH.out.keep eQ.out.fr).one bw;subst hA;have mE:=aa (FP.out k bw);have SW:=aa (FE.out k bw);rw[he.out]at mE SW;simp only at mE SW;have rJ:=aa (fun W (hW:Fr [] wr W)=>KC.out W B d l (fun h0=>by obtain⟨b2,o2,h1,h2⟩:=ok.1 h0;exact⟨b2,o2,h1,fun j hj=>hW.aN (h2 j hj)⟩) ok.2.1);clear ok he;obtain⟨K,hK⟩:∃K,CK l=K:=⟨_,rfl⟩
   rw[hK]at mE SW rJ;clear hK;obtain⟨d0,d1,d2,d3,d4,d5,d6,d7⟩:=eQ.out.cells;simp only at d0 d1 d2 d3 d4 d5 d6 d7;obtain⟨e0,e1,e2,e3,e4,e5,e6,e7⟩:=eQ.out.ext;simp only at e0 e1 e2 e3 e4 e5 e6 e7;have ex:=Ext.cell cx;go_upto_region 4 with fail;refine au (by kernel_rfl) (by kernel_rfl) ?_;repeat (go_big_quiet_step (exact bh (rJ.out _ (Ext.fr (by assumption)))))
   refine aak ?_;rintro w2 ⟨u2,b8⟩;have bj:Hid (Fr [] wr w2):=b8▸u2.fr;clear b8 u2;have HXW:=aa (eQ.out.keep bj.out);clear rJ e0 e1 e2 e3 e4 e5 e6 e7 ex cx d0 d1 d2 d3 d4 d5 d6 d7;by_cases h0:K=0
   ·have t0:(K==(0:Int))=true:=by simpa using h0
    have Wm:Hid ((hs.take (k+1)).all (fun h=>CK h.l==0)=true):=by show _=_;rw[mE.out,HT.out,t0];rfl
    clear mE SW HT h0;go_wp2_with fail;go_roundg (gk-1);case measure=>have :=HK.out;omega
    case rel=>exact⟨k+1,by have :=HK.out;omega,by go_num,Wm,HXW.out⟩
   ·have t0:(K==(0:Int))=false:=by simpa using h0
    obtain rfl :cT=false:=SW.out h0;clear mE SW HT h0;go_wp2_with fail;go_ret;exact⟨rfl,HXW.out.fr⟩
  ·obtain rfl :k=hs.length:=by omega
   have fM:cT=true:=by rw[<-dM.out];have :=HT.out;rw[dC (ap _)]at this;exact this
   subst fM;clear HK HT FP FE;go_wp2_with fail;go_ret;exact⟨rfl,eQ.out.fr⟩
end
section
open Go.RowKit Go.Shelf
theorem T8 (C:Pc)(ls:List (List Int)):Ac C ls= !(ls.any (yy C)):=by unfold Ac yy;rw[List.not_any_eq_all_not];simp
def Ta (ls:List (List Int))(x:List Int)(s:List UInt8):Bool:= !Od ls s ||x.any (je s)
theorem Uu (x:List Int)(s:List UInt8):Od [x] s=x.any (je s):=by unfold Od;simp
theorem Ck (w:World)(H:Qh)(q:Qn)(h:qm w H q)(A:Option Addr)(c:Nat)(hs:List Ls)(hr:j3 w A hs)(hn:A=none->c=0)(hl:hs.length<=1048576)(x:Ls)(hx:zy w x):
  Calls Tryz.prog 3 #[lD H q, .slice A hs.length c,x.val] w fun e w'=>e= .returned (.bool true)/\Fr [] w w':=by
 obtain⟨w1,dP⟩:∃W,w.alloc (.cells (mZ H q) 30)=W:=⟨_,rfl⟩
 have cX:Fr [] w w1:=dP▸aH _ _;have dI:=aa cX;have oO:Hid (At w1 w.heap.size 30 (mZ H q)):=dP▸At.new _ _ _;have HQ:=aa (fun W (hW:Fr [] w1 W)=>jy (oO.out.keep hW));obtain⟨LS,hLS⟩:∃LS,hs.map (·.l)=LS:=⟨_,rfl⟩
 have KAV:=aa (zx w1);obtain⟨R,hR⟩:∃R,iF q (LS++[x.l])=R:=⟨_,rfl⟩
 have KHO:Hid (∀W,Fr [] w W->Calls Tryz.prog 6 #[lD H q, .slice A hs.length c,x.val] W fun e w'=>∃b,e= .returned (.tuple #[.bool b, .int .i64 R])/\(¬R=0->b=false)/\(R=0->rA q.C->b=jD q.C LS x.l)/\Fr [] W w'):=fun W hW=>by
  refine(Es W H q (h.keep hW) A c hs (hr.keep hW) hn hl x (hx.keep hW)).mono ?_;rintro e w' ⟨hf,h1⟩;rw[hLS,hR]at h1;rcases h1 with⟨h0,rfl⟩ |⟨h0,b,rfl,hb⟩
  ·exact⟨false,rfl,fun _=>rfl,fun h=>absurd h h0,hf⟩
  ·exact⟨b,by rw[h0],fun h=>absurd h0 h,fun _=>hb,hf⟩
 have KUC:=aa (fun W (hW:Fr [] w W)=>nh W H q (h.keep hW));obtain⟨U,hU⟩:∃U,sX q=U:=⟨_,rfl⟩
 obtain⟨OV,hOV⟩:∃OV,Ac q.C (LS++[x.l])=OV:=⟨_,rfl⟩
 obtain⟨n1,ke⟩:∃n1,hs.length+1=n1:=⟨_,rfl⟩
 have hRR:R=if ¬U=0 then U else if 1024<(n1:Int)then 3 else if OV=false then 23 else 0:=by
  rw[<-hR,<-hOV,T8];unfold iF;rw[hU];have e:((LS++[x.l]).length:Int)=(n1:Int):=by rw[<-ke,<-hLS];simp
  rw[e];cases(LS++[x.l]).any (yy q.C)<;>rfl
 have MP:∀W,Fr [] w W->∀j:Nat,j<(hs++[x]).length->zy W (hs++[x])[j]! :=fun W hW=>JY (fun j hj=>(hr.2 j hj).keep hW) (fun j hj=>by
  have :j=0:=by simp at hj;omega
  subst this;exact hx.keep hW)
 have m8:=h.c;have Wh:Hid (∀W,Fr [] w W->∀A2 c2,Lrow W A2 c2 (hs++[x])->Calls Tryz.prog 8 #[dj H.H q.C, .slice A2 n1 c2] W fun e w'=>e= .returned (.bool OV)/\Fr [] W w'):=fun W hW A2 c2 xm=>by have :=Gt W H.H q.C (m8.keep hW) A2 c2 (hs++[x]) (xm.JT (MP W hW)) (by simp;omega);rw[bH,hLS,cj,dv,hOV,aj,cW,List.length_nil,da,ke]at this;exact this
 have KSM:=aa (fun W=>Ds W H.H q.C);obtain⟨SM,hSM⟩:∃SM,LB q.C=SM:=⟨_,rfl⟩
 have CD:Hid (SM=true->rA q.C):=fun h=>TN (hSM.trans h);obtain⟨nl,ov⟩:∃nl,q.C.aM.length=nl:=⟨_,rfl⟩
 have XZ:=aa (fun W (h:nl<=4)=>Gm W nl h);have KI1:Hid (∀W s,Fr [] w W->s.length<=4096->Calls Tryz.prog 11 #[.slice A hs.length c,sv s] W fun e w'=>e= .returned (.bool (Od LS s))/\W=w'):=fun W s hW rl=>by rw[<-hLS];exact zX W A c hs (hr.keep hW) (by omega) s rl
 have KI2:Hid (∀W s,Fr [] w W->s.length<=4096->Calls Tryz.prog 11 #[.slice (some ⟨W.heap.size,0,none⟩) 1 1,sv s] (W.alloc (.cells #[x.val] 22)) fun e w'=>e= .returned (.bool (x.l.any (je s)))/\W.alloc (.cells #[x.val] 22)=w'):=fun W s hW rl=>by
  have :=zX (W.alloc (.cells #[x.val] 22)) (some ⟨W.heap.size,0,none⟩) 1 [x] ⟨fun _=>⟨_,_,rfl,fun j hj=>by
   have :j=0:=by simpa using hj
   subst this;exact jd _ _ _⟩,fun j hj=>by
   have :j=0:=by simpa using hj
   subst this;exact(hx.keep hW).keep (aH _ _)⟩ (by simp) s rl
  rw[cj,dv,Uu]at this;exact this
 have HB0:Hid (A=none->hs=[]/\c=0):=fun h0=>⟨by
  rcases Nat.eq_zero_or_pos hs.length with h5 |h5
  ·exact aP h5
  ·obtain⟨b,o,hA,_⟩:=hr.1 h5;rw[h0]at hA;exact absurd hA (by simp),hn h0⟩
 have Sd:=aa (fun W (hW:Fr [] w W)=>(hr.keep hW).1);have HX:=aa hx;have HCI:=aa (fun W (hW:Fr [] w W)=>m8.keep hW);have Sg:Hid (jD q.C LS x.l=(kk nl).all (Ta LS x.l)):=by show _=_;rw[<-ov];rfl
 obtain⟨HB,hHB⟩:∃HB,jD q.C LS x.l=HB:=⟨_,rfl⟩
 simp only[hU]at KUC;simp only[hSM]at KSM;rw[hHB]at KHO Sg;have HR:=aa hRR;have th:=aa ke;have ash:n1<=1048577:=by omega
 have FR:Hid (SM=true->nl<=4):=fun h=>by have :=(CD.out h).1;omega
 have HAL:Hid (∀s∈kk nl,s.length<=4096)\/True:= .inr trivial;obtain⟨xA,xc,xl⟩:=x;simp only[Ls.val]at *;simp only[lD,mZ,dj,iz]at KHO KUC Wh KSM dP HQ⊢;simp only[ov]at KHO KUC Wh KSM dP HQ⊢;clear h hr hx MP cX m8 hR hRR hLS hU hOV hSM hn ke HAL hHB ov oO;go_enter Tryz.func3,Tryz.ntmps3;go_upto_region 1 with fail;clear dP;go_wp2_with fail;refine KAV.out.mono ?_;clear KAV;rintro e w2 ⟨rfl,bW⟩;have cw:=aa bW;have n8:=aa (dI.out.ag bW);clear bW;have KH2:=aa (KHO.out w2 n8.out);clear KHO;obtain⟨q0,q1,q2,q3,q4,q5,q6,q7,q8,q9,mL,nH,nF,nE⟩:=HQ.out w2 cw.out;go_wp2_with fail;refine KH2.out.mono ?_;clear KH2 q0 q1 q2 q3 q4 q5 q6 q7 q8 q9 mL nH nF nE;rintro e w3 ⟨b,rfl,FL,qk,dh⟩;have TE:=aa FL;have FW:=aa qk;have db:=aa (cw.out.ag dh);have oP:=aa (n8.out.ag dh);clear dh FL qk;have af0:=aa (Sd.out w3 oP.out);go_upto_region 5 with fail;go_upto_region 6 with(at_builtin;first | (refine ib _ rfl _ _ rfl none 0 [] 0 rfl rfl (Lrow.nil _) A c hs hs.length rfl rfl HB0.out af0.out (by simp;omega) ?_;intro A4 c4 w4 Xr eS VP Hq;rw[da];have CY:=aa Xr;have gY:=aa eS;have m9:=aa VP;clear Xr eS VP Hq) | (refine ib _ rfl _ _ rfl A4 c4 hs hs.length rfl rfl (CY.out.keep (aH _ _)) (some ⟨w4.heap.size,0,none⟩) 1 [⟨xA,xc,xl⟩] 1 rfl rfl (fun h=>by cases h) (fun _=>⟨_,_,rfl,fun j hj=>by(have :j=0:=by simpa using hj);subst this;exact jd _ _ _⟩) (by simp;omega) ?_;intro A5 c5 w5 Qg ev hb5 hs5;rw[th.out];have Fp:=aa Qg;have kO:=aa ev;clear Qg ev hb5 hs5))
 have HW4:Hid (Fr [] w1 w4):=db.out.ag gY.out;have X2:Hid (Fr [] w1 w5):=(HW4.out.ag (aH _ _)).trans kO.out (fun k hk=> .inr (by
  rcases m9.out k hk with h |h
  ·simp[ak]at h
  ·have :=db.out.size;omega))
 have HG5:=aa (dI.out.ag X2.out);clear HW4 gY m9 CY kO af0 HB0 Sd db oP cw n8;obtain⟨q0,q1,q2,q3,q4,q5,q6,q7,q8,q9,mL,nH,nF,nE⟩:=HQ.out w5 X2.out;go_wp2_with fail;refine(KUC.out w5 HG5.out).mono ?_;clear KUC q0 q1 q2 q3 q4 q5 q6 q7 q8 q9 mL nH nF nE;rintro e w6 ⟨rfl,gW⟩;have HW6:=aa (X2.out.ag gW);have WG:=aa (HG5.out.ag gW);have Jh:=aa (Fp.out.keep gW);clear gW Fp X2 HG5;have hr:=HR.out;by_cases hU:U=0
 ·have dU:(U==(0:Int))=true:=by simpa using hU
  rw[aac (fun h=>h hU)]at hr;clear hU;by_cases lY:1024<(n1:Int)
  ·have d1:decide (1024<(n1:Int))=true:=aai lY;rw[aae lY]at hr;clear lY;subst hr;obtain rfl :b=false:=TE.out (by decide);clear TE FW HR;go_wp2_with fail;go_ret;exact⟨rfl,WG.out⟩
  ·have d1:decide (1024<(n1:Int))=false:=aah lY;rw[aac lY]at hr;clear lY;have HRV:=aa hr;clear hr HR;have KO6:=aa (Wh.out w6 WG.out A5 c5 Jh.out);obtain⟨q0,q1,q2,q3,q4,q5,q6,q7,q8,q9,mL,nH,nF,nE⟩:=HQ.out w6 HW6.out;go_wp2_with fail;refine KO6.out.mono ?_;clear KO6 Wh q0 q1 q2 q3 q4 q5 q6 q7 q8 q9 mL nH nF nE;rintro e w7 ⟨rfl,gy⟩;have HW7:=aa (HW6.out.ag gy);have HG7:=aa (WG.out.ag gy);clear gy HW6 WG Jh;have hr:=HRV.out;clear HRV;cases OV with
   |false=>
    rw[aae rfl]at hr;subst hr;obtain rfl :b=false:=TE.out (by decide);clear TE FW;go_wp2_with fail;go_ret;exact⟨rfl,HG7.out⟩
   |true=>
    rw[aac (by decide)]at hr;subst hr;have HBV:=aa (FW.out rfl);clear TE FW;obtain⟨q0,q1,q2,q3,q4,q5,q6,q7,q8,q9,mL,nH,nF,nE⟩:=HQ.out w7 HW7.out;go_wp2_with fail;refine(KSM.out _).mono ?_;clear KSM q0 q1 q2 q3 q4 q5 q6 q7 q8 q9 mL nH nF nE;rintro e w8 ⟨rfl,mp⟩;have HW8:=aa (HW7.out.ag mp);have HG8:=aa (HG7.out.ag mp);clear mp HW7 HG7;cases SM with
    |false=>
     go_wp2_with fail;go_ret;exact⟨rfl,HG8.out⟩
    |true=>
     have uX:=FR.out rfl;have hb:=HBV.out (CD.out rfl);subst hb;have KA:=aa (XZ.out w8 uX);have hSL:∀s∈kk nl,s.length<=4096:=fun s hs=>by rw[se hs];omega
     have hSN:(kk nl).length<=16:=by rw[Fe];exact Nat.pow_le_pow_right (n:=2) (by decide) uX
     have hOL:=Sg.out;obtain⟨ST,hST⟩:∃ST,kk nl=ST:=⟨_,rfl⟩
     rw[hST]at KA hSL hSN hOL;have Wq:=aa hSL;have HOL:=aa hOL;clear hSL hOL hST Sg FR CD HBV XZ;obtain⟨q0,q1,q2,q3,q4,q5,q6,q7,q8,q9,mL,nH,nF,nE⟩:=HQ.out w8 HW8.out;go_wp2_with fail;refine KA.out.mono ?_;clear KA q0 q1 q2 q3 q4 q5 q6 q7 q8 q9 mL nH nF nE;rintro e w9 ⟨A9,c9,rfl,hs9,-,qH⟩;have HS9:=aa hs9;have HG9:=aa (HG8.out.ag qH);clear hs9 qH HW8 HG8 HQ;go_wp2_with fail;go_loopg [11,13] ST.length (fun g Lr x13 wr=>∃k:Nat,k+g=ST.length/\Lr= .bool ((ST.take k).all (Ta LS xl))/\x13= .int .i64 k/\Hid (Fr [] w9 wr));case atStart=>exact⟨0,by omega,rfl,rfl,Fr.refl _ w9⟩
     case round=>
      obtain⟨k,hk,rfl,rfl,eQ⟩:=hrel;have HK:=aa hk;have jg:k<=ST.length:=(by omega)
      clear hk;by_cases bw:k<ST.length
      ·have ml:(k:Int)<(ST.length:Int):=(by omega)
       obtain⟨g,hA⟩:=HS9.out.pos (by omega);subst hA;have cx:=(HS9.out.keep eQ.out).cell bw;have mE:=aa (wg ST (Ta LS xl) k bw);have rl:=Wq.out _ (a8 bw);obtain⟨s,hs⟩:∃s,ST[k]! =s:=⟨_,rfl⟩
       rw[hs]at cx mE rl;clear hs;have HGR:=aa (HG9.out.ag eQ.out);have I8:=aa (KI1.out wr s HGR.out rl);have Tu:=aa (KI2.out wr s HGR.out rl);have HAL:=aa (eQ.out.ag (aH wr (.cells #[.slice xA xl.length xc] 22)));obtain⟨bb,tS⟩:∃bb,(ST.take k).all (Ta LS xl)=bb:=⟨_,rfl⟩
       obtain⟨i1,Ie⟩:∃i1,Od LS s=i1:=⟨_,rfl⟩
       obtain⟨i2,pt⟩:∃i2,xl.any (je s)=i2:=⟨_,rfl⟩
       have NV:Hid ((ST.take (k+1)).all (Ta LS xl)=(bb&&(!i1 ||i2))):=by show _=_;rw[mE.out,tS];unfold Ta;rw[Ie,pt]
       rw[Ie]at I8;rw[pt]at Tu;rw[tS];clear mE rl tS Ie pt;have HSV:Hid True:=trivial;obtain⟨vs,jL⟩:∃vs,sv s=vs:=⟨_,rfl⟩
       rw[jL]at cx I8 Tu;clear jL HSV;go_wp2_with fail;refine I8.out.mono ?_;clear I8;rintro e w' ⟨rfl,rfl⟩;cases i1 with
       |false=>
        have HSE:Hid ((ST.take (k+1)).all (Ta LS xl)=bb):=by show _=_;rw[NV.out];simp
        clear NV Tu;go_wp2_with fail;go_roundg (gk-1);case measure=>have :=HK.out;omega
        case rel=>exact⟨k+1,by have :=HK.out;omega,by rw[HSE.out],by go_num,eQ.out⟩
       |true=>
        have cx2:=(aH wr (.cells #[.slice xA xl.length xc] 22)).aN cx;go_wp2_with fail;refine Tu.out.mono ?_;clear Tu;rintro e w' ⟨rfl,rfl⟩;cases i2 with
        |true=>
         have HSE:Hid ((ST.take (k+1)).all (Ta LS xl)=bb):=by show _=_;rw[NV.out];simp
         clear NV;go_wp2_with fail;go_roundg (gk-1);case measure=>have :=HK.out;omega
         case rel=>exact⟨k+1,by have :=HK.out;omega,by rw[HSE.out],by go_num,HAL.out⟩
        |false=>
         have HSE:Hid ((ST.take (k+1)).all (Ta LS xl)=false):=by show _=_;rw[NV.out];simp
         clear NV;go_wp2_with fail;go_roundg (gk-1);case measure=>have :=HK.out;omega
         case rel=>exact⟨k+1,by have :=HK.out;omega,by rw[HSE.out],by go_num,HAL.out⟩
      ·obtain rfl :k=ST.length:=by omega
       have HE:Hid ((ST.take ST.length).all (Ta LS xl)=b):=by show _=_;rw[cN,HOL.out]
       rw[HE.out];clear HK HE HOL;have t0:(b==b)=true:=(by simp)
       go_wp2_with fail;go_ret;exact⟨rfl,HG9.out.ag eQ.out⟩
 ·have dU:(U==(0:Int))=false:=by simpa using hU
  rw[aae hU]at hr;subst hr;obtain rfl :b=false:=TE.out hU;have t0:(R==R)=true:=by simp
  clear TE FW HR hU;go_wp2_with fail;go_ret;exact⟨rfl,WG.out⟩
end
end Go.Proofs.YtjmmpfjcpdepjaaGreatDoor
namespace Go.Proofs.YtjmmpfjcpdepjaaGreatDoor.bulks
theorem one_le {H:Type}(d:DataW H):1<=Rows.uptoBulk d:=by
 cases d with
 |lit l=>cases l<;>simp[Rows.uptoBulk]
 |nil=>simp[Rows.uptoBulk]
 |ptr d=>simp[Rows.uptoBulk]
 |slice elems spare=>simp[Rows.uptoBulk]
 |agg parts=>simp[Rows.uptoBulk]
 |iface t d=>simp[Rows.uptoBulk]
 |map entries=>simp[Rows.uptoBulk]
 |held h=>simp[Rows.uptoBulk]
theorem length_le {H:Type}(l:List (DataW H)):l.length<=Rows.uptoBulkAll l:=by
 induction l with
 |nil=>simp[Rows.uptoBulkAll]
 |cons x r ih=>have :=one_le x;simp only[Rows.uptoBulkAll,cW];omega
theorem bound {H:Type}{l:List (DataW H)}(hk:Rows.uptoSmall H l=true):Rows.uptoBulkAll l<=1048576:=by simpa[Rows.uptoSmall]using hk
end Go.Proofs.YtjmmpfjcpdepjaaGreatDoor.bulks
namespace Go.Proofs.YtjmmpfjcpdepjaaGreatDoor
section
open Go.ChangeShapes Go.WideShapes Go.ChangeAt Go.RowKit
theorem Gp {H:Type}{enc:TypeId×Value->H}{P:Program}{f:Func}{s:ChangeSpec}{apart fresh handsOn again:Bool}{W W':World}{args:Array Value}{v:Value}{ds gs:List (DataW H)}{before pa pv:List MemPlace}
  (hW:DataW.Whole enc P f.params.toList s.vars apart W args.toList ds gs before)
  (fM:∀(b:Nat) (sp:Nat->Bool) (hd:Bool),DataW.TrodAll enc P W' b sp hd f.resultTypes.toList (v.resultList f.resultTypes.size) (s.fn H (ds++gs)).results [])
  (Q1:∀sp:Nat->Bool,(∀p∈before,sp p.block=true)->DataW.TrodAll enc P W' 0 sp true f.params.toList args.toList (s.fn H (ds++gs)).args pa)
  (Xd:∀sp:Nat->Bool,(∀p∈before,sp p.block=true)->DataW.TrodVars enc P W' sp s.vars (s.fn H (ds++gs)).vars pv)
  (hps:before=pa++pv) (hb:Below W.heap.size W W')
  (Et:∀(j:Nat) (t:TypeId) (r:Value),f.resultTypes[j]? =some t->(v.resultList f.resultTypes.size)[j]? =some r->Value.okWide P W' .any 0 t r):
  s.post enc P f apart fresh handsOn again W args v W':=by
 have old:∀p∈before,p.block<W.heap.size:=fun p hp=>hW.lt p hp;have Xb:∀p∈before,(fun b=>decide (b<W.heap.size)) p.block=true:=fun p hp=>by simpa using old p hp
 refine⟨ds,gs,before,[],pa,pv,hW,fM _ _ _,Q1 _ Xb,Xd _ Xb,?_,fun _=> ?_⟩
 ·refine World.keptBut_mono (fun p hp=>⟨hp,?_⟩) (hb.frame (· ∈before));rw[hps,ah]at hp;exact Or.inr hp
 ·obtain⟨_,_,_,_,_,hz,hn⟩:=hW;refine⟨Et,_,_,([]++pa)++pv,⟨[]++pa,pv,trodAll_append (Q1 _ (fun _ _=>rfl)) (fM _ _ _),Xd _ (fun _ _=>rfl),rfl,?_,?_⟩,?_⟩
  ·intro b off hp;have kF:MemPlace.cell b off∈before:=by rw[hps];simpa using hp
   rw[hb.frozen (old _ kF)];exact hz b off kF
  ·intro ha;have :=hn ha;rw[hps]at this;simpa using this
  ·intro p hp _;rw[hps];simpa using hp
end
section
open Go.ChangeShapes Go.WideShapes Go.ChangeAt Go.RowKit Go.Deep
theorem laid:laidOutB Tryz.prog=true:=by kernel_rfl
theorem xa {H:Type}{enc:TypeId×Value->H}{t:TypeId}(hr:Tryz.prog.readableRec t=true)(gV:t<Tryz.prog.types.size){W W':World}{v:Value}{d:DataW H}{ps:List MemPlace}{sp:Nat->Bool}
  (h:DataW.Trod enc Tryz.prog W 0 (fun _=>true) true t v d ps)(hb:Below W.heap.size W W')(bw:∀x∈ps,x.block<W.heap.size)(hs:∀p∈ps,sp p.block=true):
  DataW.Trod enc Tryz.prog W' 0 sp true t v d ps:=
 WideElems.Trod_stays laid hr gV h (fun x hx=>hb.same (bw x hx)) hs
section
variable {H:Type} {enc:TypeId×Value->H} {P:Program} {w:World} {base:Nat} {spare:Nat->Bool} {held:Bool}
end
end
section
open Go.ChangeShapes Go.WideShapes Go.ChangeAt Go.RowKit Go.Deep Go.Joins
section
variable {H:Type} {enc:TypeId×Value->H} {w:World} {base:Nat} {spare:Nat->Bool} {held:Bool}
theorem og:Tryz.prog.cellsOf 27 =8:=by kernel_rfl
theorem zv:Tryz.prog.cellsOf 63 =3:=by kernel_rfl
theorem E6:Tryz.prog.cellsOf 93 =3:=by kernel_rfl
theorem sL:Tryz.prog.cellsOf 134 =3:=by kernel_rfl
theorem gJ:Tryz.prog.cellsOf 3 =1:=by kernel_rfl
theorem nV:Tryz.prog.cellsOf 22 =1:=by kernel_rfl
theorem Cm:Tryz.prog.cellsOf 23 =1:=by kernel_rfl
theorem Cn:Tryz.prog.cellsOf 24 =1:=by kernel_rfl
theorem E5:Tryz.prog.cellsOf 25 =1:=by kernel_rfl
theorem ya:Tryz.prog.cellsOf 9 =1:=by kernel_rfl
theorem E7:Tryz.prog.bytesOf 3 =8:=by kernel_rfl
theorem zw:Tryz.prog.bytesOf 63 =24:=by kernel_rfl
theorem E8:Tryz.prog.bytesOf 93 =24:=by kernel_rfl
theorem Co:Tryz.prog.bytesOf 134 =40:=by kernel_rfl
theorem sa {a:Addr}{v:Value}(h:w.cell? a=some v):∃b o,a=⟨b,o,none⟩:=by
 obtain⟨b,o,s⟩:=a;unfold World.cell? at h;split at h
 ·split at h
  ·cases h
  ·rename_i Ti;exact⟨b,o,by cases s<;>simp_all⟩
 ·cases h
theorem Ld (a:Addr):a.add 0=a:=by unfold Addr.add;exact aae rfl
theorem CA (b o n:Nat):(Addr.mk b o none).add n=⟨b,o+n,none⟩:=by unfold Addr.add;split<;>simp_all
theorem jC {n:Nat}{cs:List Value}{x:DataW H×List MemPlace}(h:DataW.trod enc Tryz.prog w base spare held n 22 cs=some x)(hb:∀n∈x.1.weights Tryz.prog 22,n<=reachBytes):
  ∃(A:Option Addr) (c:Nat) (l:List Int),cs=[.slice A l.length c]/\l.length<=c/\c<=maxLen/\Rd w A l/\Ra l/\l.length<=17592186044416/\(A=none->l.length=0/\c=0):=by
 rcases open_ints Tryz.underlying22 Tryz.underlying3 gJ h with⟨e1,fN⟩ |⟨a,len,cap,zs,e1,tS,Eu,hm,hz,fN,kq,hwf⟩
 ·exact⟨none,0,[],e1,ap _,by simp[maxLen],fun h=>absurd h (aI _),fun j hj=>absurd hj (aI _),by simp,fun _=>⟨rfl,rfl⟩⟩
 ·have hle:len<=zs.length:=by rw[hz];split<;>omega
  have J7:(zs.take len).length=len:=by rw[bp];omega
  refine⟨some a,cap,zs.take len,by rw[e1,J7],by omega,hm,fun hp=> ?_,fun j hj=> ?_,?_,fun h=>by cases h⟩
  ·rw[J7]at hp;obtain⟨b,o,rfl⟩:=sa (kq 0 (by omega));refine⟨b,o,rfl,fun j hj=> ?_⟩;rw[J7]at hj;have :=kq j (by omega);rw[CA]at this;rw[this];have QI:j<zs.length:=by omega
   simp[ae,hj]
  ·rw[J7]at hj;have QI:j<zs.length:=by omega
   have :=Go.Joins.in64_of_wf (hwf zs[j] (j5 QI));have e:(zs.take len)[j]! =zs[j]:=by simp[ae,hj,QI]
   rw[e];exact this
  ·have h1:=hb ((len+(zs.length-len))*8) (by rw[fN];simp[DataW.weights,Tryz.underlying22,E7,lits];omega);rw[J7];simp only[reachBytes]at h1;omega
theorem Dm {t e:TypeId}{f0 f1 f2:Field}(ht:Tryz.prog.underlying t=some (.slice e))(he:Tryz.prog.underlying e=some (.struct #[f0,f1,f2]))(ce:Tryz.prog.cellsOf e=3)(be:Tryz.prog.bytesOf e=24)
  (o0:f0.offset=0/\f0.type=3)(o1:f1.offset=1/\f1.type=3)(o2:f2.offset=2/\f2.type=3)
  {n:Nat} {cs:List Value} {x:DataW H×List MemPlace} (h:DataW.trod enc Tryz.prog w base spare held n t cs=some x) (hb:∀n∈x.1.weights Tryz.prog t,n<=reachBytes):
  ∃(A:Option Addr) (c:Nat) (l:List T3),cs=[.slice A l.length c]/\XT w A l/\Rt l/\l.length<=5864062014635/\(A=none->l.length=0/\c=0):=by
 rcases open_slice ht h with⟨h0,_⟩ |⟨a,len,cap,m,n',D,Pl,h0,tS,hl,hm,yD,qg,hx⟩
 ·exact⟨none,0,[],h0,fun h=>absurd h (aI _),fun j hj=>absurd hj (aI _),by simp,fun _=>⟨rfl,rfl⟩⟩
 ·have ux:len<=m:=by rw[yD];split<;>omega
  have xt:∀i,i<len->∃z:T3,(eh z.a/\eh z.b/\eh z.c)/\w.cell? (a.add (i*3))=some (.int .i64 z.a)/\w.cell? ((a.add (i*3)).add 1)=some (.int .i64 z.b)/\w.cell? ((a.add (i*3)).add 2)=some (.int .i64 z.c):=by
   intro i hi;obtain⟨cs',hc,Tf⟩:=hx i (by omega);rw[ce]at hc;obtain⟨y0,y1,y2,n2,_,hlen,g0,g1,g2⟩:=trod_struct3 he Tf;rw[ce]at hlen;rw[o0.1,o0.2,gJ]at g0;rw[o1.1,o1.2,gJ]at g1;rw[o2.1,o2.2,gJ]at g2
   match cs',hlen with
   |[v0,v1,v2],_=>
    simp only[List.drop_zero,List.drop_succ_cons,List.take_succ_cons,List.take_zero]at g0 g1 g2;obtain⟨z0,e0,_,w0⟩:=DataW.trod_int Tryz.underlying3 g0;obtain⟨z1,e1,_,w1⟩:=DataW.trod_int Tryz.underlying3 g1;obtain⟨z2,e2,_,w2⟩:=DataW.trod_int Tryz.underlying3 g2;cases e0;cases e1;cases e2;obtain⟨_,_,tT⟩:=World.cells?_some hc;have a0:=tT 0 (by omega);have a1:=tT 1 (by omega);have a2:=tT 2 (by omega);rw[Ld]at a0;exact⟨⟨z0,z1,z2⟩,⟨Go.Joins.in64_of_wf w0,Go.Joins.in64_of_wf w1,Go.Joins.in64_of_wf w2⟩,a0,a1,a2⟩
  obtain⟨F,hF⟩:=choose_lt xt;refine⟨some a,cap,(List.range len).map F,by simp[h0],fun sj=> ?_,fun j hj=> ?_,?_,fun h=>by cases h⟩
  ·simp only[aq,cu]at sj;have OC:=(hF 0 sj).2.1;rw[Nat.zero_mul]at OC;rw[Ld]at OC;obtain⟨b,o,rfl⟩:=sa OC;refine⟨b,o,rfl,fun j hj=> ?_⟩;simp only[aq,cu]at hj;have :=(hF j hj).2;simp only[CA]at this;simp only[ae,aJ,nc hj,cD,ay];exact this
  ·simp only[aq,cu]at hj;simp only[ae,aJ,nc hj,cD,ay];exact(hF j hj).1
  ·have h1:=hb ((len+(m-len))*24) (by rw[qg];simp[DataW.weights,ht,be]);simp only[reachBytes]at h1;simp only[aq,cu];omega
theorem PH {n:Nat}{cs:List Value}{x:DataW H×List MemPlace}(h:DataW.trod enc Tryz.prog w base spare held n 25 cs=some x)(hb:∀n∈x.1.weights Tryz.prog 25,n<=reachBytes):
  ∃(A:Option Addr) (c:Nat) (l:List Nm),cs=[.slice A l.length c]/\RdM w A l/\Rm l/\l.length<=3518437208781/\(A=none->l.length=0/\c=0):=by
 rcases open_slice Tryz.underlying25 h with⟨h0,_⟩ |⟨a,len,cap,m,n',D,Pl,h0,tS,hl,hm,yD,qg,hx⟩
 ·exact⟨none,0,[],h0,fun h=>absurd h (aI _),fun j hj=>absurd hj (aI _),by simp,fun _=>⟨rfl,rfl⟩⟩
 ·have ux:len<=m:=by rw[yD];split<;>omega
  have xt:∀i,i<len->∃z:Nm,(z.k.size<=maxLen/\eh z.i/\z.t.size<=maxLen)/\w.cell? (a.add (i*3))=some (.string z.k)/\w.cell? ((a.add (i*3)).add 1)=some (.int .i64 z.i)/\w.cell? ((a.add (i*3)).add 2)=some (.string z.t):=by
   intro i hi;obtain⟨cs',hc,Tf⟩:=hx i (by omega);rw[sL]at hc;obtain⟨y0,y1,y2,n2,_,hlen,g0,g1,g2⟩:=trod_struct3 Tryz.underlying134 Tf;rw[sL]at hlen;simp only[gJ,ya]at g0 g1 g2
   match cs',hlen with
   |[v0,v1,v2],_=>
    simp only[List.drop_zero,List.drop_succ_cons,List.take_succ_cons,List.take_zero]at g0 g1 g2;obtain⟨z0,e0,_,w0⟩:=DataW.trod_string Tryz.underlying9 g0;obtain⟨z1,e1,_,w1⟩:=DataW.trod_int Tryz.underlying3 g1;obtain⟨z2,e2,_,w2⟩:=DataW.trod_string Tryz.underlying9 g2;cases e0;cases e1;cases e2;obtain⟨_,_,tT⟩:=World.cells?_some hc;have a0:=tT 0 (by omega);have a1:=tT 1 (by omega);have a2:=tT 2 (by omega);rw[Ld]at a0;exact⟨⟨z0,z1,z2⟩,⟨w0,Go.Joins.in64_of_wf w1,w2⟩,a0,a1,a2⟩
  obtain⟨F,hF⟩:=choose_lt xt;refine⟨some a,cap,(List.range len).map F,by simp[h0],fun sj=> ?_,fun j hj=> ?_,?_,fun h=>by cases h⟩
  ·simp only[aq,cu]at sj;have OC:=(hF 0 sj).2.1;rw[Nat.zero_mul]at OC;rw[Ld]at OC;obtain⟨b,o,rfl⟩:=sa OC;refine⟨b,o,rfl,fun j hj=> ?_⟩;simp only[aq,cu]at hj;have :=(hF j hj).2;simp only[CA]at this;simp only[ae,aJ,nc hj,cD,ay];exact this
  ·simp only[aq,cu]at hj;simp only[ae,aJ,nc hj,cD,ay];exact(hF j hj).1
  ·have h1:=hb ((len+(m-len))*40) (by rw[qg];simp[DataW.weights,Tryz.underlying25,Co]);simp only[reachBytes]at h1;simp only[aq,cu];omega
theorem W4 {α:Type}{l:List α}(h:l.length=8):∃a b c d e f g h,l=[a,b,c,d,e,f,g,h]:=by
 match l,h with
 |[a,b,c,d,e,f,g,h],_=>exact⟨a,b,c,d,e,f,g,h,rfl⟩
theorem AY {P:Program}{t:TypeId}{f0 f1 f2 f3 f4 f5 f6 f7:Field}{fuel:Nat}{cs:List Value}{x:DataW H×List MemPlace}(ht:P.underlying t=some (.struct #[f0,f1,f2,f3,f4,f5,f6,f7]))(h:DataW.trod enc P w base spare held fuel t cs=some x):
  ∃y0 y1 y2 y3 y4 y5 y6 y7 n,x.1= .agg ([y0,y1,y2,y3,y4,y5,y6,y7].map (·.1))/\cs.length=P.cellsOf t/\DataW.trod enc P w base spare held n f0.type ((cs.drop f0.offset).take (P.cellsOf f0.type))=some y0/\DataW.trod enc P w base spare held n f1.type ((cs.drop f1.offset).take (P.cellsOf f1.type))=some y1/\DataW.trod enc P w base spare held n f2.type ((cs.drop f2.offset).take (P.cellsOf f2.type))=some y2/\DataW.trod enc P w base spare held n f3.type ((cs.drop f3.offset).take (P.cellsOf f3.type))=some y3/\DataW.trod enc P w base spare held n f4.type ((cs.drop f4.offset).take (P.cellsOf f4.type))=some y4/\DataW.trod enc P w base spare held n f5.type ((cs.drop f5.offset).take (P.cellsOf f5.type))=some y5/\DataW.trod enc P w base spare held n f6.type ((cs.drop f6.offset).take (P.cellsOf f6.type))=some y6/\DataW.trod enc P w base spare held n f7.type ((cs.drop f7.offset).take (P.cellsOf f7.type))=some y7:=by
 obtain⟨xs,n,_,hx,hl,hlen,hf⟩:=DataW.trod_struct ht h;obtain⟨y0,y1,y2,y3,y4,y5,y6,y7,rfl⟩:=W4 (l:=xs) hlen;exact⟨y0,y1,y2,y3,y4,y5,y6,y7,n,by rw[hx],hl,by simpa using hf 0 f0 rfl,by simpa using hf 1 f1 rfl,by simpa using hf 2 f2 rfl,by simpa using hf 3 f3 rfl,by simpa using hf 4 f4 rfl,by simpa using hf 5 f5 rfl,by simpa using hf 6 f6 rfl,by simpa using hf 7 f7 rfl⟩
theorem IM {n:Nat}{cs:List Value}{x:DataW H×List MemPlace}(h:DataW.trod enc Tryz.prog w base spare held n 27 cs=some x)(hb:∀n∈x.1.weights Tryz.prog 27,n<=reachBytes):
  ∃(Hh:Hd) (C:Pc),cs=(iz Hh C).toList/\fH w Hh C:=by
 obtain⟨y0,y1,y2,y3,y4,y5,y6,y7,n2,hx,hl,XE,cX,bW,dh,eS,ev,gW,gy⟩:=AY Tryz.underlying27 h;rw[og]at hl;obtain⟨v0,v1,v2,v3,v4,v5,v6,v7,rfl⟩:=W4 hl;simp only[gJ,nV,Cm,Cn,E5,List.drop_zero,List.drop_succ_cons,List.take_succ_cons,List.take_zero]at XE cX bW dh eS ev gW gy;have hw:∀(j:Nat) (t:TypeId) (y:DataW H×List MemPlace),[3,22,23,22,22,22,24,25][j]? =some t->[y0,y1,y2,y3,y4,y5,y6,y7][j]? =some y->∀n∈y.1.weights Tryz.prog t,n<=reachBytes:=by
  intro j t y ht hy k hk;refine hb k ?_;rw[hx];have e:(DataW.agg ([y0,y1,y2,y3,y4,y5,y6,y7].map (·.1))).weights Tryz.prog 27 =DataW.weightsEach Tryz.prog [3,22,23,22,22,22,24,25] ([y0,y1,y2,y3,y4,y5,y6,y7].map (·.1)):=by rw[DataW.weights,Tryz.underlying27];rfl
  rw[e];exact DataW.weights_mem_each (j:=j) ht (by rw[aJ,hy];rfl) k hk
 obtain⟨mx,e0,_,w0⟩:=DataW.trod_int Tryz.underlying3 XE;obtain⟨A1,c1,l1,e1,_,_,r1,q1,b1,n1⟩:=jC cX (hw 1 _ _ rfl rfl);obtain⟨A2,c2,l2,e2,r2,q2,b2,n2'⟩:=Dm Tryz.underlying23 Tryz.underlying63 zv zw ⟨rfl,rfl⟩ ⟨rfl,rfl⟩ ⟨rfl,rfl⟩ bW (hw 2 _ _ rfl rfl);obtain⟨A3,c3,l3,e3,_,_,r3,q3,b3,n3⟩:=jC dh (hw 3 _ _ rfl rfl);obtain⟨A4,c4,l4,e4,_,_,r4,q4,b4,n4⟩:=jC eS (hw 4 _ _ rfl rfl);obtain⟨A5,c5,l5,e5,_,_,r5,q5,b5,n5⟩:=jC ev (hw 5 _ _ rfl rfl);obtain⟨A6,c6,l6,e6,r6,q6,b6,n6⟩:=Dm Tryz.underlying24 Tryz.underlying93 E6 E8 ⟨rfl,rfl⟩ ⟨rfl,rfl⟩ ⟨rfl,rfl⟩ gW (hw 6 _ _ rfl rfl);obtain⟨A7,c7,l7,e7,r7,q7,b7,n7⟩:=PH gy (hw 7 _ _ rfl rfl);simp only[List.cons.injEq,and_true]at e0 e1 e2 e3 e4 e5 e6 e7;subst e0 e1 e2 e3 e4 e5 e6 e7;exact⟨⟨A1,c1,A2,c2,A3,c3,A4,c4,A5,c5,A6,c6,A7,c7⟩,⟨mx,l1,l2,l3,l4,l5,l6,l7⟩,rfl,
  ⟨r1,r2,r3,r4,r5,r6,r7,b1,b2,b3,b4,b5,b6,b7,Go.Joins.in64_of_wf w0,q1,q2,q3,q4,q5,q6,q7⟩⟩
theorem zu:Tryz.prog.cellsOf 28 =1:=by kernel_rfl
theorem Cp:Tryz.prog.bytesOf 22 =24:=by kernel_rfl
theorem pe {P:Program}{e:TypeId}{d:DataW H}{n:Nat}(hn:n∈d.weights P e):∀{ds:List (DataW H)},d∈ds->n∈DataW.weightsAll P e ds
 |[],h=>by cases h
 |a::r,h=>by
  rw[DataW.weightsAll];rcases av.1 h with h1 |h1
  ·rw[<-h1];exact an _ hn
  ·exact bk _ (pe hn h1)
theorem Kr {α:Type}[Inhabited α]{len j:Nat}{F:Nat->α}(hj:j<len):((List.range len).map F)[j]! =F j:=by simp only[ae,aJ,nc hj,cD,ay]
theorem nM {n:Nat}{cs:List Value}{x:DataW H×List MemPlace}(h:DataW.trod enc Tryz.prog w base spare held n 28 cs=some x)(hb:∀n∈x.1.weights Tryz.prog 28,n<=reachBytes):
  ∃(A:Option Addr) (c:Nat) (hs:List Ls),cs=[.slice A hs.length c]/\j3 w A hs/\hs.length<=5864062014805:=by
 rcases open_slice1 Tryz.underlying28 nV h with⟨h0,_⟩ |⟨a,len,cap,m,n',V,D,Pl,h0,tS,hl,hm,yD,qg,hx⟩
 ·exact⟨none,0,[],h0,⟨fun h=>absurd h (aI _),fun j hj=>absurd hj (aI _)⟩,by simp⟩
 ·have ux:len<=m:=by rw[yD];split<;>omega
  have xt:∀i,i<len->∃L:Ls,w.cell? (a.add i)=some L.val/\zy w L:=by intro i hi;obtain⟨hc,Tf⟩:=hx i (by omega);obtain⟨A1,k1,l1,h1,_,_,g1,g2,g3,g4⟩:=jC Tf (fun n hn=>hb n (by rw[qg];simp only[DataW.weights,Tryz.underlying28];exact aY _ (an _ (pe hn (aG.2 ⟨i,cH.2 hi,rfl⟩)))));simp only[List.cons.injEq,and_true]at h1;exact⟨⟨A1,k1,l1⟩,by rw[hc,h1];rfl,g1,g2,g3,g4⟩
  obtain⟨F,hF⟩:=choose_lt xt;refine⟨some a,cap,(List.range len).map F,by simp[h0],⟨fun sj=> ?_,fun j hj=> ?_⟩,?_⟩
  ·simp only[aq,cu]at sj;have OC:=(hF 0 sj).1;obtain⟨b,o,rfl⟩:=sa OC;refine⟨b,o,rfl,fun j hj=> ?_⟩;simp only[aq,cu]at hj;rw[Kr hj];have :=(hF j hj).1;rwa[CA]at this
  ·simp only[aq,cu]at hj;rw[Kr hj];exact(hF j hj).2
  ·have h1:=hb ((len+(m-len))*24) (by rw[qg];simp[DataW.weights,Tryz.underlying28,Cp]);simp only[reachBytes]at h1;simp only[aq,cu];omega
theorem GF {n:Nat}{cs:List Value}{x:DataW H×List MemPlace}(h:DataW.trod enc Tryz.prog w base spare held n 28 cs=some x){A:Option Addr}{c k:Nat}(e1:cs=[.slice A k c]):
  k<=Rows.uptoBulk x.1/\(A=none->c=0):=by
 rcases open_slice1 Tryz.underlying28 nV h with⟨h0,_⟩ |⟨a,len,cap,m,n',V,D,Pl,h0,tS,hl,hm,yD,qg,hx⟩
 ·rw[e1]at h0;simp only[List.cons.injEq,Value.slice.injEq,and_true]at h0;exact⟨by omega,fun _=>h0.2.2⟩
 ·rw[e1]at h0;simp only[List.cons.injEq,Value.slice.injEq,and_true]at h0;refine⟨?_,fun hA=> ?_⟩
  ·rw[qg,h0.2.1];simp only[Rows.uptoBulk];have :=bulks.length_le (H:=H) ((List.range len).map D);rw[aq,cu]at this;omega
  ·rw[hA]at h0;cases h0.1
theorem zt:Tryz.prog.cellsOf 30 =14:=by kernel_rfl
theorem adb {α:Type}{l:List α}(h:l.length=7):∃a b c d e f g,l=[a,b,c,d,e,f,g]:=by
 match l,h with
 |[a,b,c,d,e,f,g],_=>exact⟨a,b,c,d,e,f,g,rfl⟩
theorem YL {α:Type}{l:List α}(h:l.length=14):∃a b c d e f g h i j k m n o,l=[a,b,c,d,e,f,g,h,i,j,k,m,n,o]:=by
 match l,h with
 |[a,b,c,d,e,f,g,h,i,j,k,m,n,o],_=>exact⟨a,b,c,d,e,f,g,h,i,j,k,m,n,o,rfl⟩
theorem AZ {P:Program}{t:TypeId}{f0 f1 f2 f3 f4 f5 f6:Field}{fuel:Nat}{cs:List Value}{x:DataW H×List MemPlace}(ht:P.underlying t=some (.struct #[f0,f1,f2,f3,f4,f5,f6]))(h:DataW.trod enc P w base spare held fuel t cs=some x):
  ∃y0 y1 y2 y3 y4 y5 y6 n,x.1= .agg ([y0,y1,y2,y3,y4,y5,y6].map (·.1))/\cs.length=P.cellsOf t/\DataW.trod enc P w base spare held n f0.type ((cs.drop f0.offset).take (P.cellsOf f0.type))=some y0/\DataW.trod enc P w base spare held n f1.type ((cs.drop f1.offset).take (P.cellsOf f1.type))=some y1/\DataW.trod enc P w base spare held n f2.type ((cs.drop f2.offset).take (P.cellsOf f2.type))=some y2/\DataW.trod enc P w base spare held n f3.type ((cs.drop f3.offset).take (P.cellsOf f3.type))=some y3/\DataW.trod enc P w base spare held n f4.type ((cs.drop f4.offset).take (P.cellsOf f4.type))=some y4/\DataW.trod enc P w base spare held n f5.type ((cs.drop f5.offset).take (P.cellsOf f5.type))=some y5/\DataW.trod enc P w base spare held n f6.type ((cs.drop f6.offset).take (P.cellsOf f6.type))=some y6:=by
 obtain⟨xs,n,_,hx,hl,hlen,hf⟩:=DataW.trod_struct ht h;obtain⟨y0,y1,y2,y3,y4,y5,y6,rfl⟩:=adb (l:=xs) hlen;exact⟨y0,y1,y2,y3,y4,y5,y6,n,by rw[hx],hl,by simpa using hf 0 f0 rfl,by simpa using hf 1 f1 rfl,by simpa using hf 2 f2 rfl,by simpa using hf 3 f3 rfl,by simpa using hf 4 f4 rfl,by simpa using hf 5 f5 rfl,by simpa using hf 6 f6 rfl⟩
theorem DA {n:Nat}{cs:List Value}{x:DataW H×List MemPlace}(h:DataW.trod enc Tryz.prog w base spare held n 30 cs=some x)(hb:∀n∈x.1.weights Tryz.prog 30,n<=reachBytes):
  ∃(Hh:Qh) (q:Qn),cs=(mZ Hh q).toList/\qm w Hh q:=by
 obtain⟨y0,y1,y2,y3,y4,y5,y6,n2,hx,hl,XE,cX,bW,dh,eS,ev,gW⟩:=AZ Tryz.underlying30 h;rw[zt]at hl;obtain⟨v0,v1,v2,v3,v4,v5,v6,v7,v8,v9,v10,v11,v12,v13,rfl⟩:=YL hl;simp only[gJ,zu,og,List.drop_zero,List.drop_succ_cons,List.take_succ_cons,List.take_zero]at XE cX bW dh eS ev gW;have hw:∀(j:Nat) (t:TypeId) (y:DataW H×List MemPlace),[27,28,28,28,3,3,3][j]? =some t->[y0,y1,y2,y3,y4,y5,y6][j]? =some y->∀k∈y.1.weights Tryz.prog t,k<=reachBytes:=by
  intro j t y ht hy k hk;refine hb k ?_;rw[hx];have e:(DataW.agg ([y0,y1,y2,y3,y4,y5,y6].map (·.1))).weights Tryz.prog 30 =DataW.weightsEach Tryz.prog [27,28,28,28,3,3,3] ([y0,y1,y2,y3,y4,y5,y6].map (·.1)):=by rw[DataW.weights,Tryz.underlying30];rfl
  rw[e];exact DataW.weights_mem_each (j:=j) ht (by rw[aJ,hy];rfl) k hk
 obtain⟨Hc,C,e0,ci⟩:=IM XE (hw 0 _ _ rfl rfl);obtain⟨A1,c1,l1,e1,r1,b1⟩:=nM cX (hw 1 _ _ rfl rfl);obtain⟨A2,c2,l2,e2,r2,b2⟩:=nM bW (hw 2 _ _ rfl rfl);obtain⟨A3,c3,l3,e3,r3,b3⟩:=nM dh (hw 3 _ _ rfl rfl);obtain⟨z4,e4,_,w4⟩:=DataW.trod_int Tryz.underlying3 eS;obtain⟨z5,e5,_,w5⟩:=DataW.trod_int Tryz.underlying3 ev;obtain⟨z6,e6,_,w6⟩:=DataW.trod_int Tryz.underlying3 gW;simp only[iz,List.cons.injEq,and_true]at e0 e1 e2 e3 e4 e5 e6;obtain⟨a0,a1,a2,a3,a4,a5,a6,a7⟩:=e0;subst a0 a1 a2 a3 a4 a5 a6 a7 e1 e2 e3 e4 e5 e6;exact⟨⟨Hc,A1,c1,A2,c2,A3,c3⟩,⟨C,l1,l2,l3,z4,z5,z6⟩,rfl,⟨ci,r1,r2,r3,b1,b2,b3,Go.Joins.in64_of_wf w4,Go.Joins.in64_of_wf w5,Go.Joins.in64_of_wf w6⟩⟩
end
end
end Go.Proofs.YtjmmpfjcpdepjaaGreatDoor
namespace Go.Proofs.YtjmmpfjcpdepjaaGreatDoor.checkerHolds
open Go Go.ChangeShapes Go.WideShapes Go.ChangeAt Go.RowKit Go.Deep
theorem own:ownKnob Tryz.prog.godebug=none:=by kernel_rfl
noncomputable def RI:Array Value:=#[.int .u8 128, .int .u8 191, .int .u8 160, .int .u8 191, .int .u8 128, .int .u8 159, .int .u8 144, .int .u8 191, .int .u8 128, .int .u8 143, .int .u8 0, .int .u8 0, .int .u8 0, .int .u8 0, .int .u8 0, .int .u8 0, .int .u8 0, .int .u8 0, .int .u8 0, .int .u8 0, .int .u8 0, .int .u8 0, .int .u8 0, .int .u8 0, .int .u8 0, .int .u8 0, .int .u8 0, .int .u8 0, .int .u8 0, .int .u8 0, .int .u8 0, .int .u8 0]
noncomputable def Re:Array Value:=(Go.Pinned.utf8FirstZ.map fun n=>Value.int .u8 (Int.ofNat n)).toArray
def ij (cs:Array Value):Obj->Obj
 | .cells _ t frozen=> .cells cs t frozen
 |o=>o
noncomputable def tF (os:Os):World:=
 { World.holding Tryz.prog os ⟨#[],#[],[]⟩with heap:=((World.holding Tryz.prog os ⟨#[],#[],[]⟩).heap.modify 2 (ij RI)).modify 1 (ij Re) }
noncomputable def Jz:Array Value:=#[.agg #[.int .i64 0, .slice none 0 0, .slice none 0 0, .slice none 0 0, .slice none 0 0, .slice none 0 0, .slice none 0 0, .slice none 0 0, .slice none 0 0, .slice none 0 0, .slice none 0 0, .int .i64 0, .int .i64 0, .int .i64 0], .slice none 0 0, .slice none 0 0]
theorem PZ (os:Os):laidMet Tryz.prog Rows.checkerHoldsUptoRow.laid ((tF os).forCall (fun _ _=>0) ⟨#[],Jz,[]⟩).memory:=
 laidMet_of_run3 8 (by kernel_rfl) (by kernel_rfl) (by kernel_rfl)
theorem reads (os:Os){H:Type}(enc:TypeId×Value->H):∃places,DataW.whole enc Tryz.prog ((tF os).forCall (fun _ _=>0) ⟨#[],Jz,[]⟩).memory Tryz.f3.params.toList Rows.checkerHoldsSpec.vars false Jz.toList 8=some ([.agg [.agg [.lit (.int .i64 0), .nil, .nil, .nil, .nil, .nil, .nil, .nil], .nil, .nil, .nil, .lit (.int .i64 0), .lit (.int .i64 0), .lit (.int .i64 0)], .nil, .nil],[],places):=
 ⟨[],by kernel_rfl⟩
theorem Rv (H:Type)(enc:TypeId×Value->H)(W:World)(base:Nat)(args:Array Value)(ds gs:List (DataW H))(before:List MemPlace)
  (Xf:∀(j:Nat) t v,Tryz.f3.params[j]? =some t->args[j]? =some v->Value.okWide Tryz.prog W .any base t v)
  (hW:DataW.Whole enc Tryz.prog Tryz.f3.params.toList Rows.checkerHoldsSpec.vars false W args.toList ds gs before) (hk:Rows.uptoSmall H (ds++gs)=true)
  (adJ:(DataW.weightsEach Tryz.prog (Tryz.f3.params.toList++(Rows.OpenSpec.upto Rows.checkerHoldsSpec).bare.plain.varTypes Tryz.prog) (ds++gs)).all (· <=reachBytes)=true):
  Calls Tryz.prog 3 args W fun e W'=>∃v,e= .returned v/\Rows.checkerHoldsSpec.post enc Tryz.prog Tryz.f3 false true false false W args v W':=by
 have zb:∀(j:Nat) t v,Tryz.f3.params[j]? =some t->args[j]? =some v->Value.okWide Tryz.prog W .any base t v:=Xf;have ou:(DataW.weightsEach Tryz.prog (Tryz.f3.params.toList++(Rows.OpenSpec.upto Rows.checkerHoldsSpec).bare.plain.varTypes Tryz.prog) (ds++gs)).all (· <=reachBytes)=true:=adJ;clear adJ;have Kl:=hW;obtain⟨p,q,hA0,hV,rfl,tN,yC⟩:=hW;have hA:DataW.TrodAll enc Tryz.prog W 0 (fun _=>true) true Tryz.f3.params.toList args.toList ds p:=hA0;rw[Tryz.params3]at hA zb ou;obtain⟨v0,vs0,d0,ds0,p0,q0,Q1,rfl,rfl,h0,r0⟩:=trodAll_cons hA;obtain⟨v1,vs1,d1,ds1,p1,q1,rfl,rfl,rfl,h1,r1⟩:=trodAll_cons r0;obtain⟨v2,vs2,d2,ds2,p2,q2,rfl,rfl,rfl,h2,r2⟩:=trodAll_cons r1;obtain⟨rfl,rfl,rfl⟩:=trodAll_nil r2;obtain rfl :args=#[v0,v1,v2]:=by cases args;simp_all
 obtain⟨rfl,rfl⟩:=trodVars_none hV;obtain⟨cs,rfl,yG⟩:=okWide_struct Tryz.underlying30 (zb 0 30 v0 rfl rfl);obtain⟨a1,ajU,alS,rfl⟩:=okWide_slice Tryz.underlying28 (zb 1 28 v1 rfl rfl);obtain⟨a2,ajT,alR,rfl⟩:=okWide_slice Tryz.underlying22 (zb 2 22 v2 rfl rfl);have Oh:∀n∈d0.weights Tryz.prog 30,n<=reachBytes:=fun n hn=>by have :=ep.1 ou _ (DataW.weights_mem_each (j:=0) (t:=30) rfl rfl n hn);simpa using this
 have dP:∀n∈d1.weights Tryz.prog 28,n<=reachBytes:=fun n hn=>by have :=ep.1 ou _ (DataW.weights_mem_each (j:=1) (t:=28) rfl rfl n hn);simpa using this
 have oG:∀n∈d2.weights Tryz.prog 22,n<=reachBytes:=fun n hn=>by have :=ep.1 ou _ (DataW.weights_mem_each (j:=2) (t:=22) rfl rfl n hn);simpa using this
 have yI:=bulks.bound hk;simp only[bZ,Rows.uptoBulkAll]at yI;have Kp:=h0;have yK:=h1;have h2':=h2;obtain⟨ap8,XE⟩:=h0;obtain⟨ap7,cX⟩:=h1;obtain⟨ap6,bW⟩:=h2;obtain⟨Hh,Q,Oz,hqi⟩:=DA XE Oh;obtain⟨A,c,l,mj,ta,yE⟩:=nM cX dP;obtain⟨Kf,hlz⟩:=GF cX mj;obtain⟨X,xc,xl,hxv,_,_,g1,g2,g3,g4⟩:=jC bW oG;have Nd:cs=mZ Hh Q:=by
  have :cs.toList=(mZ Hh Q).toList:=by simpa[Value.cells]using Oz
  exact Array.ext' this
 have Vl:Value.slice a1 ajU alS= .slice A l.length c:=by simpa[Value.cells]using mj
 have adu:Value.slice a2 ajT alR= .slice X xl.length xc:=by simpa[Value.cells]using hxv
 subst Nd;rw[Vl]at yK⊢;rw[adu]at h2'⊢;clear hA0 Xf XE cX bW;have bw:∀x∈p0++(p1++(p2++[]))++[],x.block<W.heap.size:=fun x hx=>by simpa using Kl.lt x (by simpa using hx)
 refine(Ck W Hh Q hqi A c l ta hlz (by simp only at Kf;omega) ⟨X,xc,xl⟩ ⟨g1,g2,g3,g4⟩).mono fun e W' ⟨he,hg⟩=> ?_;subst he;rw[Vl,adu]at Kl;exact⟨_,rfl,Gp (pa:=p0++(p1++(p2++[]))) (pv:=[]) Kl (fun _ _ _=>(trodAll_cons_mk (shut_bool Tryz.underlying4 _) trodAll_mk0))
  (fun sp Ti=>trodAll_cons_mk (xa (by kernel_rfl) (of_decide_eq_true (by kernel_rfl)) Kp hg.below (fun x hx=>bw x (by simp[hx])) (fun p hp=>Ti p (by simp[hp])))
   (trodAll_cons_mk (xa (by kernel_rfl) (of_decide_eq_true (by kernel_rfl)) yK hg.below (fun x hx=>bw x (by simp[hx])) (fun p hp=>Ti p (by simp[hp])))
   (trodAll_cons_mk (xa (by kernel_rfl) (of_decide_eq_true (by kernel_rfl)) h2' hg.below (fun x hx=>bw x (by simp[hx])) (fun p hp=>Ti p (by simp[hp]))) trodAll_mk0))) (fun _ _=>rfl) (by simp)
  hg.below (ok_one (by kernel_rfl) rfl (okWide_bool_mk Tryz.underlying4 _))⟩
theorem lifted (os:Os)(started:os.Started)(H:Type)(enc:TypeId×Value->H)(F:Stop.Interp):
  ReturnsInHanded {} Tryz.checked os 3 .any ((Rows.OpenSpec.upto Rows.checkerHoldsSpec).preRow enc Tryz.prog Tryz.f3 Rows.checkerHoldsUptoRow.domain false Rows.checkerHoldsUptoRow.laid) (((Rows.OpenSpec.upto Rows.checkerHoldsSpec).at F).post enc Tryz.prog Tryz.f3 false true false false):=by
 obtain⟨places,hx⟩:=reads os enc;refine returnsInHanded_of_row (C:=Tryz.checked) (s:=Rows.OpenSpec.upto Rows.checkerHoldsSpec) own started (by kernel_rfl) Tryz.func3
  (witness_row_at (enc:=enc) (C:=Tryz.checked) false (tF os) Jz rfl (by kernel_rfl) (by kernel_rfl) (by kernel_rfl)
   (OpenSpec.preRow_of_cond 8 hx (by kernel_rfl) (fun k hk=>by cases hk;kernel_rfl) (by kernel_rfl) (PZ os))) ?_
 intro W base args ds gs before zb hW _ aeN ou hL _ _;exact Rv H enc W base args ds gs before zb hW (aeN _ rfl) ou
theorem Pp:Rows.CheckerHoldsUptoSaid:=
 OpenClaim.holds_of_cond 3 Tryz.f3 rfl rfl rfl rfl rfl rfl rfl ⟨rfl,rfl,rfl,rfl,rfl⟩ rfl rfl rfl rfl rfl (by kernel_rfl) Tryz.func3 (by kernel_rfl)
  (of_decide_eq_true (by kernel_rfl)) (by unfold Func.isWrapper;first | (rw[aae (by decide+kernel)];kernel_rfl) | (rw[aac (by decide+kernel)];exact⟨rfl,rfl⟩))
  (fun os started H enc _ F=>by rw[OpenClaim.pre_eq_preRow];exact lifted os started H enc F)
theorem plain (f:FuncId)(fn:Func)(hf:Tryz.pinned.checked.prog.funcNamed "interlock/interlocklaw27.CheckerHolds" =some f)(Ki:Tryz.pinned.checked.prog.funcs[f]? =some fn):
  true=Tryz.pinned.checked.prog.looks []/\∀(j:Nat) t,fn.params[j]? =some t->Tryz.pinned.checked.prog.wantsStandIn t=false:=by
 obtain rfl :f=3 :=Option.some.inj ((show Tryz.prog.funcNamed "interlock/interlocklaw27.CheckerHolds" =some 3 by kernel_rfl).symm.trans hf) |>.symm;obtain rfl :fn=Tryz.f3 :=(Option.some.inj (Tryz.func3.symm.trans Ki)).symm;refine⟨by kernel_rfl,fun j t ht=> ?_⟩;rw[Tryz.params3]at ht;have hm:=Array.mem_of_getElem? ht;simp only[List.mem_toArray,av,cd,or_false]at hm;rcases hm with rfl |rfl |rfl
 ·exact(show Tryz.prog.wantsStandIn 30 =false by kernel_rfl)
 ·exact(show Tryz.prog.wantsStandIn 28 =false by kernel_rfl)
 ·exact(show Tryz.prog.wantsStandIn 22 =false by kernel_rfl)
theorem proved:Rows.CheckerHoldsUptoCardSaid:=
 Claim7.holds_tied_plain_at .later [] _ _ _ _ Pp (fun _ h=>by cases h) (by kernel_rfl) (fun _ h=>by cases h) checkerHoldsUpto_row_tie rfl ⟨rfl,rfl⟩ (by kernel_rfl) rfl plain (by kernel_rfl)
end Go.Proofs.YtjmmpfjcpdepjaaGreatDoor.checkerHolds
