/- Parts of a proof. -/
import Derived.Test.YtpjbaobgnhjgoaaGreatGAS
set_option linter.unusedVariables false
set_option linter.unusedSimpArgs false
set_option maxHeartbeats 16000000
set_option maxRecDepth 100000
namespace Go.Proofs.YtpjbaobgnhjgoaaGreat
open Go.RowKit
structure Un(C:Pc)(x:Int)(bn:Nat)(il:List (List UInt8))(p:Nat->List UInt8):Prop where
 bad:bn<C.aI.length/\C.aI[bn]! =x
 pos:0<il.length
 ins:∀k,k<il.length->il[k]! ∈bW C.ins.length
 st:∀k,k<=il.length->p k∈bW C.az.length
 OR:rM C (p 0)=true
 BH:∀k,k<il.length->tc C (vL C (p k) il[k]!)=true
 DU:∀k,k<il.length->p (k+1)=mR C (p k) il[k]!
 end_:lJ (vL C (p (il.length-1)) il[il.length-1]!) x=true
theorem GF(w:World)(H:Hd)(C:Pc)(h:eZ w H C)(gD:H.iA=none->C.ins.length=0/\H.iC=0)(hv:Valid C)(A:Option Addr)(c:Nat)(il:List (List UInt8))(hs:eY w A c il)(x:Int)(bn:Nat)(p:Nat->List UInt8)(hp:Un C x bn il p)(sS:il.length<=9223372036854775807):
  Calls Tryz.prog 19 #[bY H C, .slice none 0 0, .agg #[.int .i64 (bn:Int),sv (p 0), .slice A il.length c]] w fun e w'=>e= .returned (.int .i64 0)/\Fr [] w w':=by
 obtain⟨w1,eo⟩:∃W,w.alloc (.cells (fv H C) 27)=W:=⟨_,rfl⟩
 obtain⟨w2,kE⟩:∃W,w1.alloc (.cells #[.int .i64 (bn:Int),sv (p 0), .slice A il.length c] 32)=W:=⟨_,rfl⟩
 have fZ:aj (Cx w w2 H C):=(eo▸Cx.start w H C:Cx w w1 H C).keep (kE▸aR _ _);obtain⟨g2,fu⟩:∃g2,w1.heap.size=g2:=⟨_,rfl⟩
 have bG:aj (At w2 g2 32 #[.int .i64 (bn:Int),sv (p 0), .slice A il.length c]):=fu▸(kE▸At.new _ _ _:At w2 w1.heap.size 32 #[.int .i64 (bn:Int),sv (p 0), .slice A il.length c]);have bS:=ae (tV w2 H C (h.keep fZ.o.fr) gD hv);have KB:=ae (fun W (s:List UInt8) (n:Nat) (AE:s∈bW n) (hn:n<=64)=>by have :=px W (tx s) n (An AE hn) (by omega);rw[nu AE]at this;exact this:∀W (s:List UInt8) (n:Nat),s∈bW n->n<=64->Calls Tryz.prog 31 #[.string (tx s), .int .i64 n] W fun e w'=>e= .returned (.bool true)/\Fr [] W w');have AO:=ae hv;have bB:=ae hp;have KI:=ae (fun W (hW:Fr [] w W)=>qF W H C (h.keep hW) hv (hp.st 0 (aU _)));have KV:=ae (fun W (hW:Fr [] w W) k (hk:k<il.length)=>nK W H C (h.keep hW) gD hv (hp.st k (Nat.le_of_lt hk)) (hp.ins k hk));have KN:=ae (fun W (hW:Fr [] w W) k (hk:k<il.length)=>by have :=wO W H C (h.keep hW) gD hv (hp.st k (Nat.le_of_lt hk)) (hp.ins k hk);rw[<-hp.DU k hk]at this;exact this:∀W,Fr [] w W->∀k,k<il.length->Calls Tryz.prog 28 #[bY H C,sv (p k),sv il[k]!] W fun e w'=>e= .returned (.tuple #[sv (p (k+1)), .int .i64 0])/\Fr [] W w');have KA:=ae (fun W (hW:Fr [] w W) k (hk:k<il.length)=>by have :=mE W H C (h.keep hW) hv (vL C (p k) il[k]!) (aE (qac hv _ _) (by omega));rw[hp.BH k hk]at this;exact this:∀W,Fr [] w W->∀k,k<il.length->Calls Tryz.prog 15 #[bY H C, .slice none 0 0,sv (vL C (p k) il[k]!)] W fun e w'=>e= .returned (.bool true)/\Fr [] W w');have KT:=ae (fun W (hx:0<=x/\x<=9000)=>jv W (vL C (p (il.length-1)) il[il.length-1]!) x hx.1 hx.2 (aE (qac hv _ _) (by omega)));rw[hp.end_]at KT;have rN:0<=x/\x<=9000:=by have h1:=hv.b;unfold nR at h1;rw[ax,cR]at h1;have h2:=fI hv (h1.1 _ (bk hp.bad.1));have h3:=hv.m1;rw[hp.bad.2]at h2;omega
 obtain⟨bb,bo,bx,Vn,ZC,XW,-⟩:=(h.keep fZ.o.fr).b.one h.br hp.bad.1;have b5:bx=x:=ZC.o.symm.trans hp.bad.2;subst b5;have uS:=ae XW;rw[hp.OR]at KI;have AS:=ae (fun W (hW:Fr [] w W) k (hk:k<il.length)=>by obtain⟨b,hA⟩:=(hs.keep hW).pos (by omega);subst hA;exact⟨b,rfl,(hs.keep hW).cell hk⟩:∀W,Fr [] w W->∀k,k<il.length->∃b,A=some ⟨b,0,none⟩/\W.cell? ⟨b,k,none⟩=some (sv il[k]!));have b9:(bn:Int)<(C.aI.length:Int):=by have :=hp.bad.1;omega
 have b7:bn<C.aI.length:=hp.bad.1;have xH:=hp.pos;have dV:((il.length:Int)==0)=false:=by
  have :(il.length:Int)≠0:=by omega
  simpa using this
 have ca:il.length<=9223372036854775807:=sS;have nV:IntKind.i64.wrap ((il.length:Int)-1)=(il.length:Int)-1:=IntWalk.i64_in _ (by omega);have Ep:=hv.l;have b4:=hv.i;clear h gD hv hs hp ZC XW;obtain⟨mx,ins,az,outs,aI,aH,au,bD⟩:=C;obtain⟨iA,iC,lA,lC,oA,oC,bA,bC,vA,vC,gA,gC,nA,nC⟩:=H;simp only[bY,fv]at *;try simp only at Vn
 subst Vn;simp only[sv]at bG;have Ym:aj (∀W,Fr [] w2 W->W.cell? ⟨g2,0,none⟩=some (.int .i64 (bn:Int))/\W.cell? ⟨g2,1,none⟩=some (.string ⟨(p 0).toArray⟩)/\W.cell? ⟨g2,2,none⟩=some (.slice A il.length c)):=fun W hW=>by have h:=bG.o.keep hW;exact⟨by rw[h.cell];rfl,by rw[h.cell];rfl,by rw[h.cell];rfl⟩
 obtain⟨w0,Dh,J⟩:=Ym.o w2 (Fr.refl _ _);obtain⟨c0,c1,c2,c3,c4,c5,c6,c7⟩:=fZ.o.cells;go_enter Tryz.func19,Tryz.ntmps19;go_wp2_with fail;refine bS.o.mono ?_;rintro e w3 ⟨rfl,dN⟩;have kK:=ae (fZ.o.keep dN);have qS:=ae dN;clear w0 Dh J c0 c1 c2 c3 c4 c5 c6 c7 eo kE fu dN bS;obtain⟨w0,Dh,J⟩:=Ym.o w3 qS.o;obtain⟨c0,c1,c2,c3,c4,c5,c6,c7⟩:=kK.o.cells;go_wp2_with fail;refine(KB.o w3 (p 0) az.length (bB.o.st 0 (aU _)) Ep).mono ?_;rintro e w4 ⟨rfl,fG⟩;have jr:=ae (kK.o.keep fG);have Qt:=ae (qS.o.ak fG);clear w0 Dh J c0 c1 c2 c3 c4 c5 c6 c7 fG kK qS;go_wp2_with fail;go_loopg [7] il.length (fun gk x7 wr=>∃k:Nat,k+gk=il.length/\x7= .int .i64 k/\aj (Cx w wr ⟨iA,iC,lA,lC,oA,oC,some ⟨bb,bo,none⟩,bC,vA,vC,gA,gC,nA,nC⟩ ⟨mx,ins,az,outs,aI,aH,au,bD⟩)/\aj (Fr [] w2 wr));case atStart=>exact⟨0,by omega,rfl,jr,Qt⟩
 case round=>
  obtain⟨k,hk,rfl,eh,Jr⟩:=hrel;have HK:=ae hk;have iS:k<=il.length:=by omega
  clear hk;by_cases bt:k<il.length
  ·have pR:(k:Int)<(il.length:Int):=by omega
   obtain⟨b,hA,kF⟩:=AS.o wr eh.o.fr k bt;obtain⟨w0,Dh,J⟩:=Ym.o wr Jr.o;obtain⟨c0,c1,c2,c3,c4,c5,c6,c7⟩:=eh.o.cells;rw[hA]at J;simp only[sv]at kF;have a1:=ae (fun W=>KB.o W il[k]! ins.length (bB.o.ins k bt) b4);obtain⟨Z,hZ⟩:∃Z,(⟨(il[k]!).toArray⟩:ByteArray)=Z:=⟨_,rfl⟩
   rw[show tx il[k]! =Z from hZ]at a1;rw[hZ]at kF;have s0:=Ext.cell J;have s1:=Ext.cell c1;have s2:=Ext.cell kF;clear hZ hA;go_upto_region 12 with fail;refine ap ?_;repeat (go_big_quiet_step (exact bf (a1.o _)))
   refine fq ?_;intro w5 kq;have xX:=ae (eh.o.keep kq.o);have ar:=ae (Jr.o.ak kq.o);clear w0 Dh J c0 c1 c2 c3 c4 c5 c6 c7 s0 s1 s2 kF a1 kq;go_wp2;go_roundg (gk-1);case measure=>have :=HK.o;omega
   case rel=>exact⟨k+1,by have :=HK.o;omega,by go_num,xX,ar⟩
  ·obtain⟨w0,Dh,J⟩:=Ym.o wr Jr.o;obtain⟨c0,c1,c2,c3,c4,c5,c6,c7⟩:=eh.o.cells;have b6:k=il.length:=by omega
   have pR:¬(k:Int)<(il.length:Int):=by omega
   clear HK;subst b6;have ba:=KI.o wr eh.o.fr;simp only[sv]at ba;go_wp2_with fail;refine ba.mono ?_;rintro e w6 ⟨rfl,gQ⟩;have vU:=ae (eh.o.keep gQ);have Qs:=ae (Jr.o.ak gQ);clear w0 Dh J c0 c1 c2 c3 c4 c5 c6 c7 gQ ba eh Jr;obtain⟨w0,Dh,J⟩:=Ym.o w6 Qs.o;obtain⟨c0,c1,c2,c3,c4,c5,c6,c7⟩:=vU.o.cells;go_wp2_with fail;clear w0 Dh J c0 c1 c2 c3 c4 c5 c6 c7;go_loopg [8,9] il.length (fun gk x8 x9 wr=>∃k:Nat,k+gk=il.length/\x8= .string ⟨(p k).toArray⟩/\x9= .int .i64 k/\aj (Cx w wr ⟨iA,iC,lA,lC,oA,oC,some ⟨bb,bo,none⟩,bC,vA,vC,gA,gC,nA,nC⟩ ⟨mx,ins,az,outs,aI,aH,au,bD⟩)/\aj (Fr [] w2 wr));case atStart=>exact⟨0,by omega,rfl,rfl,vU,Qs⟩
   case round=>
    obtain⟨k,hk,rfl,rfl,eh,Jr⟩:=hrel;have HK:=ae hk;have iS:k<=il.length:=(by omega)
    clear hk vU Qs;obtain⟨w0,Dh,J⟩:=Ym.o wr Jr.o;obtain⟨c0,c1,c2,c3,c4,c5,c6,c7⟩:=eh.o.cells;by_cases bt:k<il.length
    ·have b3:(k:Int)<(il.length:Int):=(by omega)
     have cb:=AS.o;have aM:=ae (fun W hW=>KV.o W hW k bt);have ab:=ae (fun W hW=>KN.o W hW k bt);have aK:=ae (fun W hW=>KA.o W hW k bt);simp only[sv]at aM ab aK;obtain⟨b,hA,kF⟩:=AS.o wr eh.o.fr k bt;simp only[sv]at kF;rw[hA]at J;have AI:k+1=il.length->KT.o=KT.o:=fun _=>rfl;have bT:=ae (fun(e:k+1=il.length) W hx=>by have h1:=KT.o W hx;rw[show il.length-1=k by omega]at h1;exact h1:∀(e:k+1=il.length) W (hx:0<=bx/\bx<=9000),Calls Tryz.prog 33 #[.string (tx (vL (⟨mx,ins,az,outs,aI,aH,au,bD⟩:Pc) (p k) il[k]!)), .int .i64 bx] W fun e w'=>e= .returned (.bool true)/\Fr [] W w');obtain⟨ZV,Fu⟩:∃Z,(⟨(vL (⟨mx,ins,az,outs,aI,aH,au,bD⟩:Pc) (p k) il[k]!).toArray⟩:ByteArray)=Z:=⟨_,rfl⟩
     rw[show tx (vL (⟨mx,ins,az,outs,aI,aH,au,bD⟩:Pc) (p k) il[k]!)=ZV from Fu]at bT;obtain⟨ZP,aT⟩:∃Z,(⟨(p k).toArray⟩:ByteArray)=Z:=⟨_,rfl⟩
     obtain⟨ZI,EC⟩:∃Z,(⟨(il[k]!).toArray⟩:ByteArray)=Z:=⟨_,rfl⟩
     obtain⟨ZN,bg⟩:∃Z,(⟨(p (k+1)).toArray⟩:ByteArray)=Z:=⟨_,rfl⟩
     rw[aT,EC,Fu]at aM;rw[Fu]at aK;rw[aT,EC,bg]at ab;rw[EC]at kF;rw[aT];have bO:=ae bg;have bI:=ae EC;try simp only[bY,fv]at aM ab aK
     obtain⟨s0,s1,s2,s3,s4,s5,s6,s7⟩:=zO c0 c1 c2 c3 c4 c5 c6 c7;have s8:=Ext.cell J;have s9:=Ext.cell kF;clear Fu aT EC bg hA AI;go_upto_region 20 with fail;refine ap ?_;repeat (go_big_quiet_step (exact bf (aM.o _ (eh.o.fr.ak (Ext.fr _)))))
     refine fq ?_;intro w5 kq;have xX:=ae (eh.o.keep kq.o);have ar:=ae (Jr.o.ak kq.o);clear w0 Dh J c0 c1 c2 c3 c4 c5 c6 c7 s0 s1 s2 s3 s4 s5 s6 s7 s8 s9 kF kq;obtain⟨w0,Dh,J⟩:=Ym.o w5 ar.o;obtain⟨c0,c1,c2,c3,c4,c5,c6,c7⟩:=xX.o.cells;go_wp2_with fail;refine(aK.o w5 xX.o.fr).mono ?_;rintro e w6 ⟨rfl,gQ⟩;have vU:=ae (xX.o.keep gQ);have Qs:=ae (ar.o.ak gQ);clear w0 Dh J c0 c1 c2 c3 c4 c5 c6 c7 gQ;obtain⟨w0,Dh,J⟩:=Ym.o w6 Qs.o;obtain⟨c0,c1,c2,c3,c4,c5,c6,c7⟩:=vU.o.cells;have nX:=Qs.o.aF uS.o;by_cases b1:k+1=il.length
     ·have Fs:((k:Int)==(il.length:Int)-1)=true:=by
       have :(k:Int)=(il.length:Int)-1:=(by omega)
       simpa using this
      go_wp2_with fail;refine(bT.o b1 w6 rN).mono ?_;rintro e w7 ⟨rfl,jg⟩;have aB:=ae (vU.o.keep jg);have bj:=ae (Qs.o.ak jg);clear w0 Dh J c0 c1 c2 c3 c4 c5 c6 c7 jg nX;obtain⟨w0,Dh,J⟩:=Ym.o w7 bj.o;obtain⟨c0,c1,c2,c3,c4,c5,c6,c7⟩:=aB.o.cells;obtain⟨b2,ad,rU⟩:=AS.o w7 aB.o.fr k bt;simp only[sv]at rU;rw[bI.o]at rU;rw[ad]at J;obtain⟨t0,t1,t2,t3,t4,t5,t6,t7⟩:=zO c0 c1 c2 c3 c4 c5 c6 c7;have t8:=Ext.cell J;have t9:=Ext.cell rU;clear ad;go_upto_region 23 with fail;refine ap ?_;repeat (go_big_quiet_step (exact bf (ab.o _ (aB.o.fr.ak (Ext.fr _)))))
      refine fq ?_;intro w8 uR;have Yl:=ae (aB.o.keep uR.o);have YH:=ae (bj.o.ak uR.o);clear w0 Dh J c0 c1 c2 c3 c4 c5 c6 c7 t0 t1 t2 t3 t4 t5 t6 t7 t8 t9 rU;go_wp2;go_roundg (gk-1);case measure=>have :=HK.o;omega
      case rel=>exact⟨k+1,by have :=HK.o;omega,by rw[bO.o],by go_num,Yl,YH⟩
     ·have Fs:((k:Int)==(il.length:Int)-1)=false:=by
       have :(k:Int)≠(il.length:Int)-1:=(by omega)
       simpa using this
      obtain⟨b2,ad,rU⟩:=AS.o w6 vU.o.fr k bt;simp only[sv]at rU;rw[bI.o]at rU;rw[ad]at J;obtain⟨t0,t1,t2,t3,t4,t5,t6,t7⟩:=zO c0 c1 c2 c3 c4 c5 c6 c7;have t8:=Ext.cell J;have t9:=Ext.cell rU;clear ad;go_upto_region 23 with fail;refine ap ?_;repeat (go_big_quiet_step (exact bf (ab.o _ (vU.o.fr.ak (Ext.fr _)))))
      refine fq ?_;intro w8 uR;have Yl:=ae (vU.o.keep uR.o);have YH:=ae (Qs.o.ak uR.o);clear w0 Dh J c0 c1 c2 c3 c4 c5 c6 c7 t0 t1 t2 t3 t4 t5 t6 t7 t8 t9 rU;go_wp2;go_roundg (gk-1);case measure=>have :=HK.o;omega
      case rel=>exact⟨k+1,by have :=HK.o;omega,by rw[bO.o],by go_num,Yl,YH⟩
    ·have b3:¬(k:Int)<(il.length:Int):=(by omega)
     have rL:=eh.o.fr;have b0:=ae rL;go_wp2;go_ret;exact⟨rfl,b0.o⟩
theorem aay{C:Pc}(hv:Valid C){x:Int}{bn:Nat}(hb:bn<C.aI.length/\C.aI[bn]! =x){am:List (List Int)}{n:Nat}{p i:Nat->List UInt8}(h0:kf C (p 0))(hw:Way (fm C am) (mR C) n p i)(ha:fm C am (p n) (i n))(hx:xU C x (p n) (i n)):
  Un C x bn ((List.range (n+1)).map i) (fun k=>if k<=n then p k else mR C (p n) (i n)):=by
 have hlen:((List.range (n+1)).map i).length=n+1:=by simp
 have J:∀k,k<n+1->((List.range (n+1)).map i)[k]! =i k:=fun k hk=>by rw[ro _ (by rw[de];exact hk),vo hk]
 have vN:∀k,k<=n->fm C [] (p k) (i k):=fun k hk=>by
  by_cases e:k=n
  ·subst e;exact uJ ha
  ·exact uJ (hw.al k (by omega))
 have pO:∀k,k<=n->p k∈bW C.az.length:=fun k hk=>by
  cases k with
  |zero=>exact h0.1
  |succ k=>rw[hw.DU k (by omega)];exact kM C _ _
 refine⟨hb,by omega,fun k hk=> ?_,fun k hk=> ?_,?_,fun k hk=> ?_,fun k hk=> ?_,?_⟩
 ·rw[hlen]at hk;rw[J k hk];exact(mN.1 (vN k (by omega))).1
 ·rw[hlen]at hk;by_cases e:k<=n
  ·simp only[e,if_true];exact pO k e
  ·simp only[e,if_false];exact kM C _ _
 ·simp only[aU,if_true];exact(zp hv h0.1).2 h0
 ·rw[hlen]at hk;rw[J k hk];simp only[show k<=n by omega,if_true];exact(mN.1 (vN k (by omega))).2
 ·rw[hlen]at hk;rw[J k hk];by_cases e:k<n
  ·simp only[show k+1<=n by omega,show k<=n by omega,if_true];exact hw.DU k e
  ·obtain rfl :k=n:=by omega
   simp only[show ¬k+1<=k by omega,aq,if_true,if_false]
 ·rw[hlen,show n+1-1=n by omega,J n (by omega)];simp only[aq,if_true];exact hx
theorem ach{C:Pc}{x:Int}{am:List (List Int)}{n:Nat}{p i:Nat->List UInt8}(J:kf C (p 0))(hw:Way (fm C am) (mR C) n p i)(ha:fm C am (p n) (i n))(hx:xU C x (p n) (i n)):∃n,AA (kf C) (fm C []) (mR C) (xU C x) n:=
 ⟨n,p,i,J,⟨fun k hk=>uJ (hw.al k hk),hw.DU⟩,uJ ha,hx⟩
def Oq(C:Pc):Bool:=decide (C.az.length<=4)&&decide (C.ins.length<=3)&&decide (C.mx<=60)
theorem F1(w:World)(H:Hd)(C:Pc):
  Calls Tryz.prog 10 #[bY H C] w fun e w'=>e= .returned (.bool (Oq C))/\Fr [] w w':=by
 have HX:=ae (Cx.start w H C);obtain⟨R,hR⟩:∃R,Oq C=R:=⟨_,rfl⟩
 rw[hR];unfold Oq at hR;obtain⟨mx,ins,az,outs,aI,aH,au,bD⟩:=C;obtain⟨iA,iC,lA,lC,oA,oC,bA,bC,vA,vC,gA,gC,nA,nC⟩:=H;simp only[bY,fv]at *;obtain⟨c0,c1,c2,c3,c4,c5,c6,c7⟩:=HX.o.cells;have J:=ae hR;clear hR;by_cases h1:az.length<=4
 ·have d1:decide ((az.length:Int)<=4)=true:=qak (by omega);by_cases h2:ins.length<=3
  ·have d2:decide ((ins.length:Int)<=3)=true:=qak (by omega);have hr:decide (mx<=60)=R:=by rw[<-J.o,qak h1,qak h2];rfl
   clear J;go_enter Tryz.func10,Tryz.ntmps10;go_wp2;go_ret;exact⟨rfl,HX.o.fr⟩
  ·have d2:decide ((ins.length:Int)<=3)=false:=qaj (by omega);have hr:R=false:=by rw[<-J.o,qaj h2];simp
   subst hr;clear J;go_enter Tryz.func10,Tryz.ntmps10;go_wp2;go_ret;exact⟨rfl,HX.o.fr⟩
 ·have d1:decide ((az.length:Int)<=4)=false:=qaj (by omega);have hr:R=false:=by rw[<-J.o,qaj h1];simp
  subst hr;clear J;go_enter Tryz.func10,Tryz.ntmps10;go_wp2;go_ret;exact⟨rfl,HX.o.fr⟩
theorem EZ{T:Nat->Nat->Option Nat}{n i:Nat}{o:List Int}:∀k,(mV T n i o k).length=o.length
 |0=>rfl
 |k+1=>by
  have J:=EZ (T:=T) (n:=n) (i:=i) (o:=o) k;rw[mV];split
  ·exact J
  ·split
   ·rw[aw];exact J
   ·exact J
theorem E0{T:Nat->Nat->Option Nat}{K n:Nat}{o:List Int}:∀i,(Ah T K n o i).length=o.length
 |0=>rfl
 |i+1=>by
  have J:=E0 (T:=T) (K:=K) (n:=n) (o:=o) i;rw[Ah];split
  ·rw[EZ];exact J
  ·exact J
theorem EY{T:Nat->Nat->Option Nat}{K m:Nat}{o:List Int}:∀n,(yw T K m o n).length=o.length
 |0=>rfl
 |n+1=>by rw[yw,E0,EY n]
theorem Iz{T:Nat->Nat->Option Nat}{n i j:Nat}{o:List Int}(h:0<=o[j]!):∀k,(mV T n i o k)[j]! =o[j]!
 |0=>rfl
 |k+1=>by
  have J:=Iz (T:=T) (n:=n) (i:=i) h k;rw[mV];split
  ·exact J
  ·rename_i t _;split
   ·rename_i bt;rw[pk (fun e=>by subst e;omega)];exact J
   ·exact J
theorem Uc{T:Nat->Nat->Option Nat}{n i k:Nat}{o:List Int}(h:T i k=none):mV T n i o (k+1)=mV T n i o k:=by rw[mV,h]
theorem Ub{T:Nat->Nat->Option Nat}{n i k t:Nat}{o:List Int}(h:T i k=some t):mV T n i o (k+1)=if(mV T n i o k)[t]! <0 then(mV T n i o k).set t ((n:Int)+1)else mV T n i o k:=by rw[mV,h]
theorem ext_get{a b:List Int}(hl:a.length=b.length)(h:∀j,j<a.length->a[j]! =b[j]!):a=b:=by refine List.ext_getElem hl fun k h1 J=> ?_;have :=h k h1;rw[aa,aa,af h1,af J]at this;exact this
theorem CH{o s:List Int}{i:Nat}{x:Int}(hi:i<o.length)(h:∀j,j<i->o[j]! =s[j]!)(J:s[i]! =x):∀j,j<i+1->(o.set i x)[j]! =s[j]! :=fun j hj=>by
 by_cases e:i=j
 ·subst e;rw[lS hi,J]
 ·rw[pk e];exact h j (by omega)
structure adt(w:World)(H:Hd)(C:Pc)(s i:List UInt8)(V N:List UInt8)(OR al:Bool)(t:Nat):Prop where
 kv:∀W,Fr [] w W->Calls Tryz.prog 14 #[bY H C,sv s,sv i] W fun e w'=>e= .returned (.tuple #[sv V, .int .i64 0])/\Fr [] W w'
 ka:∀W,Fr [] w W->Calls Tryz.prog 15 #[bY H C, .slice none 0 0,sv V] W fun e w'=>e= .returned (.bool al)/\Fr [] W w'
 kn:∀W,Fr [] w W->Calls Tryz.prog 28 #[bY H C,sv s,sv i] W fun e w'=>e= .returned (.tuple #[sv N, .int .i64 0])/\Fr [] W w'
 kx:∀W,Calls Tryz.prog 29 #[sv N] W fun e w'=>e= .returned (.int .i64 (t:Int))/\Fr [] W w'
 ki:∀W,Fr [] w W->Calls Tryz.prog 27 #[bY H C,sv s] W fun e w'=>e= .returned (.bool OR)/\Fr [] W w'
theorem ZO{w:World}{H:Hd}{C:Pc}(h:eZ w H C)(gD:H.iA=none->C.ins.length=0/\H.iC=0)(hv:Valid C)(hl:C.az.length<=8){s i:List UInt8}(hs:s∈bW C.az.length)(hi:i∈bW C.ins.length):
  adt w H C s i (vL C s i) (mR C s i) (rM C s) (tc C (vL C s i)) (idx (mR C s i) C.az.length):=
 ⟨fun W J=>nK W H C (h.keep J) gD hv hs hi,fun W J=>mE W H C (h.keep J) hv _ (aE (qac hv _ _) (by omega)),fun W J=>wO W H C (h.keep J) gD hv hs hi,
  fun W=>Eg W hl (kM C s i),fun W J=>qF W H C (h.keep J) hv hs⟩
theorem j8(n:Nat):0<(bW n).length:=by rw[Ao];exact Nat.pow_pos (by omega)
theorem rJ{n:Nat}(h:n<=4):(bW n).length<=16:=by rw[Ao];exact aE (Nat.pow_le_pow_right (by omega) h) (by decide)
theorem ui(w:World)(H:Hd)(C:Pc)(h:eZ w H C)(gD:H.iA=none->C.ins.length=0/\H.iC=0)(hv:Valid C)(Jf:C.az.length<=4)(u0:C.ins.length<=4):
  Calls Tryz.prog 12 #[bY H C, .slice none 0 0] w fun e w'=>∃A c,e= .returned (.slice A (qh C).length c)/\Ints w' A c (qh C)/\(∀k∈ao A,w.heap.size<=k)/\Fr [] w w':=by
 obtain⟨w1,eo⟩:∃W,w.alloc (.cells (fv H C) 27)=W:=⟨_,rfl⟩
 have HX:aj (Cx w w1 H C):=eo▸Cx.start w H C;obtain⟨SL,Br⟩:∃SL,bW C.az.length=SL:=⟨_,rfl⟩
 obtain⟨IL,ED⟩:∃IL,bW C.ins.length=IL:=⟨_,rfl⟩
 obtain⟨m,hm⟩:∃m,SL.length=m:=⟨_,rfl⟩
 obtain⟨K,hK⟩:∃K,IL.length=K:=⟨_,rfl⟩
 have cE:m<=16:=by rw[<-hm,<-Br];exact rJ Jf
 have cG:K<=16:=by rw[<-hK,<-ED];exact rJ u0
 have uY:0<m:=by rw[<-hm,<-Br];exact j8 _
 have cz:0<K:=by rw[<-hK,<-ED];exact j8 _
 have b6:aj (∀W,Calls Tryz.prog 13 #[.int .i64 (C.az.length:Int)] W fun e w'=>∃b c,e= .returned (.slice (some ⟨b,0,none⟩) m c)/\eY w' (some ⟨b,0,none⟩) c SL/\Fr [] W w'):=fun W=>by refine(kB W C.az.length Jf).mono ?_;rintro e w' ⟨A,c,rfl,h1,-,h2⟩;rw[Br]at h1⊢;obtain⟨b,rfl⟩:=h1.pos (by omega);exact⟨b,c,by rw[hm],h1,h2⟩
 have b5:aj (∀W,Calls Tryz.prog 13 #[.int .i64 (C.ins.length:Int)] W fun e w'=>∃b c,e= .returned (.slice (some ⟨b,0,none⟩) K c)/\eY w' (some ⟨b,0,none⟩) c IL/\Fr [] W w'):=fun W=>by refine(kB W C.ins.length u0).mono ?_;rintro e w' ⟨A,c,rfl,h1,-,h2⟩;rw[ED]at h1⊢;obtain⟨b,rfl⟩:=h1.pos (by omega);exact⟨b,c,by rw[hK],h1,h2⟩
 obtain⟨bB,PF⟩:∃f:Nat->Bool,f=fun i=>rM C SL[i]! :=⟨_,rfl⟩
 obtain⟨V,hV⟩:∃f:Nat->Nat->List UInt8,f=fun i k=>vL C SL[i]! IL[k]! :=⟨_,rfl⟩
 obtain⟨NX,ZG⟩:∃f:Nat->Nat->List UInt8,f=fun i k=>mR C SL[i]! IL[k]! :=⟨_,rfl⟩
 obtain⟨AL,ZJ⟩:∃f:Nat->Nat->Bool,f=fun i k=>tc C (vL C SL[i]! IL[k]!):=⟨_,rfl⟩
 obtain⟨IX,aT⟩:∃f:Nat->Nat->Nat,f=fun i k=>idx (mR C SL[i]! IL[k]!) C.az.length:=⟨_,rfl⟩
 have KQ:aj (∀i k,i<m->k<K->adt w H C SL[i]! IL[k]! (V i k) (NX i k) (bB i) (AL i k) (IX i k)):=fun i k hi hk=>by rw[hV,ZG,PF,ZJ,aT];exact ZO h gD hv (by omega) (by rw[Br];exact bk (by omega)) (by rw[ED];exact bk (by omega))
 obtain⟨T,hT⟩:∃T,JE C=T:=⟨_,rfl⟩
 obtain⟨O0,a1⟩:∃O0,FY C=O0:=⟨_,rfl⟩
 have cn:aj (∀i k,i<m->k<K->AL i k=false->T i k=none):=fun i k hi hk ha=>by rw[<-hT];unfold JE;rw[Br,ED,hK,qah (by rw[ZJ]at ha;simp only at ha;rw[ha];simp)]
 have Yp:aj (∀i k,i<m->k<K->AL i k=true->T i k=some (IX i k)):=fun i k hi hk ha=>by rw[<-hT,aT];unfold JE;rw[ZJ]at ha;rw[Br,ED,hK,qai ⟨hk,ha⟩]
 have cr:aj (∀i k,i<m->k<K->IX i k<m):=fun i k hi hk=>by rw[aT];have :=(gJ (kM C SL[i]! IL[k]!)).1;rw[Br,hm]at this;exact this
 have bG:aj (O0.length=m):=by show _=_;rw[<-a1,<-hm,<-Br];simp[FY]
 have cy:aj (∀i,i<m->O0[i]! =if bB i=true then 0 else -1):=fun i hi=>by rw[<-a1,PF];unfold FY;rw[Br,ro _ (by omega)]
 have gd:aj (qh C=yw T K m O0 m):=by show _=_;unfold qh;rw[hT,a1,Br,ED,hm,hK]
 obtain⟨eH,eB⟩:∃eH,qh C=eH:=⟨_,rfl⟩
 rw[eB]at gd⊢;have Ob:=ae hm;have CV:=ae hK;clear h gD hv Br ED hm hK PF hV ZG ZJ aT hT a1 eB;have nV:(C.az.length:Int)<=4:=by omega
 have sS:(C.ins.length:Int)<=4:=by omega
 clear Jf u0;obtain⟨mx,ins,az,outs,aI,aH,au,bD⟩:=C;obtain⟨iA,iC,lA,lC,oA,oC,bA,bC,vA,vC,gA,gC,nA,nC⟩:=H;simp only[bY,fv]at *;obtain⟨c0,c1,c2,c3,c4,c5,c6,c7⟩:=HX.o.cells;go_enter Tryz.func12,Tryz.ntmps12;go_upto_region 1 with fail;clear eo;refine qan ?_;refine bw (fun w':World=>Fr [] w1 w') 7 (by kernel_rfl) ((Fr.refl _ w1).drew) (fun dy=> ?_);refine TB 6 [(0,[]),(1,[1,2,3,7]),(2,[]),(4,[]),(5,[5,6,7]),(6,[])] dy ?_ (hr:=by(repeat (apply ZR;rfl;rfl;(intro w bT;(try(have bT:=bT.resolve_left (List.cons_ne_nil _ _);(obtain⟨q0,q1,q2,q3,q4,q5,q6,q7⟩:=(HX.o.keep bT).cells)));go_simp<;>with_reducible rfl);try simp only[Act.put,q5,q6,q7]));exact ZQ);intro dy;refine R2 3 dy fun K hK aM=> ?_
 (go_simp;refine(b6.o _).mono ?_;rintro e wS ⟨bS,cS,rfl,hS,Xs⟩;dsimp only);have nY:=ae hS;have Mm:=ae (aM.ak Xs);clear hS Xs
 refine hK.out _ _ (.inr ?_) (fun Vq=> ?_)
 ·first |exact Mm.o |exact aM
 clear hK K;try simp only[Act.put,q5,q6,q7]
 refine R2 7 Vq fun K hK aM=> ?_
 (go_simp;refine(b5.o _).mono ?_;rintro e wI ⟨bI,cI,rfl,hI,QU⟩;dsimp only);have Z3:=ae (nY.o.keep QU);have VG:=ae hI;have vY:=ae (Mm.o.ak QU);clear hI QU nY Mm
 refine hK.out _ _ (.inl rfl) (fun Lo=> ?_);clear hK K;try simp only[Act.put,q5,q6,q7]
 refine R1 (i:=8) (o:= ?aqc) (by kernel_rfl) (by rfl) ?_;intro K hK;go_simp;refine hK.out _ _ (.inl rfl) (fun TD=> ?_);clear hK K;try simp only[Act.put,q5,q6,q7]
 refine R1 (i:=9) (o:= ?ak3) (by kernel_rfl) (by rfl) ?_;intro K hK;go_simp;refine hK.out _ _ (.inl rfl) (fun kG=> ?_);clear hK K;try simp only[Act.put,q5,q6,q7]
 refine fO ?_;have IU:=ae (HX.o.keep vY.o);have Yq:aj (∀W,Fr [] wI W->∀k,k<m->W.cell? ⟨bS,k,none⟩=some (sv SL[k]!)):=fun W hW k hk=>(Z3.o.keep hW).cell (by rw[Ob.o];exact hk);have b1:aj (∀W,Fr [] wI W->∀k,k<K->W.cell? ⟨bI,k,none⟩=some (sv IL[k]!)):=fun W hW k hk=>(VG.o.keep hW).cell (by rw[CV.o];exact hk);have Fa:aj (∀W,Fr [] wI W->Fr [] w W):=fun W hW=>IU.o.fr.ak hW;clear Z3 VG Ob CV vY HX b6 b5 c0 c1 c2 c3 c4 c5 c6 c7;try clear dy
 try clear kG
 obtain⟨B,hB⟩:∃B,wI.heap.size=B:=⟨_,rfl⟩
 obtain⟨w3,ow⟩:∃W,wI.alloc (.cells (madeCells #[.int .i64 0] m) 3)=W:=⟨_,rfl⟩
 have SV:(Instr.makeSlice 22 (.int .i64 (m:Int)) (.int .i64 (m:Int))).run Tryz.prog wI= .ok (.slice (some ⟨B,0,none⟩) m m) w3:=by have :=DG wI (m:Int) (by omega) (by omega);rw[Int.toNat_natCast,hB,ow]at this;exact this
 have nZ:aj (Ints w3 (some ⟨B,0,none⟩) m (List.replicate m 0)):=by have :=Cg wI m (by unfold maxLen;omega);rw[hB,ow]at this;exact this
 have dG:aj (Fr [] wI w3):=ow▸aR _ _;have HB:=ae hB;clear hB ow;go_wp2_with fail;clear SV;go_loopg [8] m (fun g x8 wr=>∃(i:Nat)(o:List Int),i+g=m/\x8= .int .i64 i/\aj (o.length=m)/\aj (∀j,j<i->o[j]! =O0[j]!)/\aj (Ints wr (some ⟨B,0,none⟩) m o)/\aj (Fr [] wI wr));case atStart=>exact⟨0,List.replicate m 0,by omega,rfl,a8,fun j hj=>absurd hj (aD _),nZ,dG⟩
 case round=>
  obtain⟨i,o,hk,rfl,FA,aK,HO,Js⟩:=hrel;have HK:=ae hk;have mO:i<=m:=by omega
  clear hk nZ dG;by_cases bt:i<m
  ·have qJ:(i:Int)<(m:Int):=by omega
   have ci:=HO.o.cell (i:=i) (by rw[FA.o];exact bt);have fi:=HO.o.frozen i;obtain⟨v0,Co⟩:∃v0,o[i]! =v0:=⟨_,rfl⟩
   rw[Co]at ci;clear Co;go_upto_region 7 with fail;obtain⟨W,hW⟩:∃W,W=wr.setCell ⟨B,i,none⟩ (.int .i64 (-1)):=⟨_,rfl⟩
   rw[<-hW];have lZ:aj (Ints W (some ⟨B,0,none⟩) m (o.set i (-1))):=by show Ints _ _ _ _;rw[hW];exact HO.o.dL i (-1)
   have dZ:aj (Fr [] wI W):=by show Fr _ _ _;rw[hW];exact Js.o.setCell (.inr (Nat.le_of_eq HB.o)) _
   clear hW ci fi;obtain⟨c0,c1,c2,c3,c4,c5,c6,c7⟩:=(IU.o.keep dZ.o).cells;have kF:=Yq.o W dZ.o i bt;have ab:=ae (KQ.o i 0 bt cz).ki;have CX:=ae (cy.o i bt);obtain⟨t,ht⟩:∃t,bB i=t:=⟨_,rfl⟩
   rw[ht]at ab CX;simp only[sv]at kF ab;obtain⟨Z,hZ⟩:∃Z:ByteArray,(⟨(SL[i]!).toArray⟩:ByteArray)=Z:=⟨_,rfl⟩
   rw[hZ]at kF ab;try simp only[bY,fv]at ab
   have b4:=ae (Fa.o W dZ.o);obtain⟨s0,s1,s2,s3,s4,s5,s6,s7⟩:=zO c0 c1 c2 c3 c4 c5 c6 c7;have s8:=Ext.cell kF;clear ht hZ;refine ap ?_;repeat (go_big_quiet_step (exact bf (ab.o _ (b4.o.ak (Ext.fr _)))))
   refine fq ?_;intro w5 kq;have js:=ae (dZ.o.ak kq.o);have Aw:aj (Ints w5 (some ⟨B,0,none⟩) m (o.set i (-1))):=lZ.o.fr kq.o (by simp);clear c0 c1 c2 c3 c4 c5 c6 c7 s0 s1 s2 s3 s4 s5 s6 s7 s8 kF kq ab lZ dZ b4;have ci:=Aw.o.cell (i:=i) (by rw[aw,FA.o];exact bt);have fi:=Aw.o.frozen i;rw[lS (by rw[FA.o];exact bt)]at ci;cases t with
   |true=>
    go_wp2;go_roundg (gk-1);case measure=>have :=HK.o;omega
    case rel=>exact⟨i+1,o.set i 0,by have :=HK.o;omega,by go_num,by show _=_;rw[aw];exact FA.o,CH (by rw[FA.o];exact bt) aK.o (by rw[CX.o];rfl),by have :=Aw.o.dL i 0;rw[List.set_set]at this;exact this,js.o.setCell (.inr (Nat.le_of_eq HB.o)) _⟩
   |false=>
    go_wp2;go_roundg (gk-1);case measure=>have :=HK.o;omega
    case rel=>exact⟨i+1,o.set i (-1),by have :=HK.o;omega,by go_num,by show _=_;rw[aw];exact FA.o,CH (by rw[FA.o];exact bt) aK.o (by rw[CX.o];rfl),Aw,js⟩
  ·have Fq:¬(i:Int)<(m:Int):=by omega
   have qR:aj (Ints wr (some ⟨B,0,none⟩) m (yw T K m O0 0)):=by have e:o=O0:=ext_get (by rw[FA.o,bG.o]) (fun j hj=>aK.o j (by rw[FA.o]at hj;omega));show Ints _ _ _ _;rw[yw,<-e];exact HO.o
   clear HO aK FA HK;go_wp2_with fail;go_loopg [9,10,11,12,13,14,15] m (fun gn x9 tj uU Jy QD QC QB wn=>∃n:Nat,n+gn=m/\x9= .int .i64 n/\aj (Ints wn (some ⟨B,0,none⟩) m (yw T K m O0 n))/\aj (Fr [] wI wn));case atStart=>exact⟨0,by omega,rfl,qR,Js⟩
   case round=>
    obtain⟨n,hk,rfl,ad,YK⟩:=hrel;obtain⟨wn,rfl⟩:∃x,x=wr:=⟨_,rfl⟩
    have CW:=ae hk;have Bg:n<=m:=(by omega)
    clear hk qR Js Fq mO bt;by_cases di:n<m
    ·have df:(n:Int)<(m:Int):=(by omega)
     have VE:aj ((yw T K m O0 n).length=m):=by show _=_;rw[EY];exact bG.o
     have pL:aj (yw T K m O0 (n+1)=Ah T K n (yw T K m O0 n) m):=rfl;obtain⟨on,ca⟩:∃on,yw T K m O0 n=on:=⟨_,rfl⟩
     rw[ca]at ad VE pL;clear ca;go_wp2_with fail;go_loopg [10,11,12,13,14,15] m (fun gi tj uU Jy QD QC QB wo=>∃i:Nat,i+gi=m/\tj= .int .i64 i/\aj (Ints wo (some ⟨B,0,none⟩) m (Ah T K n on i))/\aj (Fr [] wI wo));case atStart=>exact⟨0,by omega,rfl,ad,YK⟩
     case round=>
      clear ad YK;obtain⟨j,hk,rfl,Md,vY⟩:=hrel;obtain⟨wo,rfl⟩:∃x,x=wr:=⟨_,rfl⟩
      have IZ:=ae hk;have QS:j<=m:=(by omega)
      clear hk;by_cases pQ:j<m
      ·have cB:(j:Int)<(m:Int):=(by omega)
       have AS:aj ((Ah T K n on j).length=m):=by show _=_;rw[E0];exact VE.o
       have AR:aj (Ah T K n on (j+1)=if(Ah T K n on j)[j]! =(n:Int)then mV T n j (Ah T K n on j) K else Ah T K n on j):=rfl;obtain⟨J,b9⟩:∃J,Ah T K n on j=J:=⟨_,rfl⟩
       rw[b9]at Md AS AR;clear b9;by_cases hc:J[j]! =(n:Int)
       ·have bb:aj (Ah T K n on (j+1)=mV T n j J K):=by have :=AR.o;rw[qai hc]at this;exact this
        have CS:aj (∀k,(mV T n j J k)[j]! =(n:Int)):=fun k=>by rw[Iz (by omega),hc]
        have ba:aj (∀k,(mV T n j J k).length=m):=fun k=>by rw[EZ];exact AS.o
        clear hc AR;go_wp2_with fail;go_loopg [11,12,13,14,15] K (fun gl uU Jy QD QC QB wk=>∃k:Nat,k+gl=K/\uU= .int .i64 k/\aj (Ints wk (some ⟨B,0,none⟩) m (mV T n j J k))/\aj (Fr [] wI wk));case atStart=>exact⟨0,by omega,rfl,Md,vY⟩
        case round=>
         clear Md vY;obtain⟨k,hk,rfl,lh,oS⟩:=hrel;obtain⟨wk,rfl⟩:∃x,x=wr:=⟨_,rfl⟩
         have uQ:=ae hk;have iS:k<=K:=(by omega)
         clear hk;by_cases qI:k<K
         ·have Zw:(k:Int)<(K:Int):=(by omega)
          have ci:=lh.o.cell (i:=j) (by rw[ba.o];exact pQ);rw[CS.o k]at ci;obtain⟨c0,c1,c2,c3,c4,c5,c6,c7⟩:=(IU.o.keep oS.o).cells;have kF:=Yq.o wk oS.o j pQ;have vJ:=b1.o wk oS.o k qI;have IS:=ae (KQ.o j k pQ qI).kv;have CR:=ae (KQ.o j k pQ qI).ka;have ar:=ae (KQ.o j k pQ qI).kn;have aB:=ae (KQ.o j k pQ qI).kx;have b3:=ae (cn.o j k pQ qI);have bo:=ae (Yp.o j k pQ qI);have b0:=cr.o j k pQ qI;obtain⟨t,ht⟩:∃t,IX j k=t:=⟨_,rfl⟩
          obtain⟨al,vN⟩:∃al,AL j k=al:=⟨_,rfl⟩
          rw[vN]at CR b3 bo;rw[ht]at aB bo b0;simp only[sv]at kF vJ IS CR ar aB;obtain⟨ZS,PD⟩:∃Z:ByteArray,(⟨(SL[j]!).toArray⟩:ByteArray)=Z:=⟨_,rfl⟩
          obtain⟨ZI,EC⟩:∃Z:ByteArray,(⟨(IL[k]!).toArray⟩:ByteArray)=Z:=⟨_,rfl⟩
          obtain⟨ZV,Fu⟩:∃Z:ByteArray,(⟨(V j k).toArray⟩:ByteArray)=Z:=⟨_,rfl⟩
          obtain⟨ZN,bO⟩:∃Z:ByteArray,(⟨(NX j k).toArray⟩:ByteArray)=Z:=⟨_,rfl⟩
          rw[PD]at kF;rw[EC]at vJ;rw[PD,EC,Fu]at IS;rw[Fu]at CR;rw[PD,EC,bO]at ar;rw[bO]at aB;try simp only[bY,fv]at IS CR ar
          have cc:aj (∀W,Fr [] wI W->W.cell? ⟨bS,j,none⟩=some (.string ZS)):=fun W hW=>by have :=Yq.o W hW j pQ;simp only[sv]at this;rw[PD]at this;exact this
          have cb:aj (∀W,Fr [] wI W->W.cell? ⟨bI,k,none⟩=some (.string ZI)):=fun W hW=>by have :=b1.o W hW k qI;simp only[sv]at this;rw[EC]at this;exact this
          clear ht vN PD EC Fu bO;have dn:(t:Int)<(m:Int):=(by omega)
          have Uy:=ae (Fa.o wk oS.o);obtain⟨s0,s1,s2,s3,s4,s5,s6,s7⟩:=zO c0 c1 c2 c3 c4 c5 c6 c7;have s8:=Ext.cell kF;have s9:=Ext.cell vJ;go_upto_region 18 with fail;refine ap ?_;repeat (go_big_quiet_step (exact bf (IS.o _ (Uy.o.ak (Ext.fr _)))))
          refine fq ?_;intro w5 kq;have js:=ae (oS.o.ak kq.o);have Aw:aj (Ints w5 (some ⟨B,0,none⟩) m (mV T n j J k)):=lh.o.fr kq.o (by simp);clear c0 c1 c2 c3 c4 c5 c6 c7 s0 s1 s2 s3 s4 s5 s6 s7 s8 s9 kF vJ kq IS ci lh oS Uy;obtain⟨c0,c1,c2,c3,c4,c5,c6,c7⟩:=(IU.o.keep js.o).cells;go_wp2_with fail;refine(CR.o w5 (Fa.o _ js.o)).mono ?_;rintro e w6 ⟨rfl,gQ⟩;have fC:=ae (js.o.ak gQ);have vX:aj (Ints w6 (some ⟨B,0,none⟩) m (mV T n j J k)):=Aw.o.fr gQ (by simp);clear c0 c1 c2 c3 c4 c5 c6 c7 gQ CR Aw js;cases al with
          |false=>
           have tB:aj (mV T n j J (k+1)=mV T n j J k):=Uc (b3.o rfl);go_wp2;go_roundg (gk-1);case measure=>have :=uQ.o;omega
           case rel=>exact⟨k+1,by have :=uQ.o;omega,by go_num,by show Ints _ _ _ _;rw[tB.o];exact vX.o,fC⟩
          |true=>
           have tB:aj (mV T n j J (k+1)=if(mV T n j J k)[t]! <0 then(mV T n j J k).set t ((n:Int)+1)else mV T n j J k):=Ub (bo.o rfl);obtain⟨c0,c1,c2,c3,c4,c5,c6,c7⟩:=(IU.o.keep fC.o).cells;have kF:=cc.o w6 fC.o;have vJ:=cb.o w6 fC.o;have Uy:=ae (Fa.o w6 fC.o);obtain⟨s0,s1,s2,s3,s4,s5,s6,s7⟩:=zO c0 c1 c2 c3 c4 c5 c6 c7;have s8:=Ext.cell kF;have s9:=Ext.cell vJ;go_upto_region 20 with fail;refine ap ?_;repeat (go_big_quiet_step (exact bf (ar.o _ (Uy.o.ak (Ext.fr _)))))
           refine fq ?_;intro w8 uR;have pV:=ae (fC.o.ak uR.o);have b2:aj (Ints w8 (some ⟨B,0,none⟩) m (mV T n j J k)):=vX.o.fr uR.o (by simp);clear c0 c1 c2 c3 c4 c5 c6 c7 s0 s1 s2 s3 s4 s5 s6 s7 s8 s9 kF vJ uR Uy vX fC ar;go_wp2_with fail;refine(aB.o w8).mono ?_;rintro e w9 ⟨rfl,rT⟩;have th:=ae (pV.o.ak rT);have Q9:aj (Ints w9 (some ⟨B,0,none⟩) m (mV T n j J k)):=b2.o.fr rT (by simp);clear rT b2 pV;have ct:=Q9.o.cell (i:=t) (by rw[ba.o];exact b0);obtain⟨x,hx⟩:∃x,(mV T n j J k)[t]! =x:=⟨_,rfl⟩
           rw[hx]at ct tB;clear hx;by_cases zv:x<0
           ·have dx:decide (x<0)=true:=qak zv;have Qy:aj (mV T n j J (k+1)=(mV T n j J k).set t ((n:Int)+1)):=by have :=tB.o;rw[qai zv]at this;exact this
            clear tB;go_wp2_with fail;refine(aB.o w9).mono ?_;rintro e wA ⟨rfl,jM⟩;have cf:=ae (th.o.ak jM);have bg:aj (Ints wA (some ⟨B,0,none⟩) m (mV T n j J k)):=Q9.o.fr jM (by simp);clear jM ct Q9 th;have ct:=bg.o.cell (i:=t) (by rw[ba.o];exact b0);have ft:=bg.o.frozen t;go_wp2;go_roundg (gk-1);case measure=>have :=uQ.o;omega
            case rel=>exact⟨k+1,by have :=uQ.o;omega,by go_num,by show Ints _ _ _ _;rw[Qy.o];exact bg.o.dL t _,cf.o.setCell (.inr (Nat.le_of_eq HB.o)) _⟩
           ·have dx:decide (x<0)=false:=qaj zv;have Qy:aj (mV T n j J (k+1)=mV T n j J k):=by have :=tB.o;rw[qah zv]at this;exact this
            clear tB;go_wp2;go_roundg (gk-1);case measure=>have :=uQ.o;omega
            case rel=>exact⟨k+1,by have :=uQ.o;omega,by go_num,by show Ints _ _ _ _;rw[Qy.o];exact Q9.o,th⟩
         ·have c8:¬(k:Int)<(K:Int):=(by omega)
          have b7:k=K:=(by omega)
          have bj:aj (Ints wk (some ⟨B,0,none⟩) m (Ah T K n on (j+1))):=by show Ints _ _ _ _;rw[bb.o,<-b7];exact lh.o
          clear b7 uQ lh;go_wp2;go_roundg (m-(j+1));case measure=>have :=IZ.o;omega
          case rel=>exact⟨j+1,by have :=IZ.o;omega,by go_num,bj,oS⟩
       ·have bb:aj (Ah T K n on (j+1)=J):=by have :=AR.o;rw[qah hc]at this;exact this
        obtain⟨x,hx⟩:∃x,J[j]! =x:=⟨_,rfl⟩
        rw[hx]at hc;have cp:=ae hx;have dx:(x==(n:Int))=false:=(by simpa using hc)
        clear hc AR hx;go_wp2_with fail;go_loopg [11] 0 (fun gl uU wk=>uU= .int .i64 0/\aj (Ints wk (some ⟨B,0,none⟩) m J)/\aj (Fr [] wI wk));case atStart=>exact⟨rfl,Md,vY⟩
        case round=>
         clear Md vY;obtain⟨rfl,lh,oS⟩:=hrel;obtain⟨wk,rfl⟩:∃x,x=wr:=⟨_,rfl⟩
         have ci:=lh.o.cell (i:=j) (by rw[AS.o];exact pQ);rw[cp.o]at ci;have cO:(0:Int)<(K:Int):=(by omega)
         go_wp2;go_roundg (m-(j+1));case measure=>have :=IZ.o;omega
         case rel=>exact⟨j+1,by have :=IZ.o;omega,by go_num,by show Ints _ _ _ _;rw[bb.o];exact lh.o,oS⟩
      ·have c9:¬(j:Int)<(m:Int):=(by omega)
       have Td:j=m:=(by omega)
       have bj:aj (Ints wo (some ⟨B,0,none⟩) m (yw T K m O0 (n+1))):=by show Ints _ _ _ _;have e:=Md.o;rw[Td]at e;rw[pL.o];exact e
       clear Td IZ Md;go_wp2;go_roundg (m-(n+1));case measure=>have :=CW.o;omega
       case rel=>exact⟨n+1,by have :=CW.o;omega,by go_num,bj,vY⟩
    ·have dm:¬(n:Int)<(m:Int):=(by omega)
     have dV:n=m:=(by omega)
     have Qk:aj (Ints wn (some ⟨B,0,none⟩) m eH):=by show Ints _ _ _ _;have :=ad.o;rw[dV,<-gd.o]at this;exact this
     have ch:aj (eH.length=m):=by show _=_;rw[gd.o,EY];exact bG.o
     clear dV CW ad;go_wp2;go_ret;exact⟨some ⟨B,0,none⟩,m,by rw[ch.o];rfl,Qk.o,fun k hk=>by
      have e:k=B:=(by simpa[ao]using hk)
      rw[e,<-HB.o];exact(IU.o.fr).size,Fa.o _ YK.o⟩
theorem GI(w:World)(H:Hd)(C:Pc)(h:eZ w H C)(gD:H.iA=none->C.ins.length=0/\H.iC=0)(hv:Valid C)(Jf:C.az.length<=4)(u0:C.ins.length<=4)(x:Int)(bn:Nat)(rC:bn<C.aI.length/\C.aI[bn]! =x):
  Calls Tryz.prog 18 #[bY H C, .slice none 0 0, .int .i64 (bn:Int)] w fun e w'=>e= .returned (.int .i64 (Q1 C x))/\Fr [] w w':=by
 obtain⟨w1,eo⟩:∃W,w.alloc (.cells (fv H C) 27)=W:=⟨_,rfl⟩
 have HX:aj (Cx w w1 H C):=eo▸Cx.start w H C;obtain⟨SL,Br⟩:∃SL,bW C.az.length=SL:=⟨_,rfl⟩
 obtain⟨IL,ED⟩:∃IL,bW C.ins.length=IL:=⟨_,rfl⟩
 obtain⟨m,hm⟩:∃m,SL.length=m:=⟨_,rfl⟩
 obtain⟨K,hK⟩:∃K,IL.length=K:=⟨_,rfl⟩
 have b5:m<=16:=by rw[<-hm,<-Br];exact rJ Jf
 have b6:K<=16:=by rw[<-hK,<-ED];exact rJ u0
 have uY:0<m:=by rw[<-hm,<-Br];exact j8 _
 have cf:0<K:=by rw[<-hK,<-ED];exact j8 _
 have bg:aj (∀W,Calls Tryz.prog 13 #[.int .i64 (C.az.length:Int)] W fun e w'=>∃b c,e= .returned (.slice (some ⟨b,0,none⟩) m c)/\eY w' (some ⟨b,0,none⟩) c SL/\Fr [] W w'):=fun W=>by refine(kB W C.az.length Jf).mono ?_;rintro e w' ⟨A,c,rfl,h1,-,h2⟩;rw[Br]at h1⊢;obtain⟨b,rfl⟩:=h1.pos (by omega);exact⟨b,c,by rw[hm],h1,h2⟩
 have ba:aj (∀W,Calls Tryz.prog 13 #[.int .i64 (C.ins.length:Int)] W fun e w'=>∃b c,e= .returned (.slice (some ⟨b,0,none⟩) K c)/\eY w' (some ⟨b,0,none⟩) c IL/\Fr [] W w'):=fun W=>by refine(kB W C.ins.length u0).mono ?_;rintro e w' ⟨A,c,rfl,h1,-,h2⟩;rw[ED]at h1⊢;obtain⟨b,rfl⟩:=h1.pos (by omega);exact⟨b,c,by rw[hK],h1,h2⟩
 obtain⟨b2,PF⟩:∃f:Nat->Bool,f=fun i=>rM C SL[i]! :=⟨_,rfl⟩
 obtain⟨V,hV⟩:∃f:Nat->Nat->List UInt8,f=fun i k=>vL C SL[i]! IL[k]! :=⟨_,rfl⟩
 obtain⟨NX,ZG⟩:∃f:Nat->Nat->List UInt8,f=fun i k=>mR C SL[i]! IL[k]! :=⟨_,rfl⟩
 obtain⟨AL,ZJ⟩:∃f:Nat->Nat->Bool,f=fun i k=>tc C (vL C SL[i]! IL[k]!):=⟨_,rfl⟩
 obtain⟨IX,bj⟩:∃f:Nat->Nat->Nat,f=fun i k=>idx (mR C SL[i]! IL[k]!) C.az.length:=⟨_,rfl⟩
 obtain⟨TR,aK⟩:∃f:Nat->Nat->Bool,f=fun i k=>lJ (vL C SL[i]! IL[k]!) x:=⟨_,rfl⟩
 have KQ:aj (∀i k,i<m->k<K->adt w H C SL[i]! IL[k]! (V i k) (NX i k) (b2 i) (AL i k) (IX i k)):=fun i k hi hk=>by rw[hV,ZG,PF,ZJ,bj];exact ZO h gD hv (by omega) (by rw[Br];exact bk (by omega)) (by rw[ED];exact bk (by omega))
 have rN:0<=x/\x<=9000:=by have h1:=hv.b;unfold nR at h1;rw[ax,cR]at h1;have h2:=fI hv (h1.1 _ (bk rC.1));have h3:=hv.m1;rw[rC.2]at h2;omega
 have KT:aj (∀i k,∀W,Calls Tryz.prog 33 #[.string (tx (V i k)), .int .i64 x] W fun e w'=>e= .returned (.bool (TR i k))/\Fr [] W w'):=fun i k W=>by rw[hV,aK];exact jv W (vL C SL[i]! IL[k]!) x rN.1 rN.2 (aE (qac hv _ _) (by omega))
 have IT:aj (Calls Tryz.prog 12 #[bY H C, .slice none 0 0] w1 fun e w'=>∃b c,e= .returned (.slice (some ⟨b,0,none⟩) m c)/\Ints w' (some ⟨b,0,none⟩) c (qh C)/\Fr [] w1 w'):=by
  refine(ui w1 H C (h.keep HX.o.fr) gD hv Jf u0).mono ?_;have hl:(qh C).length=m:=by rw[(tN hv).1,Br,hm]
  rintro e w' ⟨A,c,rfl,h1,-,h2⟩;obtain⟨b,rfl,-⟩:=h1.pos (i:=0) (by omega);exact⟨b,c,by rw[hl],h1,h2⟩
 have FA:aj ((qh C).length=m):=by show _=_;rw[(tN hv).1,Br,hm]
 obtain⟨O,hO⟩:∃O,qh C=O:=⟨_,rfl⟩
 obtain⟨T,hT⟩:∃T,bdT C x=T:=⟨_,rfl⟩
 have b1:aj (∀i k,T i k=(AL i k&&TR i k)):=fun i k=>by rw[<-hT,ZJ,aK];unfold bdT;rw[Br,ED]
 have gd:aj (Q1 C x=mM T K O m):=by show _=_;unfold Q1;rw[hT,hO,Br,ED,hm,hK]
 rw[hO]at IT FA;obtain⟨eH,eB⟩:∃eH,Q1 C x=eH:=⟨_,rfl⟩
 rw[eB]at gd⊢;have Ob:=ae hm;have CV:=ae hK;obtain⟨bb,bo,bx,Vn,ZC,XW,-⟩:=h.b.one h.br rC.1;have b3:bx=x:=ZC.o.symm.trans rC.2;subst b3;have uS:=ae XW;have cb:(bn:Int)<(C.aI.length:Int):=by have :=rC.1;omega
 have b9:bn<C.aI.length:=rC.1;clear h gD hv Br ED hm hK PF hV ZG ZJ bj aK hT hO eB ZC XW rC rN;have nV:(C.az.length:Int)<=4:=by omega
 have sS:(C.ins.length:Int)<=4:=by omega
 clear Jf u0;obtain⟨mx,ins,az,outs,aI,aH,au,bD⟩:=C;obtain⟨iA,iC,lA,lC,oA,oC,bA,bC,vA,vC,gA,gC,nA,nC⟩:=H;simp only[bY,fv]at *;try simp only at Vn
 subst Vn;obtain⟨c0,c1,c2,c3,c4,c5,c6,c7⟩:=HX.o.cells;go_enter Tryz.func18,Tryz.ntmps18;go_wp2_with fail;refine IT.o.mono ?_;rintro e wS ⟨bO,cO,rfl,bt,aT⟩;have a1:=ae bt;have Ff:=ae aT;have aB:=ae (HX.o.keep aT);clear bt aT IT eo HX c0 c1 c2 c3 c4 c5 c6 c7;go_upto_region 2 with fail;refine qan ?_;refine bw (fun w':World=>Fr [] wS w') 7 (by kernel_rfl) ((Fr.refl _ wS).drew) (fun dy=> ?_);refine TB 6 [(0,[]),(1,[1,2,3,7]),(2,[]),(4,[]),(5,[5,6,7]),(6,[])] dy ?_ (hr:=by(repeat (apply ZR;rfl;rfl;(intro w bT;(try(have bT:=bT.resolve_left (List.cons_ne_nil _ _);(obtain⟨q0,q1,q2,q3,q4,q5,q6,q7⟩:=(aB.o.keep bT).cells)));go_simp<;>with_reducible rfl);try simp only[Act.put,q5,q6,q7]));exact ZQ);intro dy;refine R2 3 dy fun K hK aM=> ?_
 (go_simp;refine(bg.o _).mono ?_;rintro e wT ⟨bS,cS,rfl,hS,Xs⟩;dsimp only);have nY:=ae hS;have Mm:=ae (aM.ak Xs);clear hS Xs
 refine hK.out _ _ (.inr ?_) (fun Vq=> ?_)
 ·first |exact Mm.o |exact aM
 clear hK K;try simp only[Act.put,q5,q6,q7]
 refine R2 7 Vq fun K hK aM=> ?_
 (go_simp;refine(ba.o _).mono ?_;rintro e wI ⟨bI,cI,rfl,hI,QU⟩;dsimp only);have Z3:=ae (nY.o.keep QU);have VG:=ae hI;have vY:=ae (Mm.o.ak QU);clear hI QU nY Mm
 refine hK.out _ _ (.inl rfl) (fun Lo=> ?_);clear hK K;try simp only[Act.put,q5,q6,q7]
 refine R1 (i:=8) (o:= ?aqb) (by kernel_rfl) (by rfl) ?_;intro K hK;go_simp;refine hK.out _ _ (.inl rfl) (fun TD=> ?_);clear hK K;try simp only[Act.put,q5,q6,q7]
 refine R1 (i:=9) (o:= ?akY) (by kernel_rfl) (by rfl) ?_;intro K hK;go_simp;refine hK.out _ _ (.inl rfl) (fun kG=> ?_);clear hK K;try simp only[Act.put,q5,q6,q7]
 refine fO ?_;have IU:=ae (aB.o.keep vY.o);have Md:aj (Ints wI (some ⟨bO,0,none⟩) cO O):=a1.o.fr vY.o (by simp);have Yq:aj (∀W,Fr [] wI W->∀k,k<m->W.cell? ⟨bS,k,none⟩=some (sv SL[k]!)):=fun W hW k hk=>(Z3.o.keep hW).cell (by rw[Ob.o];exact hk);have bG:aj (∀W,Fr [] wI W->∀k,k<K->W.cell? ⟨bI,k,none⟩=some (sv IL[k]!)):=fun W hW k hk=>(VG.o.keep hW).cell (by rw[CV.o];exact hk);have ad:aj (∀W,Fr [] wI W->∀k,k<m->W.cell? ⟨bO,k,none⟩=some (.int .i64 O[k]!)):=fun W hW k hk=>(Md.o.fr hW (by simp)).cell (by rw[FA.o];exact hk);have Fa:aj (∀W,Fr [] wI W->Fr [] w W):=fun W hW=>IU.o.fr.ak hW;have Js:aj (Fr [] wI wI):=Fr.refl _ _;clear Z3 VG Ob CV vY aB bg ba a1 Ff Md;try clear dy
 try clear kG
 go_wp2_with fail;go_loopg [10,11,12,13,14] m (fun gi tj uU Jy QD QC wo=>∃i:Nat,i+gi=m/\tj= .int .i64 (mM T K O i)/\uU= .int .i64 i/\aj (Fr [] wI wo));case atStart=>exact⟨0,by omega,rfl,rfl,Js⟩
 case round=>
  clear Js;obtain⟨j,hk,rfl,rfl,vY⟩:=hrel;obtain⟨wo,rfl⟩:∃x,x=wr:=⟨_,rfl⟩
  have IZ:=ae hk;have QS:j<=m:=by omega
  clear hk;by_cases pQ:j<m
  ·have b4:(j:Int)<(m:Int):=by omega
   have Yu:aj (mM T K O (j+1)=if 0<=O[j]! then lz T O j (mM T K O j) K else mM T K O j):=rfl;obtain⟨b,hb⟩:∃b,mM T K O j=b:=⟨_,rfl⟩
   rw[hb]at Yu⊢;obtain⟨s,hs⟩:∃s,O[j]! =s:=⟨_,rfl⟩
   have HS:=ae hs;rw[hs]at Yu;clear hb hs;by_cases hc:0<=s
   ·have ar:aj (mM T K O (j+1)=lz T O j b K):=by have :=Yu.o;rw[qai hc]at this;exact this
    have d1:decide (0<=s)=true:=qak hc;clear Yu;go_wp2_with fail;go_loopg [10,12,13,14] K (fun gl tj Jy QD QC wk=>∃k:Nat,k+gl=K/\tj= .int .i64 (lz T O j b k)/\Jy= .int .i64 k/\aj (Fr [] wI wk));case atStart=>exact⟨0,by omega,rfl,rfl,vY⟩
    case round=>
     clear vY;obtain⟨k,hk,rfl,rfl,oS⟩:=hrel;obtain⟨wk,rfl⟩:∃x,x=wr:=⟨_,rfl⟩
     have uQ:=ae hk;have iS:k<=K:=(by omega)
     clear hk;by_cases qI:k<K
     ·have Zw:(k:Int)<(K:Int):=(by omega)
      have J:aj (lz T O j b (k+1)=if T j k=true/\(lz T O j b k<0\/O[j]! <lz T O j b k)then O[j]! else lz T O j b k):=rfl;rw[b1.o,HS.o]at J;obtain⟨v,yh⟩:∃v,lz T O j b k=v:=⟨_,rfl⟩
      rw[yh]at J⊢;have ci:=ad.o wk oS.o j pQ;rw[HS.o]at ci;obtain⟨c0,c1,c2,c3,c4,c5,c6,c7⟩:=(IU.o.keep oS.o).cells;have kF:=Yq.o wk oS.o j pQ;have vJ:=bG.o wk oS.o k qI;have IS:=ae (KQ.o j k pQ qI).kv;have CR:=ae (KQ.o j k pQ qI).ka;have ab:=ae (KT.o j k);obtain⟨al,vN⟩:∃al,AL j k=al:=⟨_,rfl⟩
      obtain⟨tr,SC⟩:∃tr,TR j k=tr:=⟨_,rfl⟩
      rw[vN]at CR J;rw[SC]at ab J;simp only[sv]at kF vJ IS CR;obtain⟨ZS,PD⟩:∃Z:ByteArray,(⟨(SL[j]!).toArray⟩:ByteArray)=Z:=⟨_,rfl⟩
      obtain⟨ZI,EC⟩:∃Z:ByteArray,(⟨(IL[k]!).toArray⟩:ByteArray)=Z:=⟨_,rfl⟩
      obtain⟨ZV,Fu⟩:∃Z:ByteArray,(⟨(V j k).toArray⟩:ByteArray)=Z:=⟨_,rfl⟩
      rw[PD]at kF;rw[EC]at vJ;rw[PD,EC,Fu]at IS;rw[Fu]at CR;rw[show tx (V j k)=ZV from Fu]at ab;try simp only[bY,fv]at IS CR
      clear yh vN SC PD EC Fu;have Uy:=ae (Fa.o wk oS.o);obtain⟨s0,s1,s2,s3,s4,s5,s6,s7⟩:=zO c0 c1 c2 c3 c4 c5 c6 c7;have s8:=Ext.cell kF;have s9:=Ext.cell vJ;go_upto_region 10 with fail;refine ap ?_;repeat (go_big_quiet_step (exact bf (IS.o _ (Uy.o.ak (Ext.fr _)))))
      refine fq ?_;intro w5 kq;have js:=ae (oS.o.ak kq.o);clear c0 c1 c2 c3 c4 c5 c6 c7 s0 s1 s2 s3 s4 s5 s6 s7 s8 s9 kF vJ kq IS ci oS Uy;obtain⟨c0,c1,c2,c3,c4,c5,c6,c7⟩:=(IU.o.keep js.o).cells;go_wp2_with fail;refine(CR.o w5 (Fa.o _ js.o)).mono ?_;rintro e w6 ⟨rfl,gQ⟩;have fC:=ae (js.o.ak gQ);clear c0 c1 c2 c3 c4 c5 c6 c7 gQ CR js;cases al with
      |false=>
       have Qy:aj (lz T O j b (k+1)=v):=by have :=J.o;rw[qah (by simp)]at this;exact this
       clear J;go_wp2;go_roundg (gk-1);case measure=>have :=uQ.o;omega
       case rel=>exact⟨k+1,by have :=uQ.o;omega,by rw[Qy.o],by go_num,fC⟩
      |true=>
       obtain⟨c0,c1,c2,c3,c4,c5,c6,c7⟩:=(IU.o.keep fC.o).cells;have nX:=(Fa.o _ fC.o).aF uS.o;go_wp2_with fail;refine(ab.o w6).mono ?_;rintro e w7 ⟨rfl,jg⟩;have mP:=ae (fC.o.ak jg);clear c0 c1 c2 c3 c4 c5 c6 c7 nX jg ab fC;cases tr with
       |false=>
        have Qy:aj (lz T O j b (k+1)=v):=by have :=J.o;rw[qah (by simp)]at this;exact this
        clear J;go_wp2;go_roundg (gk-1);case measure=>have :=uQ.o;omega
        case rel=>exact⟨k+1,by have :=uQ.o;omega,by rw[Qy.o],by go_num,mP⟩
       |true=>
        have ci:=ad.o w7 mP.o j pQ;rw[HS.o]at ci;by_cases Cy:v<0
        ·have d2:decide (v<0)=true:=qak Cy;have Qy:aj (lz T O j b (k+1)=s):=by have :=J.o;rw[qai ⟨rfl, .inl Cy⟩]at this;exact this
         clear J;go_wp2;go_roundg (gk-1);case measure=>have :=uQ.o;omega
         case rel=>exact⟨k+1,by have :=uQ.o;omega,by rw[Qy.o],by go_num,mP⟩
        ·have d2:decide (v<0)=false:=qaj Cy;by_cases nq:s<v
         ·have d3:decide (s<v)=true:=qak nq;have Qy:aj (lz T O j b (k+1)=s):=by have :=J.o;rw[qai ⟨rfl, .inr nq⟩]at this;exact this
          clear J;go_wp2;go_roundg (gk-1);case measure=>have :=uQ.o;omega
          case rel=>exact⟨k+1,by have :=uQ.o;omega,by rw[Qy.o],by go_num,mP⟩
         ·have d3:decide (s<v)=false:=qaj nq;have Qy:aj (lz T O j b (k+1)=v):=by have :=J.o;rw[qah (fun h=>h.2.elim Cy nq)]at this;exact this
          clear J;go_wp2;go_roundg (gk-1);case measure=>have :=uQ.o;omega
          case rel=>exact⟨k+1,by have :=uQ.o;omega,by rw[Qy.o],by go_num,mP⟩
     ·have ca:¬(k:Int)<(K:Int):=(by omega)
      have bB:k=K:=(by omega)
      have b0:aj (mM T K O (j+1)=lz T O j b k):=by show _=_;rw[ar.o,bB]
      clear bB uQ;go_wp2;go_roundg (m-(j+1));case measure=>have :=IZ.o;omega
      case rel=>exact⟨j+1,by have :=IZ.o;omega,by rw[b0.o],by go_num,oS⟩
   ·have ar:aj (mM T K O (j+1)=b):=by have :=Yu.o;rw[qah hc]at this;exact this
    have d1:decide (0<=s)=false:=qaj hc;clear Yu;go_wp2_with fail;go_loopg [10,12] 0 (fun gl tj Jy wk=>tj= .int .i64 b/\Jy= .int .i64 0/\aj (Fr [] wI wk));case atStart=>exact⟨rfl,rfl,vY⟩
    case round=>
     clear vY;obtain⟨rfl,rfl,oS⟩:=hrel;obtain⟨wk,rfl⟩:∃x,x=wr:=⟨_,rfl⟩
     have ci:=ad.o wk oS.o j pQ;rw[HS.o]at ci;have b7:(0:Int)<(K:Int):=(by omega)
     go_wp2;go_roundg (m-(j+1));case measure=>have :=IZ.o;omega
     case rel=>exact⟨j+1,by have :=IZ.o;omega,by rw[ar.o],by go_num,oS⟩
  ·have cc:¬(j:Int)<(m:Int):=by omega
   have Td:j=m:=by omega
   have Qk:aj (mM T K O j=eH):=by show _=_;rw[gd.o,Td]
   clear Td IZ;rw[Qk.o];go_wp2;go_ret;exact⟨rfl,Fa.o _ vY.o⟩
end Go.Proofs.YtpjbaobgnhjgoaaGreat
