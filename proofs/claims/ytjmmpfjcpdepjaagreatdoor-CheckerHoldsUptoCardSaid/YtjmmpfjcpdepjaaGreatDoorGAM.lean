/- Parts of a proof. -/
import Derived.Test.YtjmmpfjcpdepjaaGreatDoorGAL
import Derived.Laws.MakeOwn
set_option linter.unusedVariables false
set_option linter.unusedSimpArgs false
set_option maxHeartbeats 8000000
namespace Go.Proofs.YtjmmpfjcpdepjaaGreatDoor
open Go.RowKit
def yy (C:Pc)(l:List Int):Bool:= !(ft (C.aM.length:Int) l==0)
theorem aiM (W:World)(g:Nat)(A:Option Addr)(n c:Nat)(hc:W.cell? ⟨g,2,none⟩=some (.slice A n c))(C:Pc)(hn:n=C.aM.length)(h:Ls)(hk:zy W h):
  Calls Tryz.prog 26 #[h.val, .pointer (some ⟨g,0,none⟩)] W fun e w'=>e= .returned (.bool (yy C h.l))/\Fr [] W w':=by
 subst hn;obtain⟨B,d,l⟩:=h;have KL:=aa (iq W (C.aM.length:Int) B d l hk.1 hk.2.1);show Calls Tryz.prog 26 #[.slice B l.length d, .pointer (some ⟨g,0,none⟩)] W fun e w'=>e= .returned (.bool (yy C l))/\Fr [] W w';obtain⟨k,ZT⟩:∃k,ft (C.aM.length:Int) l=k:=⟨_,rfl⟩
 rw[ZT]at KL;have hu:yy C l=(k !=0):=by unfold yy;rw[ZT];rfl
 rw[hu];clear hk ZT hu;go_enter Tryz.func26,Tryz.ntmps26;go_wp2_with fail;refine KL.out.mono ?_;rintro e w2 ⟨rfl,hf⟩;have HF:=aa hf;clear hf;go_wp2_with fail;go_ret;exact⟨rfl,HF.out⟩
theorem ES:∀args w,(callFunc 26 args).run Tryz.prog w= .ok (.enter 26 args) w:=enters_of Tryz.func26 (by kernel_rfl) rfl
open Classical in
noncomputable def sX (q:Qn):Int:=
 if ¬Valid q.C then 9
 else if q.bad<0\/(q.C.aT.length:Int)<=q.bad\/q.dep<0\/80<=q.dep\/q.yL<0\/1099511627776<q.yL then 4
 else if 64<(q.am.length:Int)\/64<(q.ls.length:Int)\/256<(q.ks.length:Int)then 3
 else if(q.am.any fun h=>qd q.C.mx h.l)=true\/(q.ls.any fun h=>qd q.C.mx h.l)=true then 23
 else if(q.ks.any fun h=>yy q.C h.l)=true then 23 else 0
set_option maxRecDepth 100000 in
theorem nh (w:World)(H:Qh)(q:Qn)(h:qm w H q):
  Calls Tryz.prog 7 #[lD H q] w fun e w'=>e= .returned (.int .i64 (sX q))/\Fr [] w w':=by
 obtain⟨w1,dP⟩:∃W,w.alloc (.cells (mZ H q) 30)=W:=⟨_,rfl⟩
 obtain⟨w2,oG⟩:∃W,w1.alloc (.cells (iz H.H q.C) 27)=W:=⟨_,rfl⟩
 have cX:Fr [] w w1:=dP▸eW _ _;have bW:Fr [] w1 w2:=oG▸eW _ _;have cw:=aa (cX.ag bW);have uw:At w1 w.heap.size 30 (mZ H q):=dP▸At.new _ _ _;have vg:=aa (uw.keep bW);have pE:Hid (At w2 w1.heap.size 27 (iz H.H q.C)):=oG▸At.new _ _ _;have HH:=aa (h.keep cw.out);have ou:w1.heap.size=w.heap.size+1:=by rw[<-dP];simp
 obtain⟨r,hr⟩:∃r,sX q=r:=⟨_,rfl⟩
 rw[hr];have HR:=aa hr;have KC:=aa (l8 w2 H.H q.C HH.out.c);have KST:=aa (fun W=>Bg W H.H q.C);obtain⟨⟨mx,ins,aM,outs,aT,aU,az,bY⟩,am,ls,ks,bad,dep,yL⟩:=q;obtain⟨⟨iA,iC,lA,lC,oA,oC,bA,bC,vA,vC,gA,gC,nA,nC⟩,aA,aC,mA,mC,kA,kC⟩:=H;simp only[lD,mZ,dj,iz]at *;have p0:=uw.cell 0;have p1:=uw.cell 1;have p2:=uw.cell 2;have p3:=uw.cell 3;have p4:=uw.cell 4;have p5:=uw.cell 5;have p6:=uw.cell 6;have p7:=uw.cell 7;have q0:=vg.out.cell 0;have q1:=vg.out.cell 1;have q2:=vg.out.cell 2;have q3:=vg.out.cell 3;have q4:=vg.out.cell 4;have q5:=vg.out.cell 5;have q6:=vg.out.cell 6;have q7:=vg.out.cell 7;have q8:=vg.out.cell 8;have q9:=vg.out.cell 9;have mL:=vg.out.cell 10;have nH:=vg.out.cell 11;have nF:=vg.out.cell 12;have nE:=vg.out.cell 13;have c0:=pE.out.cell 0;have c1:=pE.out.cell 1;have c2:=pE.out.cell 2;have c3:=pE.out.cell 3;have c4:=pE.out.cell 4;have c5:=pE.out.cell 5;have c6:=pE.out.cell 6;have c7:=pE.out.cell 7;simp at p0 p1 p2 p3 p4 p5 p6 p7;simp at q0 q1 q2 q3 q4 q5 q6 q7 q8 q9 mL nH nF nE c0 c1 c2 c3 c4 c5 c6 c7;rw[ou]at c0 c1 c2 c3 c4 c5 c6 c7;have HS:=aa ou;clear h hr cX bW uw;go_enter Tryz.func7,Tryz.ntmps7;go_upto_region 2 with fail;go_wp2_with fail;refine KC.out.mono ?_;clear KC p0 p1 p2 p3 p4 p5 p6 p7 q0 q1 q2 q3 q4 q5 q6 q7 q8 q9 mL nH nF nE c0 c1 c2 c3 c4 c5 c6 c7 dP oG;rintro e w3 ⟨hc,dh⟩;have db:=aa (cw.out.ag dh);have Ya:=aa (vg.out.keep dh);have FA:=aa (pE.out.keep dh);have Tz:=aa (HH.out.keep dh);have HVD:Hid ((e= .returned (.int .i64 0)/\Valid ⟨mx,ins,aM,outs,aT,aU,az,bY⟩)\/(e= .returned (.int .i64 9)/\¬Valid ⟨mx,ins,aM,outs,aT,aU,az,bY⟩)):=hc;clear hc dh vg pE HH;rcases HVD.out with⟨rfl,hv⟩ |⟨rfl,hv⟩
 ·have HV:=aa hv;clear hv HVD;have q8:=Ya.out.cell 8;have q9:=Ya.out.cell 9;have mL:=Ya.out.cell 10;have nH:=Ya.out.cell 11;have nF:=Ya.out.cell 12;have nE:=Ya.out.cell 13;have c4:=FA.out.cell 4;simp at q8 q9 mL nH nF nE c4;rw[ou]at c4;by_cases h1:bad<0
  ·have d1:decide (bad<0)=true:=aai (by omega);have kE:r=4:=by rw[<-HR.out];unfold sX;rw[aac (fun h=>h HV.out),aae (by simp only;omega)]
   subst kE;clear h1;go_wp2_with fail;go_ret;exact⟨rfl,db.out⟩
  ·have d1:decide (bad<0)=false:=aah (by omega);by_cases h2:(aT.length:Int)<=bad
   ·have d2:decide ((aT.length:Int)<=bad)=true:=aai (by omega);have kE:r=4:=by rw[<-HR.out];unfold sX;rw[aac (fun h=>h HV.out),aae (by simp only;omega)]
    subst kE;clear h2;go_wp2_with fail;go_ret;exact⟨rfl,db.out⟩
   ·have d2:decide ((aT.length:Int)<=bad)=false:=aah (by omega);by_cases h3:dep<0
    ·have d3:decide (dep<0)=true:=aai (by omega);have kE:r=4:=by rw[<-HR.out];unfold sX;rw[aac (fun h=>h HV.out),aae (by simp only;omega)]
     subst kE;clear h3;go_wp2_with fail;go_ret;exact⟨rfl,db.out⟩
    ·have d3:decide (dep<0)=false:=aah (by omega);by_cases h4:80<=dep
     ·have d4:decide (80<=dep)=true:=aai (by omega);have kE:r=4:=by rw[<-HR.out];unfold sX;rw[aac (fun h=>h HV.out),aae (by simp only;omega)]
      subst kE;clear h4;go_wp2_with fail;go_ret;exact⟨rfl,db.out⟩
     ·have d4:decide (80<=dep)=false:=aah (by omega);by_cases h5:yL<0
      ·have d5:decide (yL<0)=true:=aai (by omega);have kE:r=4:=by rw[<-HR.out];unfold sX;rw[aac (fun h=>h HV.out),aae (by simp only;omega)]
       subst kE;clear h5;go_wp2_with fail;go_ret;exact⟨rfl,db.out⟩
      ·have d5:decide (yL<0)=false:=aah (by omega);by_cases h6:1099511627776<yL
       ·have d6:decide (1099511627776<yL)=true:=aai (by omega);have kE:r=4:=by rw[<-HR.out];unfold sX;rw[aac (fun h=>h HV.out),aae (by simp only;omega)]
        subst kE;clear h6;go_wp2_with fail;go_ret;exact⟨rfl,db.out⟩
       ·have d6:decide (1099511627776<yL)=false:=aah (by omega);by_cases h7:64<(am.length:Int)
        ·have d7:decide (64<(am.length:Int))=true:=aai (by omega);have kE:r=3:=by rw[<-HR.out];unfold sX;rw[aac (fun h=>h HV.out),aac (by simp only;omega),aae (by simp only;omega)]
         subst kE;clear h7;go_wp2_with fail;go_ret;exact⟨rfl,db.out⟩
        ·have d7:decide (64<(am.length:Int))=false:=aah (by omega);by_cases h8:64<(ls.length:Int)
         ·have d8:decide (64<(ls.length:Int))=true:=aai (by omega);have kE:r=3:=by rw[<-HR.out];unfold sX;rw[aac (fun h=>h HV.out),aac (by simp only;omega),aae (by simp only;omega)]
          subst kE;clear h8;go_wp2_with fail;go_ret;exact⟨rfl,db.out⟩
         ·have d8:decide (64<(ls.length:Int))=false:=aah (by omega);by_cases h9:256<(ks.length:Int)
          ·have d9:decide (256<(ks.length:Int))=true:=aai (by omega);have kE:r=3:=by rw[<-HR.out];unfold sX;rw[aac (fun h=>h HV.out),aac (by simp only;omega),aae (by simp only;omega)]
           subst kE;clear h9;go_wp2_with fail;go_ret;exact⟨rfl,db.out⟩
          ·have d9:decide (256<(ks.length:Int))=false:=aah (by omega);have HI:Hid (sX ⟨⟨mx,ins,aM,outs,aT,aU,az,bY⟩,am,ls,ks,bad,dep,yL⟩=if(am.any fun h=>qd mx h.l)=true\/(ls.any fun h=>qd mx h.l)=true then 23 else if(ks.any fun h=>yy ⟨mx,ins,aM,outs,aT,aU,az,bY⟩ h.l)=true then 23 else 0):=by show _=_;unfold sX;rw[aac (fun h=>h HV.out),aac (by simp only;omega),aac (by simp only;omega)]
           rw[HR.out]at HI;have uY:=HV.out.m0;have mz:=HV.out.m1;simp only at uY mz;have KA:Hid (∀(l:List Ls) (A:Option Addr) (c:Nat),j3 w3 A l->l.length<=17592186044416->∀(W:World) (g:Nat),W.cell? ⟨g,0,none⟩=some (.int .i64 mx)->Fr [] w3 W->Calls Tryz.prog 24 #[.slice A l.length c, .func (.func 52) #[] #[.pointer (some ⟨g,0,none⟩)]] W fun e w'=>e= .returned (.bool (l.any fun h=>qd mx h.l))/\Fr [] W w'):=
            fun l A c hl hn W g hg hW=>lu W A c l 52 #[.pointer (some ⟨g,0,none⟩)] (qd mx) u9 (hl.keep hW) hn (fun W' Kl h _ ok=>Pg W' g mx (Kl.aN hg) uY mz h ok)
           have KB:Hid (∀W,Fr [] w3 W->Calls Tryz.prog 24 #[.slice kA ks.length kC, .func (.func 26) #[] #[.pointer (some ⟨w.heap.size+1,0,none⟩)]] W fun e w'=>e= .returned (.bool (ks.any fun h=>yy ⟨mx,ins,aM,outs,aT,aU,az,bY⟩ h.l))/\Fr [] W w'):=by have c2:=FA.out.cell 2;simp at c2;rw[ou]at c2;have oJ:=Tz.out.kL;simp only at oJ;exact fun W hW=>lu W kA kC ks 26 #[.pointer (some ⟨w.heap.size+1,0,none⟩)] (yy ⟨mx,ins,aM,outs,aT,aU,az,bY⟩) ES (Tz.out.k.keep hW) (by omega) (fun W' Kl h _ ok=>aiM W' _ _ _ _ ((hW.ag Kl).aN c2) ⟨mx,ins,aM,outs,aT,aU,az,bY⟩ rfl h ok)
           obtain⟨a1,Q2⟩:∃b,(am.any fun h=>qd mx h.l)=b:=⟨_,rfl⟩
           obtain⟨a2,te⟩:∃b,(ls.any fun h=>qd mx h.l)=b:=⟨_,rfl⟩
           obtain⟨a3,ha3⟩:∃b,(ks.any fun h=>yy ⟨mx,ins,aM,outs,aT,aU,az,bY⟩ h.l)=b:=⟨_,rfl⟩
           have I8:=KA.out am aA aC Tz.out.a (by have :=Tz.out.aL;simp only at this;omega);have Tu:=KA.out ls mA mC Tz.out.l (by have :=Tz.out.lL;simp only at this;omega);rw[Q2]at I8 HI;rw[te]at Tu HI;rw[ha3]at HI KB;have I8:=aa I8;have Tu:=aa Tu;have c0:=FA.out.cell 0;have c1:=FA.out.cell 1;have c2:=FA.out.cell 2;have c3:=FA.out.cell 3;have c5:=FA.out.cell 5;have c6:=FA.out.cell 6;have c7:=FA.out.cell 7;simp at c0 c1 c2 c3 c5 c6 c7;rw[ou]at c0 c1 c2 c3 c5 c6 c7;have WP:=aa c0;have zJ:=aa c1;have OS:=aa c2;have HD3:=aa c3;have WO:=aa c4;have HD5:=aa c5;have WN:=aa c6;have HD7:=aa c7;have SO:=aa q8;have HD9:=aa q9;have abu:=aa mL;clear KA Q2 te ha3 uY mz c0 c1 c2 c3 c5 c6 c7;go_upto_region 8 with fail;clear c4 q8 q9 mL nH nF nE;cases a1 with
           |true=>
            have kE:r=23:=by rw[HI.out];rfl
            subst kE;refine aam ?_;refine bi (fun w':World=>Fr [] w3 w') 4 (by kernel_rfl) ((Fr.refl [] w3).drew) (fun cZ=> ?_);apply TB 3 [(0,[]),(1,[1,4]),(2,[2,3,4])];kernel_rfl;rfl;· (repeat (apply eH;rfl;rfl;(· intro w bl;(try(have bl:=bl.resolve_left (aF _ _);(have s0:=bl.aN WP.out;have s1:=bl.aN zJ.out;have s2:=bl.aN OS.out;have s3:=bl.aN HD3.out;have s4:=bl.aN WO.out;have s5:=bl.aN HD5.out;have s6:=bl.aN WN.out;have s7:=bl.aN HD7.out;have s8:=bl.aN SO.out;have s9:=bl.aN HD9.out)));go_simp<;>with_reducible rfl);try simp only[Act.put,q5,q6,q7]));exact eG
            exact cZ;intro cZ;refine R2 3 (by kernel_rfl) (by rfl) cZ fun K hK aw=> ?_
            (go_simp;refine(KST.out _).mono ?_;rintro e w5 ⟨g5,rfl,Vv,QL⟩;dsimp only)
            refine hK.out _ _ (.inr ?_) (fun iS=> ?_)
            ·first |exact aw.ag mp |exact aw.ag Vw |exact aw.ag gW |exact aw.ag QL |exact aw
            clear hK K;try simp only[Act.put,q5,q6,q7]
            refine R2 4 (by kernel_rfl) (by rfl) iS fun K hK aw=> ?_
            (go_simp;refine(I8.out _ _ Vv aw).mono ?_;rintro e w6 ⟨rfl,gW⟩;dsimp only)
            refine hK.out _ _ (.inl rfl) (fun Aw=> ?_);clear hK K;try simp only[Act.put,q5,q6,q7]
            apply TB 1 [(5,[])];kernel_rfl;rfl;· (repeat (apply eH;rfl;rfl;(· intro w bl;go_simp<;>with_reducible rfl);try simp only[Act.put,q5,q6,q7]));exact eG
            exact Aw;intro Aw;refine bJ (rs:=[6,8]) (by kernel_rfl) (by simp) ?_;refine aZ.cons (o:= ?aiY) ?UK ?GX ?_;case UK=>rfl
            case GX=>
             intro K hK;go_simp;refine hK.out _ _ (.inl rfl) (fun vF=> ?_);clear hK K;try simp only[Act.put,q5,q6,q7]
             refine bJ (rs:=[7,8]) (by kernel_rfl) (by simp) ?_;refine aZ.cons (o:= ?aiX) ?UJ ?GW ?_;case UJ=>rfl
             case GW=>
              intro K hK;go_simp;refine hK.out _ _ (.inl rfl) (fun Km=> ?_);clear hK K;try simp only[Act.put,q5,q6,q7]
              refine R1 (i:=8) (o:= ?aiW) (by kernel_rfl) (by rfl) ?_;intro K hK;go_simp;refine hK.out _ _ (.inl rfl) (fun OA=> ?_);clear hK K;try simp only[Act.put,q5,q6,q7]
              refine R1 (i:=9) (o:= ?ahr) (by kernel_rfl) (by rfl) ?_;intro K hK;go_simp;refine hK.out _ _ (.inl rfl) (fun js=> ?_);clear hK K;try simp only[Act.put,q5,q6,q7]
              refine R1 (i:=10) (o:= ?ahq) (by kernel_rfl) (by rfl) ?_;intro K hK;go_simp;refine hK.out _ _ (.inl rfl) (fun fo=> ?_);clear hK K;try simp only[Act.put,q5,q6,q7]
              apply TB 1 [(11,[])];kernel_rfl;rfl;· (repeat (apply eH;rfl;rfl;(· intro w bl;go_simp<;>with_reducible rfl);try simp only[Act.put,q5,q6,q7]));exact eG
              exact fo;intro fo;refine R1 (i:=12) (o:= ?ahp) (by kernel_rfl) (by rfl) ?_;intro K hK;go_simp;refine hK.out _ _ (.inl rfl) (fun kH=> ?_);clear hK K;try simp only[Act.put,q5,q6,q7]
              refine aD (by kernel_rfl) ?_ _;refine NoPanic.normal ?_;have oo:=aa (aw.ag gW);clear aw gW;go_wp2_with fail;go_ret;exact⟨rfl,db.out.ag oo.out⟩
             refine aZ.cons (o:= ?aho) ?Qt ?Ei ?_;case Qt=>rfl
             case Ei=>
              intro K hK;go_simp;refine hK.out _ _ (.inl rfl) (fun Km=> ?_);clear hK K;try simp only[Act.put,q5,q6,q7]
              refine bJ (rs:=[7,9]) (by kernel_rfl) (by simp) ?_;refine aZ.cons (o:= ?ahn) ?Qs ?Eh ?_;case Qs=>rfl
              case Eh=>
               intro K hK;go_simp;refine hK.out _ _ (.inl rfl) (fun OA=> ?_);clear hK K;try simp only[Act.put,q5,q6,q7]
               refine R1 (i:=9) (o:= ?ahm) (by kernel_rfl) (by rfl) ?_;intro K hK;go_simp;refine hK.out _ _ (.inl rfl) (fun js=> ?_);clear hK K;try simp only[Act.put,q5,q6,q7]
               refine R1 (i:=10) (o:= ?ahl) (by kernel_rfl) (by rfl) ?_;intro K hK;go_simp;refine hK.out _ _ (.inl rfl) (fun fo=> ?_);clear hK K;try simp only[Act.put,q5,q6,q7]
               apply TB 1 [(11,[])];kernel_rfl;rfl;· (repeat (apply eH;rfl;rfl;(· intro w bl;go_simp<;>with_reducible rfl);try simp only[Act.put,q5,q6,q7]));exact eG
               exact fo;intro fo;refine R1 (i:=12) (o:= ?ahk) (by kernel_rfl) (by rfl) ?_;intro K hK;go_simp;refine hK.out _ _ (.inl rfl) (fun kH=> ?_);clear hK K;try simp only[Act.put,q5,q6,q7]
               refine aD (by kernel_rfl) ?_ _;refine NoPanic.normal ?_;have oo:=aa (aw.ag gW);clear aw gW;go_wp2_with fail;go_ret;exact⟨rfl,db.out.ag oo.out⟩
              refine aZ.cons (o:= ?ahj) ?Qr ?Eg ?_;case Qr=>rfl
              case Eg=>
               intro K hK;go_simp;refine hK.out _ _ (.inl rfl) (fun OA=> ?_);clear hK K;try simp only[Act.put,q5,q6,q7]
               refine R1 (i:=7) (o:= ?ahi) (by kernel_rfl) (by rfl) ?_;intro K hK;go_simp;refine hK.out _ _ (.inl rfl) (fun js=> ?_);clear hK K;try simp only[Act.put,q5,q6,q7]
               refine R1 (i:=10) (o:= ?ahh) (by kernel_rfl) (by rfl) ?_;intro K hK;go_simp;refine hK.out _ _ (.inl rfl) (fun fo=> ?_);clear hK K;try simp only[Act.put,q5,q6,q7]
               apply TB 1 [(11,[])];kernel_rfl;rfl;· (repeat (apply eH;rfl;rfl;(· intro w bl;go_simp<;>with_reducible rfl);try simp only[Act.put,q5,q6,q7]));exact eG
               exact fo;intro fo;refine R1 (i:=12) (o:= ?ahg) (by kernel_rfl) (by rfl) ?_;intro K hK;go_simp;refine hK.out _ _ (.inl rfl) (fun kH=> ?_);clear hK K;try simp only[Act.put,q5,q6,q7]
               refine aD (by kernel_rfl) ?_ _;refine NoPanic.normal ?_;have oo:=aa (aw.ag gW);clear aw gW;go_wp2_with fail;go_ret;exact⟨rfl,db.out.ag oo.out⟩
              exact aZ.nil
             exact aZ.nil
            refine aZ.cons (o:= ?ahf) ?Qq ?Ef ?_;case Qq=>rfl
            case Ef=>
             intro K hK;go_simp;refine hK.out _ _ (.inl rfl) (fun vF=> ?_);clear hK K;try simp only[Act.put,q5,q6,q7]
             refine bJ (rs:=[6,9]) (by kernel_rfl) (by simp) ?_;refine aZ.cons (o:= ?ahe) ?Qp ?Ee ?_;case Qp=>rfl
             case Ee=>
              intro K hK;go_simp;refine hK.out _ _ (.inl rfl) (fun Km=> ?_);clear hK K;try simp only[Act.put,q5,q6,q7]
              refine bJ (rs:=[7,9]) (by kernel_rfl) (by simp) ?_;refine aZ.cons (o:= ?ahd) ?Qo ?Ed ?_;case Qo=>rfl
              case Ed=>
               intro K hK;go_simp;refine hK.out _ _ (.inl rfl) (fun OA=> ?_);clear hK K;try simp only[Act.put,q5,q6,q7]
               refine R1 (i:=9) (o:= ?ahc) (by kernel_rfl) (by rfl) ?_;intro K hK;go_simp;refine hK.out _ _ (.inl rfl) (fun js=> ?_);clear hK K;try simp only[Act.put,q5,q6,q7]
               refine R1 (i:=10) (o:= ?ahb) (by kernel_rfl) (by rfl) ?_;intro K hK;go_simp;refine hK.out _ _ (.inl rfl) (fun fo=> ?_);clear hK K;try simp only[Act.put,q5,q6,q7]
               apply TB 1 [(11,[])];kernel_rfl;rfl;· (repeat (apply eH;rfl;rfl;(· intro w bl;go_simp<;>with_reducible rfl);try simp only[Act.put,q5,q6,q7]));exact eG
               exact fo;intro fo;refine R1 (i:=12) (o:= ?aha) (by kernel_rfl) (by rfl) ?_;intro K hK;go_simp;refine hK.out _ _ (.inl rfl) (fun kH=> ?_);clear hK K;try simp only[Act.put,q5,q6,q7]
               refine aD (by kernel_rfl) ?_ _;refine NoPanic.normal ?_;have oo:=aa (aw.ag gW);clear aw gW;go_wp2_with fail;go_ret;exact⟨rfl,db.out.ag oo.out⟩
              refine aZ.cons (o:= ?ag9) ?Qm ?Ec ?_;case Qm=>rfl
              case Ec=>
               intro K hK;go_simp;refine hK.out _ _ (.inl rfl) (fun OA=> ?_);clear hK K;try simp only[Act.put,q5,q6,q7]
               refine R1 (i:=7) (o:= ?ag8) (by kernel_rfl) (by rfl) ?_;intro K hK;go_simp;refine hK.out _ _ (.inl rfl) (fun js=> ?_);clear hK K;try simp only[Act.put,q5,q6,q7]
               refine R1 (i:=10) (o:= ?ag7) (by kernel_rfl) (by rfl) ?_;intro K hK;go_simp;refine hK.out _ _ (.inl rfl) (fun fo=> ?_);clear hK K;try simp only[Act.put,q5,q6,q7]
               apply TB 1 [(11,[])];kernel_rfl;rfl;· (repeat (apply eH;rfl;rfl;(· intro w bl;go_simp<;>with_reducible rfl);try simp only[Act.put,q5,q6,q7]));exact eG
               exact fo;intro fo;refine R1 (i:=12) (o:= ?ag6) (by kernel_rfl) (by rfl) ?_;intro K hK;go_simp;refine hK.out _ _ (.inl rfl) (fun kH=> ?_);clear hK K;try simp only[Act.put,q5,q6,q7]
               refine aD (by kernel_rfl) ?_ _;refine NoPanic.normal ?_;have oo:=aa (aw.ag gW);clear aw gW;go_wp2_with fail;go_ret;exact⟨rfl,db.out.ag oo.out⟩
              exact aZ.nil
             refine aZ.cons (o:= ?ag5) ?Ql ?Eb ?_;case Ql=>rfl
             case Eb=>
              intro K hK;go_simp;refine hK.out _ _ (.inl rfl) (fun Km=> ?_);clear hK K;try simp only[Act.put,q5,q6,q7]
              refine R1 (i:=6) (o:= ?ag4) (by kernel_rfl) (by rfl) ?_;intro K hK;go_simp;refine hK.out _ _ (.inl rfl) (fun OA=> ?_);clear hK K;try simp only[Act.put,q5,q6,q7]
              refine R1 (i:=7) (o:= ?ag3) (by kernel_rfl) (by rfl) ?_;intro K hK;go_simp;refine hK.out _ _ (.inl rfl) (fun js=> ?_);clear hK K;try simp only[Act.put,q5,q6,q7]
              refine R1 (i:=10) (o:= ?ag2) (by kernel_rfl) (by rfl) ?_;intro K hK;go_simp;refine hK.out _ _ (.inl rfl) (fun fo=> ?_);clear hK K;try simp only[Act.put,q5,q6,q7]
              apply TB 1 [(11,[])];kernel_rfl;rfl;· (repeat (apply eH;rfl;rfl;(· intro w bl;go_simp<;>with_reducible rfl);try simp only[Act.put,q5,q6,q7]));exact eG
              exact fo;intro fo;refine R1 (i:=12) (o:= ?ag1) (by kernel_rfl) (by rfl) ?_;intro K hK;go_simp;refine hK.out _ _ (.inl rfl) (fun kH=> ?_);clear hK K;try simp only[Act.put,q5,q6,q7]
              refine aD (by kernel_rfl) ?_ _;refine NoPanic.normal ?_;have oo:=aa (aw.ag gW);clear aw gW;go_wp2_with fail;go_ret;exact⟨rfl,db.out.ag oo.out⟩
             exact aZ.nil
            exact aZ.nil
           |false=>
            refine aam ?_;refine bi (fun w':World=>Fr [] w3 w') 10 (by kernel_rfl) ((Fr.refl [] w3).drew) (fun cZ=> ?_);apply TB 3 [(0,[]),(1,[1,4,5,10]),(2,[2,3,4,5,10])];kernel_rfl;rfl;· (repeat (apply eH;rfl;rfl;(· intro w bl;(try(have bl:=bl.resolve_left (aF _ _);(have s0:=bl.aN WP.out;have s1:=bl.aN zJ.out;have s2:=bl.aN OS.out;have s3:=bl.aN HD3.out;have s4:=bl.aN WO.out;have s5:=bl.aN HD5.out;have s6:=bl.aN WN.out;have s7:=bl.aN HD7.out;have s8:=bl.aN SO.out;have s9:=bl.aN HD9.out)));go_simp<;>with_reducible rfl);try simp only[Act.put,q5,q6,q7]));exact eG
            exact cZ;intro cZ;refine R2 3 (by kernel_rfl) (by rfl) cZ fun K hK aw=> ?_
            (go_simp;refine(KST.out _).mono ?_;rintro e w5 ⟨g5,rfl,Vv,QL⟩;dsimp only)
            refine hK.out _ _ (.inr ?_) (fun iS=> ?_)
            ·first |exact aw.ag mp |exact aw.ag Vw |exact aw.ag gW |exact aw.ag QL |exact aw
            clear hK K;try simp only[Act.put,q5,q6,q7]
            refine R2 4 (by kernel_rfl) (by rfl) iS fun K hK aw=> ?_
            (go_simp;refine(I8.out _ _ Vv aw).mono ?_;rintro e w6 ⟨rfl,gW⟩;dsimp only)
            refine hK.out _ _ (.inr ?_) (fun Aw=> ?_)
            ·first |exact aw.ag mp |exact aw.ag Vw |exact aw.ag gW |exact aw.ag QL |exact aw
            clear hK K;try simp only[Act.put,q5,q6,q7]
            apply TB 4 [(5,[]),(6,[]),(7,[7,10]),(8,[8,9,10])];kernel_rfl;rfl;· (repeat (apply eH;rfl;rfl;(· intro w bl;(try(have bl:=bl.resolve_left (aF _ _);(have s0:=bl.aN WP.out;have s1:=bl.aN zJ.out;have s2:=bl.aN OS.out;have s3:=bl.aN HD3.out;have s4:=bl.aN WO.out;have s5:=bl.aN HD5.out;have s6:=bl.aN WN.out;have s7:=bl.aN HD7.out;have s8:=bl.aN SO.out;have s9:=bl.aN HD9.out)));go_simp<;>with_reducible rfl);try simp only[Act.put,q5,q6,q7]));exact eG
            exact Aw;intro Aw;refine R2 9 (by kernel_rfl) (by rfl) Aw fun K hK aw=> ?_
            (go_simp;refine(KST.out _).mono ?_;rintro e w7 ⟨g7,rfl,hg7,Vw⟩;dsimp only)
            refine hK.out _ _ (.inr ?_) (fun js=> ?_)
            ·first |exact aw.ag mp |exact aw.ag Vw |exact aw.ag gW |exact aw.ag QL |exact aw
            clear hK K;try simp only[Act.put,q5,q6,q7]
            refine R2 10 (by kernel_rfl) (by rfl) js fun K hK aw=> ?_
            (go_simp;refine(Tu.out _ _ hg7 aw).mono ?_;rintro e w8 ⟨rfl,mp⟩;dsimp only)
            refine hK.out _ _ (.inl rfl) (fun fo=> ?_);clear hK K;try simp only[Act.put,q5,q6,q7]
            apply TB 1 [(11,[])];kernel_rfl;rfl;· (repeat (apply eH;rfl;rfl;(· intro w bl;go_simp<;>with_reducible rfl);try simp only[Act.put,q5,q6,q7]));exact eG
            exact fo;intro fo;refine R1 (i:=12) (o:= ?aht) (by kernel_rfl) (by rfl) ?_;intro K hK;go_simp;refine hK.out _ _ (.inl rfl) (fun kH=> ?_);clear hK K;try simp only[Act.put,q5,q6,q7]
            refine aD (by kernel_rfl) ?_ _;refine NoPanic.normal ?_;have oo:=aa (aw.ag mp);clear aw mp;cases a2 with
            |true=>
             have kE:r=23:=by rw[HI.out];simp
             subst kE;go_wp2_with fail;go_ret;exact⟨rfl,db.out.ag oo.out⟩
            |false=>
             have mL:=oo.out.aN abu.out;have KB8:=aa (KB.out _ oo.out);cases a3 with
             |true=>
              have kE:r=23:=by rw[HI.out];simp
              subst kE;go_wp2_with fail;refine KB8.out.mono ?_;rintro e w9 ⟨rfl,qH⟩;have yO:=aa (oo.out.ag qH);clear qH;go_wp2_with fail;go_ret;exact⟨rfl,db.out.ag yO.out⟩
             |false=>
              have kE:r=0:=by rw[HI.out];simp
              subst kE;go_wp2_with fail;refine KB8.out.mono ?_;rintro e w9 ⟨rfl,qH⟩;have yO:=aa (oo.out.ag qH);clear qH;go_wp2_with fail;go_ret;exact⟨rfl,db.out.ag yO.out⟩
 ·have CO:r=9:=by rw[<-HR.out];unfold sX;rw[aae hv]
  subst CO;clear hv HVD;go_wp2_with fail;go_ret;exact⟨rfl,db.out⟩
theorem C5 {C:Pc}(h:Valid C){v:Int}(hk:rg C v=true):v<=C.mx:=by
 simp only[rg,jt,aal,cq,hit,ax]at hk;have h0:=h.m0;rcases hk with((rfl |⟨x,hx,_,rfl⟩) |⟨x,hx,_,rfl⟩) |⟨x,hx,_,rfl⟩
 ·exact h0
 ·have :=dT h x (by simp[cK,hx]);omega
 ·have :=dT h x.a (by simp only[cK,ah,aG];exact .inl (.inr ⟨x,hx,rfl⟩));omega
 ·have :=dT h x.a (by simp only[cK,ah,aG];exact .inr ⟨x,hx,rfl⟩);omega
theorem gO {C:Pc}(h:Valid C){l:Int}(hk:io C l=true):0<=l/\l<=2*C.mx+1:=by simp only[io,ax,aal]at hk;have :=C5 h hk.2;omega
theorem qT {C:Pc}(h:Valid C)(j:Nat)(hj:j<C.aM.length):0<=(C.aM[j]!).b/\(C.aM[j]!).b<=2*C.mx+1:=by have h2:=h.aM j hj;simp only[Mf,ax]at h2;exact gO h h2.2
theorem pj {b l:Int}(hb:0<=b/\b<=262144)(hl:0<=l/\l<=4097): -1000000<=dE b l/\dE b l<=1000000:=by unfold dE;split<;>omega
theorem vx {C:Pc}(hv:Valid C){f n:Int}(hf:0<=f/\f<=81)(hn:n≠0/\ -(C.aM.length:Int)<=n/\n<=C.aM.length): -1000000<=jp C f n/\jp C f n<=1000000:=by
 have hb:=p9 hv.m0 hv.m1 hf;have hm:=hv.m1;have key:∀j:Nat,j<C.aM.length-> -1000000<=dE (fF C f) (C.aM[j]!).a/\dE (fF C f) (C.aM[j]!).a<=1000000:=fun j hj=>pj (by omega) (by have :=eX hv j hj;omega);unfold jp;split
 ·have :=key (-n-1).toNat (by omega);omega
 ·have :=key (n-1).toNat (by omega);omega
def Ma (C:Pc)(f:Int)(i:Nat):List (List Int):=[[jp C (f+1) ((i:Int)+1),-(dE (fF C f) (C.aM[i]!).b)],[-(jp C (f+1) ((i:Int)+1)),dE (fF C f) (C.aM[i]!).b]]
def rf (C:Pc)(f:Int)(k:Nat):List (List Int):=(List.range k).flatMap (Ma C f)
theorem Ah (C:Pc)(f:Int)(k:Nat):rf C f (k+1)=rf C f k++Ma C f k:=by unfold rf;rw[List.range_succ,List.flatMap_append];simp
theorem DQ (C:Pc)(f:Int)(k:Nat):(rf C f k).length=2*k:=by
 induction k with
 |zero=>simp[rf]
 |succ k ih=>
  rw[Ah,aj,ih];simp[Ma];omega
theorem TV {x y:Int}(h:eh x)(h2:eh y):Ra [x,y]:=fun j hj=>by
 have :j=0\/j=1:=by simp at hj;omega
 rcases this with rfl |rfl
 ·exact h
 ·exact h2
theorem Da (w:World)(H:Hd)(C:Pc)(h:fH w H C)(hv:Valid C)(f:Int)(hf:0<=f/\f<=79):
  Calls Tryz.prog 35 #[dj H C, .int .i64 f] w fun e w'=>∃A c hs,e= .returned (.slice A hs.length c)/\NwLs w' w.heap.size A c hs/\hs.map (·.l)=rf C f C.aM.length/\Fr [] w w':=by
 have HX:=aa (Cx.start w H C);have KR:=aa (i8 _ H C (h.keep HX.out.fr) hv f (by omega));have KL:=aa (fun W (hW:Fr [] w W) n hn=>ng W H C (h.keep hW) hv (f+1) (by omega) n hn);have KB:=aa (fun W=>lN W H C hv.m0 hv.m1 f (by omega));have hb:=p9 hv.m0 hv.m1 (f:=f) (by omega);have KT:=aa (fun W x (hx:0<=x/\x<=4097)=>tE W (fF C f) x (by omega) hx);have Ll:=aa (fun x (hx:0<=x/\x<=4097)=>pj (b:=fF C f) (l:=x) (by omega) hx);have zI:=aa (fun n hn=>vx hv (f:=f+1) (n:=n) (by omega) hn);have mW:=aa (fun j hj=>qT hv j hj);have rF:=hv.m1;have xo:=hv.l;have HH:=aa h;have sV:=aa h.lr;have hwf:IntKind.i64.wrap (f+1)=f+1:=IntWalk.i64_in _ (by omega);clear h hb hv;obtain⟨mx,ins,aM,outs,aT,aU,az,bY⟩:=C;obtain⟨iA,iC,lA,lC,oA,oC,bA,bC,vA,vC,gA,gC,nA,nC⟩:=H;simp only[dj,iz]at *;obtain⟨c0,c1,c2,c3,c4,c5,c6,c7⟩:=HX.out.cells;simp only at c0 c1 c2 c3 c4 c5 c6 c7;go_enter Tryz.func35,Tryz.ntmps35;go_wp2_with fail;refine KR.out.mono ?_;rintro e w1 ⟨rfl,cX⟩;have jH:=aa (HX.out.keep cX);obtain⟨e0,e1,e2,e3,e4,e5,e6,e7⟩:=jH.out.cells;simp only at e0 e1 e2 e3 e4 e5 e6 e7;clear cX c0 c1 c2 c3 c4 c5 c6 c7 KR;go_wp2_with fail;go_loopg [5,17] aM.length (fun g x5 Yp wr=>∃(k:Nat) (A':Option Addr) (c':Nat) (hs:List Ls),k+g=aM.length/\x5= .slice A' hs.length c'/\Yp= .int .i64 k/\Hid (NwLs wr (w.heap.size+1) A' c' hs)/\Hid (hs.map (·.l)=rf ⟨mx,ins,aM,outs,aT,aU,az,bY⟩ f k)/\Hid (Cx w wr ⟨iA,iC,lA,lC,oA,oC,bA,bC,vA,vC,gA,gC,nA,nC⟩ ⟨mx,ins,aM,outs,aT,aU,az,bY⟩));case atStart=>exact⟨0,none,0,[],by omega,rfl,rfl,NwLs.nil _ _,rfl,jH.out⟩
 case round=>
  obtain⟨k,A',c',hs,hk,rfl,rfl,HN,HE,eQ⟩:=hrel;have HK:=aa hk;have jg:k<=aM.length:=by omega
  have rl:hs.length=2*k:=by have :=DQ ⟨mx,ins,aM,outs,aT,aU,az,bY⟩ f k;rw[<-HE.out,aq]at this;exact this
  obtain⟨d0,d1,d2,d3,d4,d5,d6,d7⟩:=eQ.out.cells;simp only at d0 d1 d2 d3 d4 d5 d6 d7;clear hk jH e0 e1 e2 e3 e4 e5 e6 e7;by_cases bw:k<aM.length
  ·obtain⟨b,o,x,y,z,hA,he,cx,cy,cz,hx,hy,hz⟩:=(HH.out.keep eQ.out.fr).l.one sV.out bw;simp only at hA he;subst hA;have D7:=mW.out k bw;try simp only at D7
   rw[he.out]at D7;try simp only at D7
   have CZ:=aa (Ah ⟨mx,ins,aM,outs,aT,aU,az,bY⟩ f k);obtain⟨u,hu⟩:∃u,dE (fF ⟨mx,ins,aM,outs,aT,aU,az,bY⟩ f) y=u:=⟨_,rfl⟩
   obtain⟨v,Oi⟩:∃v,jp ⟨mx,ins,aM,outs,aT,aU,az,bY⟩ (f+1) ((k:Int)+1)=v:=⟨_,rfl⟩
   have cX:Ma ⟨mx,ins,aM,outs,aT,aU,az,bY⟩ f k=[[v,-u],[-v,u]]:=by unfold Ma;rw[Oi];simp only[he.out];rw[hu]
   have dI:=aa cX;have hur:=Ll.out y (by omega);have xg:=zI.out ((k:Int)+1) (by show _/\ -(aM.length:Int)<=_/\_<=(aM.length:Int);omega);rw[hu]at hur;rw[Oi]at xg;have KTY:=fun W=>KT.out W y (by omega);simp only[hu]at KTY;have KTY:=aa KTY;clear cX;go_upto_region 7 with fail;obtain⟨wx,jY⟩:∃W,wr.alloc (.cells #[.int .i64 x, .int .i64 y, .int .i64 z] 63)=W:=⟨_,rfl⟩
   have yA:At wx wr.heap.size 63 #[.int .i64 x, .int .i64 y, .int .i64 z]:=jY▸At.new _ _ _;have oz:Hid (Fr [] wr wx):=jY▸aH _ _;have f1:=yA.cell 1;simp at f1;have ym:=aa (eQ.out.keep oz.out);obtain⟨e0,e1,e2,e3,e4,e5,e6,e7⟩:=ym.out.ext;simp only at e0 e1 e2 e3 e4 e5 e6 e7;have g1:=Ext.cell f1;have Fm:=fun u:Ext wx=>KL.out u.v (ym.out.fr.ag u.fr) ((k:Int)+1) (by show _/\ -(aM.length:Int)<=_/\_<=(aM.length:Int);omega);simp only[Oi]at Fm;have Fm:=aa Fm;have dP:IntKind.i64.wrap ((k:Int)+1)=(k:Int)+1:=IntWalk.i64_in _ (by omega);have oG:IntKind.i64.wrap (-u)= -u:=IntWalk.i64_in _ (by omega);have vz:IntKind.i64.wrap (-v)= -v:=IntWalk.i64_in _ (by omega);rw[jY];clear jY yA d0 d1 d2 d3 d4 d5 d6 d7 cx cy cz hu Oi f1;refine au (by kernel_rfl) (by kernel_rfl) ?_;repeat (go_big_quiet_step (first |exact bX (Fm.out _) |exact bX (KB.out _) |exact bh (KTY.out _)))
   refine aak ?_;rintro w3 ⟨u2,b8⟩;have uI:Hid (Fr [] wx w3):=b8▸u2.fr;clear b8 u2;have db:=aa (oz.out.ag uI.out);clear e0 e1 e2 e3 e4 e5 e6 e7 g1 Fm KTY uI;obtain⟨wb,fh⟩:∃W,((w3.alloc (.cells #[.int .i64 v, .int .i64 (-u)] 3)).alloc (.cells #[.int .i64 (-v), .int .i64 u] 3)).alloc (.cells #[.slice (some ⟨w3.heap.size,0,none⟩) 2 2, .slice (some ⟨w3.heap.size+1,0,none⟩) 2 2] 22)=W:=⟨_,rfl⟩
   have qq:Hid (Ints wb (some ⟨w3.heap.size,0,none⟩) 2 [v,-u]):=fh▸((kD w3 [v,-u] (by simp[maxLen])).alloc _).alloc _;have mw:Hid (Ints wb (some ⟨w3.heap.size+1,0,none⟩) 2 [-v,u]):=by have :=kD (w3.alloc (.cells #[.int .i64 v, .int .i64 (-u)] 3)) [-v,u] (by simp[maxLen]);rw[show(w3.alloc (.cells #[.int .i64 v, .int .i64 (-u)] 3)).heap.size=w3.heap.size+1 by simp]at this;exact fh▸this.alloc _
   have gm:Hid (Fr [] w3 wb):=fh▸(((aH _ _).ag (aH _ _)).ag (aH _ _));have tT:At wb (w3.heap.size+2) 22 #[.slice (some ⟨w3.heap.size,0,none⟩) 2 2, .slice (some ⟨w3.heap.size+1,0,none⟩) 2 2]:=by have :=At.new ((w3.alloc (.cells #[.int .i64 v, .int .i64 (-u)] 3)).alloc (.cells #[.int .i64 (-v), .int .i64 u] 3)) 22 #[.slice (some ⟨w3.heap.size,0,none⟩) 2 2, .slice (some ⟨w3.heap.size+1,0,none⟩) 2 2];rw[show((w3.alloc (.cells #[.int .i64 v, .int .i64 (-u)] 3)).alloc (.cells #[.int .i64 (-v), .int .i64 u] 3)).heap.size=w3.heap.size+2 by simp]at this;exact fh▸this
   have SV:=aa tT;clear tT;have HUR:=aa hur;have vO:=aa xg;have sU:Hid (w.heap.size+1<=w3.heap.size):=(aE eQ.out.bx.lt db.out.size:w.heap.size+1<=w3.heap.size)
   go_wp2_with (at_builtin;(refine ed _ rfl _ _ rfl A' c' hs hs.length rfl rfl (HN.out.keep (db.out.ag gm.out)).row ⟨w3.heap.size+2,0,none⟩ 2 2 [⟨some ⟨w3.heap.size,0,none⟩,2,[v,-u]⟩,⟨some ⟨w3.heap.size+1,0,none⟩,2,[-v,u]⟩] rfl rfl (fun j hj=>by(have :j=0\/j=1:=by simp at hj;omega);rcases this with rfl |rfl;(rw[dH,SV.out.cell];rfl);(rw[dH,SV.out.cell];rfl)) (by simp;omega) ?_;intro A4 c4 w4 BU eS BV Hq;have yq:=aa ((HN.out.keep db.out).more gm.out (fun h hh=>by(have hh2:=hh;simp only[av,cd,or_false]at hh2);rcases hh2 with rfl |rfl;(exact⟨qq.out,TV ⟨by have :=vO.out;omega,by have :=vO.out;omega⟩ ⟨by have :=HUR.out;omega,by have :=HUR.out;omega⟩,by simp,fun k hk=>by simp[ak]at hk;subst hk;exact sU.out⟩);(exact⟨mw.out,TV ⟨by have :=vO.out;omega,by have :=vO.out;omega⟩ ⟨by have :=HUR.out;omega,by have :=HUR.out;omega⟩,by simp,fun k hk=>by simp[ak]at hk;subst hk;have :=sU.out;omega⟩)) eS BU BV (aE sU.out gm.out.size));have jV:Hid (Cx w w4 ⟨iA,iC,some ⟨b,o,none⟩,lC,oA,oC,bA,bC,vA,vC,gA,gC,nA,nC⟩ ⟨mx,ins,aM,outs,aT,aU,az,bY⟩):=⟨((eQ.out.fr.ag db.out).ag gm.out).trans eS (fun k hk=> .inr (by have :=HN.out.new k hk;omega)),eS.at_ ((eQ.out.bx.keep db.out).keep gm.out) (fun hm=>by have :=HN.out.new _ hm;omega)⟩;clear BU eS BV Hq))
   clear fh;go_roundg (gk-1);case measure=>have :=HK.out;omega
   case rel=>exact⟨k+1,A4,c4,hs++[(⟨some ⟨w3.heap.size,0,none⟩,2,[v,-u]⟩:Ls),(⟨some ⟨w3.heap.size+1,0,none⟩,2,[-v,u]⟩:Ls)],by have :=HK.out;omega,by rw[aj,rl];rfl,by go_num,yq.out,(by rw[bH,HE.out,CZ.out,dI.out];rfl :_=_),jV.out⟩
  ·obtain rfl :k=aM.length:=by omega
   clear HK;go_wp2_with fail;go_ret;exact⟨A',c',hs,rfl,HN.out.low (by omega),HE.out,eQ.out.fr⟩
theorem rU (W:World)(n:Nat)(h1:n<=1099511627776):
  (Instr.makeSlice 22 (.int .i64 0) (.int .i64 (n:Int))).run Tryz.prog W= .ok (.slice (some ⟨W.heap.size,0,none⟩) 0 n) (W.alloc (.cells (madeCells #[.int .i64 0] n) 3)):=by
 obtain⟨i0,hi,vy,nN,za⟩:=info_parts pT;have hr:=run_make (P:=Tryz.prog) W 22 3 i0 (.int .i64 0) Tryz.underlying22 hi vy .i64 .i64 0 n (by omega) (by omega) (by rw[za];omega) (by omega);simp only[Int.toNat_natCast]at hr⊢;rw[nN,ku]at hr;exact hr
theorem DO (W:World)(n:Nat)(h:n<=maxLen):Ints (W.alloc (.cells (madeCells #[.int .i64 0] n) 3)) (some ⟨W.heap.size,0,none⟩) n []:=by have :=(LY W n h).qw 0;simpa using this
theorem rO (w:World)(H:Hd)(C:Pc)(h:fH w H C)(hv:Valid C)(b:Int)(hb:0<=b/\b<=262144):
  Calls Tryz.prog 109 #[dj H C, .int .i64 b] w fun e w'=>e= .returned (.int .i64 0)/\Fr [] w w':=by
 have HX:=aa (Cx.start w H C);have KC:Hid (Calls Tryz.prog 23 #[dj H C] (w.alloc (.cells (iz H C) 27)) fun e w'=>e= .returned (.int .i64 0)/\Fr [] (w.alloc (.cells (iz H C) 27)) w'):=(l8 _ H C (h.keep HX.out.fr)).mono fun e w' ⟨h1,h2⟩=>by
  rcases h1 with⟨h3,_⟩ |⟨_,h3⟩
  ·exact⟨h3,h2⟩
  ·exact absurd hv h3
 have d0:decide (b<0)=false:=aah (by omega);have d1:decide (262144<b)=false:=aah (by omega);clear h hv;obtain⟨mx,ins,aM,outs,aT,aU,az,bY⟩:=C;obtain⟨iA,iC,lA,lC,oA,oC,bA,bC,vA,vC,gA,gC,nA,nC⟩:=H;simp only[dj,iz]at *;obtain⟨c0,c1,c2,c3,c4,c5,c6,c7⟩:=HX.out.cells;simp only at c0 c1 c2 c3 c4 c5 c6 c7;go_enter Tryz.func109,Tryz.ntmps109;go_wp2_with fail;refine KC.out.mono ?_;rintro e w1 ⟨rfl,cX⟩;have HF:=aa (HX.out.fr.ag cX);clear cX;go_wp2_with fail;go_ret;exact⟨rfl,HF.out⟩
theorem pg {α β:Type}[Inhabited α](f:α->β){l:List α}{k:Nat}(h:k<l.length):(l.take (k+1)).map f=(l.take k).map f++[f l[k]!]:=by rw[List.take_add_one,af h,fI,bH];simp only[ae,af h,ay,cj,dv]
theorem yQ (w:World)(b:Int)(hb:0<=b/\b<=262144)(A:Option Addr)(c:Nat)(l:List Int)(h:Rd w A l)(hr:∀x∈l,0<=x/\x<=4097)(hl:l.length<=1048576):
  Calls Tryz.prog 72 #[.int .i64 b, .slice A l.length c] w fun e w'=>∃A' c',e= .returned (.slice A' l.length c')/\Ints w' A' c' (l.map (dE b))/\(∀k,k∈ak A'->w.heap.size<=k)/\Fr [] w w':=by
 have KA:=aa (AD w b hb);have KL:=aa (fun W x (hx:0<=x/\x<=4097)=>nK W b x (by omega) (by omega));have HH:=aa h;have HR:=aa hr;have rD:Hid (Ra l):=(eD (p:=eh)).2 fun x hx=>by have :=hr x hx;exact⟨by omega,by omega⟩
 have HM:=aa (DO w l.length (by unfold maxLen;omega));have FI:=rU w l.length (by omega);have yN:Hid (Fr [] w (w.alloc (.cells (madeCells #[.int .i64 0] l.length) 3))):=aH _ _;obtain⟨w1,dP⟩:∃W,w.alloc (.cells (madeCells #[.int .i64 0] l.length) 3)=W:=⟨_,rfl⟩
 rw[dP]at HM yN FI;clear h hr;go_enter Tryz.func72,Tryz.ntmps72;go_wp2_with fail;refine KA.out.mono ?_;rintro e w0 ⟨rfl,rfl⟩;go_wp2_with fail;clear KA FI dP;go_loopg [6,16] l.length (fun g x6 x16 wr=>∃(k:Nat) (A':Option Addr) (c':Nat) (ys:List Int),k+g=l.length/\x6= .slice A' ys.length c'/\x16= .int .i64 k/\Hid (Ints wr A' c' ys)/\Hid (ys=(l.take k).map (dE b))/\Hid (∀j,j∈ak A'->w.heap.size<=j)/\Hid (Fr [] w wr));case atStart=>exact⟨0,_,_,[],by omega,rfl,rfl,HM.out,by show _=_;simp,fun j hj=>by simp[ak]at hj;omega,yN.out⟩
 case round=>
  obtain⟨k,A',c',ys,hk,rfl,rfl,HI,HY,HN,HF⟩:=hrel;have HK:=aa hk;have jg:k<=l.length:=by omega
  have hyl:ys.length<=k:=by rw[HY.out,aq,bp];omega
  clear hk;by_cases bw:k<l.length
  ·obtain⟨ab,o,x,hA,he,cx,fN,gd⟩:=(HH.out.keep HF.out).one rD.out bw;subst hA;have mW:=aa (pg (dE b) bw);rw[he.out]at mW;have kR:=HR.out x (by rw[<-he.out];exact a8 bw);have Wi:=aa (KL.out wr x kR);have Xz:min x 4097=x:=by omega
   obtain⟨t,ht⟩:∃t,dE b x=t:=⟨_,rfl⟩
   rw[ht]at Wi mW;clear ht;go_wp2_with fail;refine Wi.out.mono ?_;rintro e w3 ⟨rfl,rfl⟩;obtain⟨wb,fh⟩:∃W,wr.alloc (.cells #[.int .i64 t] 3)=W:=⟨_,rfl⟩
   have gm:Hid (Fr [] wr wb):=fh▸aH _ _;have kq:wb.cell? ⟨wr.heap.size,0,none⟩=some (.int .i64 t):=by rw[<-fh];exact(At.new wr 3 #[.int .i64 t]).cell 0
   go_wp2_with (at_builtin;(refine dd _ rfl _ _ rfl A' c' ys ys.length rfl rfl (HI.out.fr gm.out (fun _ _ hm=>by cases hm)) ⟨wr.heap.size,0,none⟩ 1 t rfl kq (by omega) ?_;intro g cap w4 gV ro hg Tj;have CY:=aa gV;have gY:Hid (Fr [] w w4):=(HF.out.ag gm.out).trans ro (fun x hx=> .inr (HN.out x hx));have Jo:Hid (w.heap.size<=g):=(by rcases hg with h1 |h1;(exact HN.out g h1);(have :=HF.out.size;have :=gm.out.size;omega):w.heap.size<=g);clear kq gV ro hg Tj))
   clear fh;go_roundg (gk-1);case measure=>have :=HK.out;omega
   case rel=>exact⟨k+1,some ⟨g,0,none⟩,cap,ys++[t],by have :=HK.out;omega,by simp,by go_num,CY.out,(by rw[mW.out,HY.out]:ys++[t]=(l.take (k+1)).map (dE b)),fun j hj=>by simp[ak]at hj;subst hj;exact Jo.out,gY.out⟩
  ·obtain rfl :k=l.length:=by omega
   have hy:ys=l.map (dE b):=by rw[HY.out,cN]
   have P8:ys.length=l.length:=by rw[hy,aq]
   have X0:=aa hy;rw[P8];clear HK hy HY;go_wp2_with fail;go_ret;exact⟨A',c',rfl,by rw[<-X0.out];exact HI.out,HN.out,HF.out⟩
namespace Bools
variable {w w':World} {A:Option Addr} {c:Nat} {bs:List Bool}
theorem K0 {g:Nat}(h:Bools w (some ⟨g,0,none⟩) c bs){i:Nat}(hi:i<bs.length):w.cell? ⟨g,i,none⟩=some (.bool (bs[i]!)):=by rw[World.ownsRow.cellAt h i (by omega)];simp only[aJ,af hi,cD,ae,ay]
theorem vI {g:Nat}(h:Bools w (some ⟨g,0,none⟩) c bs)(i:Nat):w.frozen? ⟨g,i,none⟩=false:=World.ownsRow.frozenAt h i
theorem aiO {g:Nat}(h:Bools w (some ⟨g,0,none⟩) c bs)(i:Nat)(x:Bool):Bools (w.setCell ⟨g,i,none⟩ (.bool x)) (some ⟨g,0,none⟩) c (bs.set i x):=by have :=(World.ownsRow.stored h i (.bool x)).1;unfold Bools;rw[ao,List.map_set];exact this
theorem frB {S:List Nat}(h:Bools w A c bs)(hf:Fr S w w')(hd:∀k,k∈ak A->k∉S):Bools w' A c bs:=hf.own h (fun k hk=>hd k ((jl k).1 hk))
end Bools
def Ce (xs:List Int)(bs:List Bool):List Bool:=xs.foldl (fun b x=>b.set (x/2).toNat true) bs
theorem V1 (xs:List Int):∀bs,(Ce xs bs).length=bs.length:=by
 induction xs with
 |nil=>intro bs;rfl
 |cons x r ih=>intro bs;show(Ce r _).length=_;rw[ih,ao]
theorem Cd (xs ys:List Int)(bs:List Bool):Ce (xs++ys) bs=Ce ys (Ce xs bs):=by unfold Ce;rw[List.foldl_append]
theorem xN {xs:List Int}{k:Nat}(h:k<xs.length)(bs:List Bool):Ce (xs.take (k+1)) bs=(Ce (xs.take k) bs).set (xs[k]! /2).toNat true:=by rw[List.take_add_one,af h,fI,Cd];simp only[ae,af h,ay];rfl
def Nt (C:Pc):List Bool:=Ce (cK C) (List.replicate (C.mx+1).toNat false)
theorem sF (C:Pc):(Nt C).length=(C.mx+1).toNat:=by unfold Nt;rw[V1,aW]
structure Dg (w wr:World)(g n:Nat)(bs:List Bool):Prop where
 row:Bools wr (some ⟨g,0,none⟩) n bs
 len:bs.length=n
 new:w.heap.size<g
namespace Dg
variable {w wr wx:World} {g n:Nat} {bs:List Bool}
theorem keep (h:Dg w wr g n bs)(hf:Fr [] wr wx):Dg w wx g n bs:=⟨h.row.frB hf (fun _ _ hm=>by cases hm),h.len,h.new⟩
theorem eu (h:Dg w wr g n bs)(i:Nat):Dg w (wr.setCell ⟨g,i,none⟩ (.bool true)) g n (bs.set i true):=⟨h.row.aiO i true,by rw[ao];exact h.len,h.new⟩
end Dg
theorem Cx.put {w wr:World}{H:Hd}{C:Pc}(h:Cx w wr H C){g:Nat}(hg:w.heap.size<g)(i:Nat)(v:Value):Cx w (wr.setCell ⟨g,i,none⟩ v) H C:=
 ⟨h.fr.setCell (.inr (by show w.heap.size<=g;omega)) v,h.bx.gN (by show w.heap.size≠g;omega) v⟩
theorem we (w:World)(H:Hd)(C:Pc)(h:fH w H C)(hv:Valid C):
  Calls Tryz.prog 110 #[dj H C] w fun e w'=>∃g,e= .returned (.slice (some ⟨g,0,none⟩) (Nt C).length (Nt C).length)/\Bools w' (some ⟨g,0,none⟩) (Nt C).length (Nt C)/\w.heap.size<=g/\Fr [] w w':=by
 have HX:=aa (Cx.start w H C);have uY:=hv.m0;have mz:=hv.m1;obtain⟨n,hn⟩:∃n:Nat,C.mx+1=n:=⟨(C.mx+1).toNat,by omega⟩
 have HVO:=aa (dT hv);have FJ:=sF C;rw[hn,Int.toNat_natCast]at FJ;rw[FJ];have HDU:Hid (Nt C=Ce (C.az.map (fun x=>x.a)) (Ce (C.aM.map (fun x=>x.a)) (Ce C.ins (List.replicate n false)))):=by show _=_;unfold Nt cK;rw[hn,Int.toNat_natCast,Cd,Cd]
 have HII:=aa (fun x (hx:x∈C.ins)=>dT hv x (by simp[cK,hx]));have HIL:=aa (fun x (hx:x∈C.aM.map (fun x=>x.a))=>dT hv x (by unfold cK;simp only[ah];exact .inl (.inr hx)));have HIA:=aa (fun x (hx:x∈C.az.map (fun x=>x.a))=>dT hv x (by unfold cK;simp only[ah];exact .inr hx));have dP:IntKind.i64.wrap (C.mx+1)=(n:Int):=by rw[hn];exact IntWalk.i64_in _ (by omega)
 have KV:=aa (fun W l (h0:0<=l) (h1:l<=9223372036854775807)=>jc W l h0 h1);have HH:=aa h;have HIR:=aa h.ir;have sV:=aa h.lr;have HGR:=aa h.gr;have pB:=aa h.gL;have m7:=h.iL;have qh:=h.lL;have uy:=h.gL;clear h hv FJ;obtain⟨mx,ins,aM,outs,aT,aU,az,bY⟩:=C;obtain⟨iA,iC,lA,lC,oA,oC,bA,bC,vA,vC,gA,gC,nA,nC⟩:=H;simp only[dj,iz]at *;have On:mx+1=(n:Int):=hn;have FI:=fun W=>mf W (n:Int) (by omega) (by omega);simp only[Int.toNat_natCast]at FI;obtain⟨wq,J8⟩:∃W,w.alloc (.cells #[.int .i64 mx, .slice iA ins.length iC, .slice lA aM.length lC, .slice oA outs.length oC, .slice bA aT.length bC, .slice vA aU.length vC, .slice gA az.length gC, .slice nA bY.length nC] 27)=W:=⟨_,rfl⟩
 have HXQ:Hid (Cx w wq ⟨iA,iC,lA,lC,oA,oC,bA,bC,vA,vC,gA,gC,nA,nC⟩ ⟨mx,ins,aM,outs,aT,aU,az,bY⟩):=J8▸HX.out;obtain⟨c0,c1,c2,c3,c4,c5,c6,c7⟩:=HXQ.out.cells;try simp only at c0 c1 c2 c3 c4 c5 c6 c7
 obtain⟨w1,hw⟩:∃W,wq.alloc (.cells (madeCells #[.bool false] n) 4)=W:=⟨_,rfl⟩
 have dI:Hid (Fr [] wq w1):=hw▸aH _ _;have jH:=aa (HXQ.out.keep dI.out);have zJ:Hid (Dg w w1 wq.heap.size n (List.replicate n false)):=⟨hw▸qZ wq n (by unfold maxLen;omega),by simp,HXQ.out.bx.lt⟩
 obtain⟨g,hg⟩:∃g,wq.heap.size=g:=⟨_,rfl⟩
 rw[hg]at zJ;obtain⟨d0,d1,d2,d3,d4,d5,d6,d7⟩:=jH.out.cells;try simp only at d0 d1 d2 d3 d4 d5 d6 d7
 have ad4:=FI wq;rw[hg,hw]at ad4;clear HX FI hn;go_enter Tryz.func110,Tryz.ntmps110;go_wp2_with fail;clear ad4 hw J8 hg dP c0 c1 c2 c3 c4 c5 c6 c7 d0 d1 d2 d3 d4 d5 d6 d7;go_loopg [17] ins.length (fun gk Yp wr=>∃k:Nat,k+gk=ins.length/\Yp= .int .i64 k/\Hid (Cx w wr ⟨iA,iC,lA,lC,oA,oC,bA,bC,vA,vC,gA,gC,nA,nC⟩ ⟨mx,ins,aM,outs,aT,aU,az,bY⟩)/\Hid (Dg w wr g n (Ce (ins.take k) (List.replicate n false))));case atStart=>exact⟨0,by omega,rfl,jH.out,zJ.out⟩
 case round=>
  obtain⟨k,hk,rfl,eQ,HD⟩:=hrel;have HK:=aa hk;have jg:k<=ins.length:=by omega
  clear hk jH zJ;by_cases bw:k<ins.length
  ·obtain⟨b,o,x,hA,he,cx,fN,gd⟩:=(HH.out.keep eQ.out.fr).i.one HIR.out bw;try simp only at hA he
   subst hA;have mW:=aa (xN bw (List.replicate n false));rw[he.out]at mW;have kR:=HII.out x (by rw[<-he.out];exact a8 bw);try simp only at kR
   have ym:=eQ;have AI:=HD;obtain⟨v,oH⟩:∃v:Nat,x/2=(v:Int):=⟨(x/2).toNat,by omega⟩
   have UA:v<n:=by omega
   have adB:(v:Int)<(n:Int):=by omega
   rw[oH,Int.toNat_natCast]at mW;have Lh:=KV.out wr x (by omega) (by omega);rw[oH]at Lh;have Lh:=aa Lh;have cb:=AI.out.row.K0 (i:=v) (by rw[AI.out.len];exact UA);have cf:=AI.out.row.vI v;have jV:=aa (ym.out.put AI.out.new v (.bool true));have WO:=aa (AI.out.eu v);have CI:=aa AI.out.len;clear oH;go_wp2_with fail;refine Lh.out.mono ?_;rintro e w3 ⟨rfl,rfl⟩;go_wp2_with fail;go_roundg (gk-1);case measure=>have :=HK.out;omega
   case rel=>exact⟨k+1,by have :=HK.out;omega,by go_num,jV.out,by rw[mW.out];exact WO.out⟩
  ·obtain rfl :k=ins.length:=by omega
   obtain⟨w2,oG⟩:∃x,x=wr:=⟨_,rfl⟩
   rw[cN]at HD;obtain⟨B1,hB1⟩:∃B,Ce ins (List.replicate n false)=B:=⟨_,rfl⟩
   rw[hB1]at HD HDU;obtain⟨d0,d1,d2,d3,d4,d5,d6,d7⟩:=eQ.out.cells;try simp only at d0 d1 d2 d3 d4 d5 d6 d7
   clear HK hB1 oG;go_wp2_with fail;clear d0 d1 d2 d3 d4 d5 d6 d7;go_loopg [29] aM.length (fun gk xi wr=>∃k:Nat,k+gk=aM.length/\xi= .int .i64 k/\Hid (Cx w wr ⟨iA,iC,lA,lC,oA,oC,bA,bC,vA,vC,gA,gC,nA,nC⟩ ⟨mx,ins,aM,outs,aT,aU,az,bY⟩)/\Hid (Dg w wr g n (Ce ((aM.map (fun x=>x.a)).take k) B1)));case atStart=>exact⟨0,by omega,rfl,eQ.out,HD.out⟩
   case round=>
    obtain⟨k,hk,rfl,eQ,HD⟩:=hrel;have HK:=aa hk;have jg:k<=aM.length:=(by omega)
    clear hk;by_cases bw:k<aM.length
    ·obtain⟨b,o,x,y,z,hA,he,cx,cy,cz,hx,hy,hz⟩:=(HH.out.keep eQ.out.fr).l.one sV.out bw;try simp only at hA he
     subst hA;have CP:k<(aM.map (fun x:T3=>x.a)).length:=by rw[aq];exact bw
     have If:(aM.map (fun x:T3=>x.a))[k]! =x:=by rw[ae,aJ,af bw];have :=he.out;rw[ae,af bw]at this;simp only[ay]at this;simp[this]
     have mW:=aa (xN CP B1);rw[If]at mW;have kR:=HIL.out x (by rw[<-If];exact a8 CP);try simp only at kR
     obtain⟨wx,jY⟩:∃W,wr.alloc (.cells #[.int .i64 x, .int .i64 y, .int .i64 z] 63)=W:=⟨_,rfl⟩
     have yA:At wx wr.heap.size 63 #[.int .i64 x, .int .i64 y, .int .i64 z]:=jY▸At.new _ _ _;have oz:Hid (Fr [] wr wx):=jY▸aH _ _;have f0:=yA.cell 0;simp at f0;have ym:=aa (eQ.out.keep oz.out);have AI:=aa (HD.out.keep oz.out);clear If CP yA;obtain⟨v,oH⟩:∃v:Nat,x/2=(v:Int):=⟨(x/2).toNat,by omega⟩
     have UA:v<n:=(by omega)
     have adB:(v:Int)<(n:Int):=(by omega)
     rw[oH,Int.toNat_natCast]at mW;have Lh:=KV.out wx x (by omega) (by omega);rw[oH]at Lh;have Lh:=aa Lh;have cb:=AI.out.row.K0 (i:=v) (by rw[AI.out.len];exact UA);have cf:=AI.out.row.vI v;have jV:=aa (ym.out.put AI.out.new v (.bool true));have WO:=aa (AI.out.eu v);have CI:=aa AI.out.len;clear oH;go_wp2_with fail;refine Lh.out.mono ?_;rintro e w3 ⟨rfl,rfl⟩;go_wp2_with fail;go_roundg (gk-1);case measure=>have :=HK.out;omega
     case rel=>exact⟨k+1,by have :=HK.out;omega,by go_num,jV.out,by rw[mW.out];exact WO.out⟩
    ·obtain rfl :k=aM.length:=by omega
     have HD:Hid (Dg w wr g n (Ce (aM.map (fun x=>x.a)) B1)):=by have :=HD.out;rw[dC (by rw[aq];exact ap _)]at this;exact this
     clear HK;obtain⟨B2,hB2⟩:∃B,Ce (aM.map (fun x=>x.a)) B1=B:=⟨_,rfl⟩
     try simp only at HDU
     rw[hB2]at HD HDU;obtain⟨d0,d1,d2,d3,d4,d5,d6,d7⟩:=eQ.out.cells;try simp only at d0 d1 d2 d3 d4 d5 d6 d7
     clear hB2;go_wp2_with fail;clear d0 d1 d2 d3 d4 d5 d6 d7;go_loopg [42] az.length (fun gk xi wr=>∃k:Nat,k+gk=az.length/\xi= .int .i64 k/\Hid (Cx w wr ⟨iA,iC,lA,lC,oA,oC,bA,bC,vA,vC,gA,gC,nA,nC⟩ ⟨mx,ins,aM,outs,aT,aU,az,bY⟩)/\Hid (Dg w wr g n (Ce ((az.map (fun x=>x.a)).take k) B2)));case atStart=>exact⟨0,by omega,rfl,eQ.out,HD.out⟩
     case round=>
      obtain⟨k,hk,rfl,eQ,HD⟩:=hrel;have HK:=aa hk;have jg:k<=az.length:=(by omega)
      clear hk;by_cases bw:k<az.length
      ·obtain⟨b,o,x,y,z,hA,he,cx,cy,cz,hx,hy,hz⟩:=(HH.out.keep eQ.out.fr).g.one HGR.out bw;try simp only at hA he
       subst hA;have CP:k<(az.map (fun x:T3=>x.a)).length:=by rw[aq];exact bw
       have If:(az.map (fun x:T3=>x.a))[k]! =x:=by rw[ae,aJ,af bw];have :=he.out;rw[ae,af bw]at this;simp only[ay]at this;simp[this]
       have mW:=aa (xN CP B2);rw[If]at mW;have kR:=HIA.out x (by rw[<-If];exact a8 CP);try simp only at kR
       obtain⟨wx,jY⟩:∃W,wr.alloc (.cells #[.int .i64 x, .int .i64 y, .int .i64 z] 93)=W:=⟨_,rfl⟩
       have yA:At wx wr.heap.size 93 #[.int .i64 x, .int .i64 y, .int .i64 z]:=jY▸At.new _ _ _;have oz:Hid (Fr [] wr wx):=jY▸aH _ _;have f0:=yA.cell 0;simp at f0;have ym:=aa (eQ.out.keep oz.out);have AI:=aa (HD.out.keep oz.out);clear If CP yA;obtain⟨v,oH⟩:∃v:Nat,x/2=(v:Int):=⟨(x/2).toNat,by omega⟩
       have UA:v<n:=(by omega)
       have adB:(v:Int)<(n:Int):=(by omega)
       rw[oH,Int.toNat_natCast]at mW;have Lh:=KV.out wx x (by omega) (by omega);rw[oH]at Lh;have Lh:=aa Lh;have cb:=AI.out.row.K0 (i:=v) (by rw[AI.out.len];exact UA);have cf:=AI.out.row.vI v;have jV:=aa (ym.out.put AI.out.new v (.bool true));have WO:=aa (AI.out.eu v);have CI:=aa AI.out.len;clear oH;go_wp2_with fail;refine Lh.out.mono ?_;rintro e w3 ⟨rfl,rfl⟩;go_wp2_with fail;go_roundg (gk-1);case measure=>have :=HK.out;omega
       case rel=>exact⟨k+1,by have :=HK.out;omega,by go_num,jV.out,by rw[mW.out];exact WO.out⟩
      ·obtain rfl :k=az.length:=by omega
       have HD:Hid (Dg w wr g n (Ce (az.map (fun x=>x.a)) B2)):=by have :=HD.out;rw[dC (by rw[aq];exact ap _)]at this;exact this
       clear HK;go_wp2_with fail;go_ret;exact⟨g,rfl,by rw[HDU.out];exact HD.out.row,by have :=HD.out.new;omega,eQ.out.fr⟩
theorem iX (wb:World){ops:Array Oper}{rest:List Oper}{o:Oper}{a:Act}{Q:Exit->Act->World->Prop}(ow:o.guard=none)(s x:Operand)
  (ho:o.op= .call { callee:= .builtin .append,args:=#[s,x],argTypes:=#[28,28] }){w3:World}{B:Nat}(A:Option Addr)(c:Nat)(hs:List Ls)(HN:NwLs w3 B A c hs)(fh:Fr [] w3 wb)(hB:B<=wb.heap.size)(n:Nat)(Th:a.eval s= .slice A n c)(hn:n=hs.length)
  (ad:Addr) (m d:Nat) (ms:List Ls) (hx:a.eval x= .slice (some ad) m d) (hm:m=ms.length) (hr:∀j:Nat,j<ms.length->wb.cell? (ad.add j)=some (ms[j]!).val)
  (Oq:∀h∈ms,Ints wb h.A h.c h.l/\Ra h.l/\h.l.length<=1048576/\∀k,k∈ak h.A->B<=k) (hlen:hs.length+ms.length<=4194304)
  (h:∀A' cap w',NwLs w' B A' cap (hs++ms)->Fr (ak A) wb w'->wpList Tryz.prog ops Q rest (a.put o.dst (.slice A' (n+m) cap)) w'):
  wpList Tryz.prog ops Q (o::rest) a wb:=
 ed wb ow s x ho A c hs n Th hn (HN.keep fh).row ad m d ms hx hm hr hlen fun A' cap w' h1 h2 h3 h4=>h A' cap w' (HN.more fh Oq h2 h1 h3 hB) h2
theorem Cx.push {w wb w':World}{H:Hd}{C:Pc}{A:Option Addr}(h:Cx w wb H C)(hf:Fr (ak A) wb w')(hn:∀k∈ak A,w.heap.size<k):Cx w w' H C:=
 ⟨h.fr.trans hf (fun k hk=> .inr (Nat.le_of_lt (hn k hk))),hf.at_ h.bx (fun hm=>by have :=hn _ hm;omega)⟩
theorem NwLs.lt {w:World}{B:Nat}{A:Option Addr}{c:Nat}{hs:List Ls}(k:NwLs w B A c hs){n:Nat}(h:n<B):∀j∈ak A,n<j:=fun j hj=>aK h (k.new j hj)
theorem NwLs.ic {w:World}{B:Nat}{A:Option Addr}{c:Nat}{hs:List Ls}(k:NwLs w B A c hs){L:List (List Int)}(h:hs.map (·.l)=L):hs.length=L.length:=by rw[<-h,aq]
theorem C6 {C:Pc}(hv:Valid C):C.az.length<=2048:=by
 have key:∀j:Nat,j<C.az.length->2*((j:Int)+1)<=(C.az[j]!).a:=by
  intro j;induction j with
  |zero=>
   intro h;have :=dT hv (C.az[0]!).a (by unfold cK;simp only[ah,aG];exact .inr ⟨_,a8 h,rfl⟩);omega
  |succ j ih=>
   intro h;have h1:=ih (by omega);have h2:=hv.az (j+1) h;simp only[Fd,prv,fl,ax]at h2;rw[aac (by omega)]at h2;simp only[aal]at h2;have h3:=dT hv (C.az[j+1]!).a (by unfold cK;simp only[ah,aG];exact .inr ⟨_,a8 h,rfl⟩);have h4:=dT hv (C.az[j]!).a (by unfold cK;simp only[ah,aG];exact .inr ⟨_,a8 (by omega),rfl⟩);omega
 by_cases h:C.az.length=0
 ·omega
 ·have h1:=key (C.az.length-1) (by omega);have h2:=dT hv (C.az[C.az.length-1]!).a (by unfold cK;simp only[ah,aG];exact .inr ⟨_,a8 (by omega),rfl⟩);have :=hv.m1;omega
theorem zQ {C:Pc}(h:Valid C)(j:Nat)(hj:j<C.az.length):(0<=(C.az[j]!).a/\(C.az[j]!).a<=2*C.mx+1)/\(0<=(C.az[j]!).b/\(C.az[j]!).b<=2*C.mx+1)/\(0<=(C.az[j]!).c/\(C.az[j]!).c<=2*C.mx+1):=by have h2:=h.az j hj;simp only[Fd,ax]at h2;have h3:=dT h (C.az[j]!).a (by unfold cK;simp only[ah,aG];exact .inr ⟨_,a8 hj,rfl⟩);exact⟨by omega,gO h h2.1.2,gO h h2.2⟩
theorem aiU {x y z:Int}(h:eh x)(h2:eh y)(h3:eh z):Ra [x,y,z]:=fun j hj=>by
 have :j=0\/j=1\/j=2:=by simp at hj;omega
 rcases this with rfl |rfl |rfl
 ·exact h
 ·exact h2
 ·exact h3
def AS (b:Int)(bs:List Bool)(i:Nat):List (List Int):=if bs[i]! =true then[]else[[-(b+i+1)]]
def AR (b:Int)(bs:List Bool)(k:Nat):List (List Int):=(List.range k).flatMap (AS b bs)
theorem zR (b:Int)(bs:List Bool)(k:Nat):AR b bs (k+1)=AR b bs k++AS b bs k:=by unfold AR;rw[List.range_succ,List.flatMap_append];simp
theorem C8 (b:Int)(bs:List Bool)(k:Nat):(AR b bs k).length<=k:=by
 induction k with
 |zero=>simp[AR]
 |succ k ih=>
  rw[zR,aj];have :(AS b bs k).length<=1:=by unfold AS;split<;>simp
  omega
def Nk (b:Int)(x:T3):List (List Int):=[[-(dE b x.a),dE b x.b],[-(dE b x.a),dE b x.c],[dE b x.a,-(dE b x.b),-(dE b x.c)]]
def B5 (b:Int)(xs:List T3)(k:Nat):List (List Int):=(xs.take k).flatMap (Nk b)
theorem Ax (b:Int)(xs:List T3)(k:Nat)(h:k<xs.length):B5 b xs (k+1)=B5 b xs k++Nk b xs[k]! :=by unfold B5;rw[mF _ _ h,List.flatMap_append];simp
theorem Q9 (b:Int)(xs:List T3)(k:Nat)(h:k<=xs.length):(B5 b xs k).length=3*k:=by
 induction k with
 |zero=>simp[B5]
 |succ k ih=>
  rw[Ax b xs k (by omega),aj,ih (by omega)];simp[Nk];omega
def nP (C:Pc)(b:Int):List (List Int):=AR b (Nt C) (Nt C).length++B5 b C.az C.az.length
theorem Ba (w:World)(H:Hd)(C:Pc)(h:fH w H C)(hv:Valid C)(b:Int)(hb:0<=b/\b<=262144):
  Calls Tryz.prog 69 #[dj H C, .int .i64 b] w fun e w'=>∃A c hs,e= .returned (.tuple #[.slice A hs.length c, .int .i64 0])/\NwLs w' w.heap.size A c hs/\hs.map (·.l)=nP C b/\Fr [] w w':=by
 have HX:=aa (Cx.start w H C);have KR:=aa (rO _ H C (h.keep HX.out.fr) hv b hb);have KD:=aa (fun W (hW:Fr [] w W)=>we W H C (h.keep hW) hv);have KO:=aa (fun W v (hv:0<=v/\v<=1000000)=>Ae W b v (by omega) hv);have KT:=aa (fun W x (hx:0<=x/\x<=4097)=>nK W b x (by omega) (by omega));have Ll:=aa (fun x (hx:0<=x/\x<=4097)=>pj (b:=b) (l:=x) (by omega) hx);have mW:=aa (fun j hj=>zQ hv j hj);have FJ:=sF C;have uY:=hv.m0;have rF:=hv.m1;have uy:=C6 hv;have HH:=aa h;have HGR:=aa h.gr;have Ni:=h.gL;obtain⟨bs,hbs⟩:∃bs,Nt C=bs:=⟨_,rfl⟩
 have rK:Hid (nP C b=AR b bs bs.length++B5 b C.az C.az.length):=(by show _=_;unfold nP;rw[hbs])
 rw[hbs]at KD FJ;have hbl:bs.length<=2049:=by omega
 clear h hv hbs FJ;obtain⟨mx,ins,aM,outs,aT,aU,az,bY⟩:=C;obtain⟨iA,iC,lA,lC,oA,oC,bA,bC,vA,vC,gA,gC,nA,nC⟩:=H;simp only[dj,iz]at *;obtain⟨c0,c1,c2,c3,c4,c5,c6,c7⟩:=HX.out.cells;try simp only at c0 c1 c2 c3 c4 c5 c6 c7
 go_enter Tryz.func69,Tryz.ntmps69;go_wp2_with fail;refine KR.out.mono ?_;rintro e w1 ⟨rfl,cX⟩;have jH:=aa (HX.out.keep cX);obtain⟨e0,e1,e2,e3,e4,e5,e6,e7⟩:=jH.out.cells;try simp only at e0 e1 e2 e3 e4 e5 e6 e7
 have KD1:=aa (KD.out w1 jH.out.fr);clear cX c0 c1 c2 c3 c4 c5 c6 c7 KR KD HX;go_wp2_with fail;refine KD1.out.mono ?_;rintro e w2 ⟨g,rfl,hbo,hgn,bW⟩;have gh:=aa (jH.out.keep bW);have HBO:=aa hbo;clear bW hbo hgn KD1 e0 e1 e2 e3 e4 e5 e6 e7;go_wp2_with fail;go_loopg [8,26] bs.length (fun gk x8 x26 wr=>∃(k:Nat) (A':Option Addr) (c':Nat) (hs:List Ls),k+gk=bs.length/\x8= .slice A' hs.length c'/\x26= .int .i64 k/\Hid (NwLs wr (w.heap.size+1) A' c' hs)/\Hid (hs.map (·.l)=AR b bs k)/\Hid (Cx w wr ⟨iA,iC,lA,lC,oA,oC,bA,bC,vA,vC,gA,gC,nA,nC⟩ ⟨mx,ins,aM,outs,aT,aU,az,bY⟩)/\Hid (Bools wr (some ⟨g,0,none⟩) bs.length bs));case atStart=>exact⟨0,none,0,[],by omega,rfl,rfl,NwLs.nil _ _,rfl,gh.out,HBO.out⟩
 case round=>
  obtain⟨k,A',c',hs,hk,rfl,rfl,HN,HE,eQ,eF⟩:=hrel;have HK:=aa hk;have jg:k<=bs.length:=by omega
  have rl:hs.length<=k:=by have :=C8 b bs k;rw[<-HE.out,aq]at this;exact this
  clear hk jH gh HBO;by_cases bw:k<bs.length
  ·have cb:=eF.out.K0 bw;have cf:=eF.out.vI k;have mW:=aa (zR b bs k);obtain⟨t,ht⟩:∃t,bs[k]! =t:=⟨_,rfl⟩
   rw[ht]at cb;have HU1:Hid (AS b bs k=if t=true then[]else[[-(b+k+1)]]):=(by show _=_;unfold AS;rw[ht])
   clear ht;cases t with
   |true=>
    have HU2:Hid (AS b bs k=[]):=HU1.out;go_wp2_with fail;go_roundg (gk-1);case measure=>have :=HK.out;omega
    case rel=>exact⟨k+1,A',c',hs,by have :=HK.out;omega,rfl,by go_num,HN.out,(by rw[HE.out,mW.out,HU2.out,bZ]:_=_),eQ.out,eF.out⟩
   |false=>
    obtain⟨v,oH⟩:∃v,b+(k:Int)+1=v:=⟨_,rfl⟩
    have HU2:Hid (AS b bs k=[[-v]]):=by have :=HU1.out;rw[oH]at this;exact this
    have xg:0<=v/\v<=1000000:=(by omega)
    have dP:IntKind.i64.wrap (-v)= -v:=IntWalk.i64_in _ (by omega);have Wh:=KO.out wr (k:Int) (by omega);rw[oH]at Wh;have Wh:=aa Wh;have vO:=aa xg;clear oH HU1;obtain⟨wb,fh⟩:∃W,(wr.alloc (.cells #[.int .i64 (-v)] 3)).alloc (.cells #[.slice (some ⟨wr.heap.size,0,none⟩) 1 1] 22)=W:=⟨_,rfl⟩
    have qq:Hid (Ints wb (some ⟨wr.heap.size,0,none⟩) 1 [-v]):=fh▸(kD wr [-v] (by simp[maxLen])).alloc _;have gm:Hid (Fr [] wr wb):=fh▸((aH _ _).ag (aH _ _));have oM:wb.cell? ⟨wr.heap.size+1,0,none⟩=some (.slice (some ⟨wr.heap.size,0,none⟩) 1 1):=by have :=(At.new (wr.alloc (.cells #[.int .i64 (-v)] 3)) 22 #[.slice (some ⟨wr.heap.size,0,none⟩) 1 1]).cell 0;rw[fh]at this;simpa using this
    have yv:=aa oM;have sU:Hid (w.heap.size+1<=wr.heap.size):=(eQ.out.bx.lt:w.heap.size+1<=wr.heap.size)
    have CW:=aa (eQ.out.keep gm.out);have FW:=aa (eF.out.frB gm.out (fun _ _ hm=>by cases hm));clear oM;go_wp2_with fail;refine Wh.out.mono ?_;rintro e w3 ⟨rfl,rfl⟩;go_wp2_with (at_builtin;(refine iX _ rfl _ _ rfl A' c' hs HN.out gm.out (aE sU.out gm.out.size) hs.length rfl rfl ⟨wr.heap.size+1,0,none⟩ 1 1 [⟨some ⟨wr.heap.size,0,none⟩,1,[-v]⟩] rfl rfl (fun j hj=>by(have :j=0:=by simpa using hj);subst this;rw[dH];exact yv.out) (fun h hh=>by(have :=ai.1 hh);subst this;exact⟨qq.out,TW ⟨by have :=vO.out;omega,by have :=vO.out;omega⟩,by simp,fun k hk=>by simp[ak]at hk;subst hk;exact sU.out⟩) (by simp;omega) ?_;intro A4 c4 w4 uX eS;have yq:=aa uX;have jV:=aa (CW.out.push eS (HN.out.lt (Nat.lt_succ_self _)));have m9:=aa (FW.out.frB eS (Dv FW.out (HN.out.keep gm.out).row (by decide)));clear uX eS))
    clear fh;go_roundg (gk-1);case measure=>have :=HK.out;omega
    case rel=>exact⟨k+1,A4,c4,hs++[(⟨some ⟨wr.heap.size,0,none⟩,1,[-v]⟩:Ls)],by have :=HK.out;omega,by simp,by go_num,yq.out,(by rw[bH,HE.out,mW.out,HU2.out];rfl :_=_),jV.out,m9.out⟩
  ·obtain rfl :k=bs.length:=by omega
   obtain⟨d0,d1,d2,d3,d4,d5,d6,d7⟩:=eQ.out.cells;try simp only at d0 d1 d2 d3 d4 d5 d6 d7
   have HHS:Hid (hs.length<=2049):=(by show _<=_;omega)
   obtain⟨U,hU⟩:∃U,AR b bs bs.length=U:=⟨_,rfl⟩
   rw[hU]at HE rK;clear HK hU eF rl;go_wp2_with fail;clear d0 d1 d2 d3 d4 d5 d6 d7;go_loopg [8,45] az.length (fun gk x8 x45 wr=>∃(k:Nat) (A':Option Addr) (c':Nat) (hs:List Ls),k+gk=az.length/\x8= .slice A' hs.length c'/\x45= .int .i64 k/\Hid (NwLs wr (w.heap.size+1) A' c' hs)/\Hid (hs.map (·.l)=U++B5 b az k)/\Hid (hs.length<=2049+3*k)/\Hid (Cx w wr ⟨iA,iC,lA,lC,oA,oC,bA,bC,vA,vC,gA,gC,nA,nC⟩ ⟨mx,ins,aM,outs,aT,aU,az,bY⟩));case atStart=>exact⟨0,A',c',hs,by omega,rfl,rfl,HN.out,(by rw[HE.out];simp[B5]:_=_),HHS.out,eQ.out⟩
   case round=>
    clear HN HE eQ HHS;obtain⟨k,A',c',hs,hk,rfl,rfl,HN,HE,HHS,eQ⟩:=hrel;have HK:=aa hk;have jg:k<=az.length:=(by omega)
    have rl:=HHS.out;clear hk;by_cases bw:k<az.length
    ·obtain⟨b1,o,x,y,z,hA,he,cx,cy,cz,hx,hy,hz⟩:=(HH.out.keep eQ.out.fr).g.one HGR.out bw;try simp only at hA he
     subst hA;have D7:=mW.out k bw;try simp only at D7
     rw[he.out]at D7;try simp only at D7
     have CZ:=aa (Ax b az k bw);obtain⟨tg,htg⟩:∃u,dE b x=u:=⟨_,rfl⟩
     obtain⟨tl,Mp⟩:∃u,dE b y=u:=⟨_,rfl⟩
     obtain⟨tr,Tf⟩:∃u,dE b z=u:=⟨_,rfl⟩
     have dI:Hid (Nk b az[k]! =[[-tg,tl],[-tg,tr],[tg,-tl,-tr]]):=by show _=_;unfold Nk;rw[he.out];simp only[htg,Mp,Tf]
     have Ox:=Ll.out x (by omega);have xm:=Ll.out y (by omega);have hrr:=Ll.out z (by omega);rw[htg]at Ox;rw[Mp]at xm;rw[Tf]at hrr;have KX:=fun W=>KT.out W x (by omega);simp only[htg]at KX;have KX:=aa KX;have KY:=fun W=>KT.out W y (by omega);simp only[Mp]at KY;have KY:=aa KY;have KZ:=fun W=>KT.out W z (by omega);simp only[Tf]at KZ;have KZ:=aa KZ;clear htg Mp Tf;go_upto_region 15 with fail;obtain⟨wx,jY⟩:∃W,wr.alloc (.cells #[.int .i64 x, .int .i64 y, .int .i64 z] 93)=W:=⟨_,rfl⟩
     have yA:At wx wr.heap.size 93 #[.int .i64 x, .int .i64 y, .int .i64 z]:=jY▸At.new _ _ _;have oz:Hid (Fr [] wr wx):=jY▸aH _ _;have f0:=yA.cell 0;have f1:=yA.cell 1;have f2:=yA.cell 2;simp at f0 f1 f2;have g0:=Ext.cell f0;have g1:=Ext.cell f1;have g2:=Ext.cell f2;have oG:IntKind.i64.wrap (-tg)= -tg:=IntWalk.i64_in _ (by omega);have vz:IntKind.i64.wrap (-tl)= -tl:=IntWalk.i64_in _ (by omega);have qD:IntKind.i64.wrap (-tr)= -tr:=IntWalk.i64_in _ (by omega);rw[jY];clear jY yA cx cy cz f0 f1 f2;refine au (by kernel_rfl) (by kernel_rfl) ?_;repeat (go_big_quiet_step (first |with_reducible exact bh (KX.out _) |with_reducible exact bh (KY.out _) |with_reducible exact bh (KZ.out _)))
     refine aak ?_;rintro w3 ⟨u2,b8⟩;have uI:Hid (Fr [] wx w3):=b8▸u2.fr;clear b8 u2;have db:=aa (oz.out.ag uI.out);clear g0 g1 g2 KX KY KZ uI;obtain⟨y1,iP⟩:∃W,w3.alloc (.cells #[.int .i64 (-tg), .int .i64 tl] 3)=W:=⟨_,rfl⟩
     obtain⟨y2,lE⟩:∃W,y1.alloc (.cells #[.int .i64 (-tg), .int .i64 tr] 3)=W:=⟨_,rfl⟩
     obtain⟨y3,hy3⟩:∃W,y2.alloc (.cells #[.int .i64 tg, .int .i64 (-tl), .int .i64 (-tr)] 3)=W:=⟨_,rfl⟩
     obtain⟨wb,fh⟩:∃W,y3.alloc (.cells #[.slice (some ⟨w3.heap.size,0,none⟩) 2 2, .slice (some ⟨y1.heap.size,0,none⟩) 2 2, .slice (some ⟨y2.heap.size,0,none⟩) 3 3] 22)=W:=⟨_,rfl⟩
     have qq:Hid (Ints wb (some ⟨w3.heap.size,0,none⟩) 2 [-tg,tl]):=fh▸(hy3▸(lE▸(iP▸kD w3 [-tg,tl] (by simp[maxLen]):Ints y1 _ _ _).alloc _:Ints y2 _ _ _).alloc _:Ints y3 _ _ _).alloc _;have mw:Hid (Ints wb (some ⟨y1.heap.size,0,none⟩) 2 [-tg,tr]):=fh▸(hy3▸(lE▸kD y1 [-tg,tr] (by simp[maxLen]):Ints y2 _ _ _).alloc _:Ints y3 _ _ _).alloc _;have HL3:Hid (Ints wb (some ⟨y2.heap.size,0,none⟩) 3 [tg,-tl,-tr]):=fh▸(hy3▸kD y2 [tg,-tl,-tr] (by simp[maxLen]):Ints y3 _ _ _).alloc _;have hya:Fr [] w3 y1:=iP▸aH _ _;have Tc:Fr [] y1 y2:=lE▸aH _ _;have Uw:Fr [] y2 y3:=hy3▸aH _ _;have hyd:Fr [] y3 wb:=fh▸aH _ _;have gm:=aa (((hya.ag Tc).ag Uw).ag hyd);have SV:Hid (At wb y3.heap.size 22 #[.slice (some ⟨w3.heap.size,0,none⟩) 2 2, .slice (some ⟨y1.heap.size,0,none⟩) 2 2, .slice (some ⟨y2.heap.size,0,none⟩) 3 3]):=fh▸At.new _ _ _;have sU:Hid (w.heap.size+1<=w3.heap.size):=(aE eQ.out.bx.lt db.out.size:w.heap.size+1<=w3.heap.size)
     have NR:Hid (w.heap.size+1<=y1.heap.size):=aE sU.out hya.size;have HW2:Hid (w.heap.size+1<=y2.heap.size):=aE NR.out Tc.size;have CW:=aa ((eQ.out.keep db.out).keep gm.out);have OL:Hid (eh tg/\eh tl/\eh tr/\eh (-tg)/\eh (-tl)/\eh (-tr)):=(by unfold eh;omega:eh tg/\eh tl/\eh tr/\eh (-tg)/\eh (-tl)/\eh (-tr))
     have uw:w3.heap.size+1=y1.heap.size:=by rw[<-iP];simp
     have hq2:y1.heap.size+1=y2.heap.size:=by rw[<-lE];simp
     have hq3:y2.heap.size+1=y3.heap.size:=by rw[<-hy3];simp
     clear hya Tc Uw hyd Ox xm hrr;go_wp2_with (at_builtin;(refine iX _ rfl _ _ rfl A' c' hs (HN.out.keep db.out) gm.out (aE sU.out gm.out.size) hs.length rfl rfl ⟨y3.heap.size,0,none⟩ 3 3 [⟨some ⟨w3.heap.size,0,none⟩,2,[-tg,tl]⟩,⟨some ⟨y1.heap.size,0,none⟩,2,[-tg,tr]⟩,⟨some ⟨y2.heap.size,0,none⟩,3,[tg,-tl,-tr]⟩] rfl rfl (fun j hj=>by(have :j=0\/j=1\/j=2:=by simp at hj;omega);rcases this with rfl |rfl |rfl <;>(rw[dH,SV.out.cell];rfl)) (fun h hh=>by(have hh2:=hh;simp only[av,cd,or_false]at hh2);obtain⟨r1,r2,r3,r4,r5,r6⟩:=OL.out;rcases hh2 with rfl |rfl |rfl;(exact⟨qq.out,TV r4 r2,by simp,fun k hk=>by simp[ak]at hk;subst hk;exact sU.out⟩);(exact⟨mw.out,TV r4 r3,by simp,fun k hk=>by simp[ak]at hk;subst hk;exact NR.out⟩);(exact⟨HL3.out,aiU r1 r5 r6,by simp,fun k hk=>by simp[ak]at hk;subst hk;exact HW2.out⟩)) (by simp;omega) ?_;intro A4 c4 w4 uX eS;have yq:=aa uX;have jV:=aa (CW.out.push eS (HN.out.lt (Nat.lt_succ_self _)));clear uX eS))
     clear fh;go_roundg (gk-1);case measure=>have :=HK.out;omega
     case rel=>exact⟨k+1,A4,c4,hs++[(⟨some ⟨w3.heap.size,0,none⟩,2,[-tg,tl]⟩:Ls),(⟨some ⟨y1.heap.size,0,none⟩,2,[-tg,tr]⟩:Ls),(⟨some ⟨y2.heap.size,0,none⟩,3,[tg,-tl,-tr]⟩:Ls)],by have :=HK.out;omega,by simp,by go_num,yq.out,(by rw[bH,HE.out,CZ.out,dI.out,jP];rfl :_=_),(by have h9:hs.length<=2049+3*k:=HHS.out;show _<=_;rw[aj];show hs.length+3<=2049+3*(k+1);omega),jV.out⟩
    ·obtain rfl :k=az.length:=by omega
     clear HK;go_wp2_with fail;go_ret2;exact⟨A',c',hs,rfl,HN.out.low (by omega),by rw[HE.out,rK.out],eQ.out.fr⟩
theorem zP {C:Pc}(hv:Valid C):∀x∈C.aU,0<=x/\x<=4097:=by intro x hx;have h:=hv.v;simp only[tX,ax,ep]at h;have :=gO hv (h.1 x hx);have :=hv.m1;omega
theorem vW {C:Pc}(hv:Valid C):C.aU.length<=64:=by have h:=hv.v;simp only[tX,ax,aal]at h;omega
def N6 (l:List Int):Prop:=l.length<=1024/\∀x∈l,0<=x/\x<=4097
def nQ (C:Pc)(am:List (List Int))(b:Int):List (List Int):=C.aU.map (fun x=>[dE b x])++am.map (fun l=>l.map (dE b))
theorem xC (C:Pc)(am:List (List Int))(b:Int):(nQ C am b).length=C.aU.length+am.length:=by simp[nQ]
theorem tD {α β:Type}[Inhabited α](f:α->β){l:List α}{k:Nat}(h:k<l.length):(l.take (k+1)).map f=(l.take k).map f++[f l[k]!]:=pg f h
theorem Bb (w:World)(H:Hd)(C:Pc)(h:fH w H C)(hv:Valid C)(A:Option Addr)(c:Nat)(am:List Ls)(hr:j3 w A am)(hf:∀x∈am,N6 x.l)(ha:am.length<=64)(b:Int)(hb:0<=b/\b<=262144):
  Calls Tryz.prog 70 #[dj H C, .slice A am.length c, .int .i64 b] w fun e w'=>∃A c hs,e= .returned (.tuple #[.slice A hs.length c, .int .i64 0])/\NwLs w' w.heap.size A c hs/\hs.map (·.l)=nQ C (am.map (·.l)) b/\Fr [] w w':=by
 have HX:=aa (Cx.start w H C);have KR:=aa (rO _ H C (h.keep HX.out.fr) hv b hb);have KT:=aa (fun W x (hx:0<=x/\x<=4097)=>nK W b x (by omega) (by omega));have KC:=aa (fun W A c l hr hx hl=>yQ W b hb A c l hr hx hl);have Ll:=aa (fun x (hx:0<=x/\x<=4097)=>pj (b:=b) (l:=x) (by omega) hx);have mW:=aa (zP hv);have m7:=vW hv;have HH:=aa h;have vO:=aa h.vr;have HR:=aa hr;have HFN:=aa hf;have HFO:Hid (nQ C (am.map (·.l)) b=C.aU.map (fun x=>[dE b x])++(am.map (·.l)).map (fun l=>l.map (dE b))):=(rfl :_=_)
 clear h hv hr hf;obtain⟨mx,ins,aM,outs,aT,aU,az,bY⟩:=C;obtain⟨iA,iC,lA,lC,oA,oC,bA,bC,vA,vC,gA,gC,nA,nC⟩:=H;simp only[dj,iz]at *;obtain⟨c0,c1,c2,c3,c4,c5,c6,c7⟩:=HX.out.cells;try simp only at c0 c1 c2 c3 c4 c5 c6 c7
 go_enter Tryz.func70,Tryz.ntmps70;go_wp2_with fail;refine KR.out.mono ?_;rintro e w1 ⟨rfl,cX⟩;have jH:=aa (HX.out.keep cX);obtain⟨e0,e1,e2,e3,e4,e5,e6,e7⟩:=jH.out.cells;try simp only at e0 e1 e2 e3 e4 e5 e6 e7
 clear cX c0 c1 c2 c3 c4 c5 c6 c7 KR HX;go_wp2_with fail;clear e0 e1 e2 e3 e4 e5 e6 e7;go_loopg [10,25] aU.length (fun gk OX x25 wr=>∃(k:Nat) (A':Option Addr) (c':Nat) (hs:List Ls),k+gk=aU.length/\OX= .slice A' hs.length c'/\x25= .int .i64 k/\Hid (NwLs wr (w.heap.size+1) A' c' hs)/\Hid (hs.map (·.l)=(aU.take k).map (fun x=>[dE b x]))/\Hid (Cx w wr ⟨iA,iC,lA,lC,oA,oC,bA,bC,vA,vC,gA,gC,nA,nC⟩ ⟨mx,ins,aM,outs,aT,aU,az,bY⟩));case atStart=>exact⟨0,none,0,[],by omega,rfl,rfl,NwLs.nil _ _,rfl,jH.out⟩
 case round=>
  obtain⟨k,A',c',hs,hk,rfl,rfl,HN,HE,eQ⟩:=hrel;have HK:=aa hk;have jg:k<=aU.length:=by omega
  have rl:hs.length<=k:=by have :=HN.out.ic HE.out;rw[aq,bp]at this;omega
  clear hk jH;by_cases bw:k<aU.length
  ·obtain⟨ab,o,x,hA,he,cx,fN,gd⟩:=(HH.out.keep eQ.out.fr).v.one vO.out bw;try simp only at hA he
   subst hA;have NY:=aa (tD (fun x:Int=>[dE b x]) bw);rw[he.out]at NY;have kR:=mW.out x (by rw[<-he.out];exact a8 bw);obtain⟨v,oH⟩:∃v,dE b x=v:=⟨_,rfl⟩
   have xg:=Ll.out x (by omega);have KX:=KT.out wr x (by omega);rw[oH]at KX xg NY;have KX:=aa KX;have afQ:=aa xg;clear oH xg;obtain⟨wb,fh⟩:∃W,(wr.alloc (.cells #[.int .i64 v] 3)).alloc (.cells #[.slice (some ⟨wr.heap.size,0,none⟩) 1 1] 22)=W:=⟨_,rfl⟩
   have qq:Hid (Ints wb (some ⟨wr.heap.size,0,none⟩) 1 [v]):=fh▸(kD wr [v] (by simp[maxLen])).alloc _;have gm:Hid (Fr [] wr wb):=fh▸((aH _ _).ag (aH _ _));have oM:wb.cell? ⟨wr.heap.size+1,0,none⟩=some (.slice (some ⟨wr.heap.size,0,none⟩) 1 1):=by have :=(At.new (wr.alloc (.cells #[.int .i64 v] 3)) 22 #[.slice (some ⟨wr.heap.size,0,none⟩) 1 1]).cell 0;rw[fh]at this;simpa using this
   have yv:=aa oM;have sU:Hid (w.heap.size+1<=wr.heap.size):=(eQ.out.bx.lt:w.heap.size+1<=wr.heap.size)
   have CW:=aa (eQ.out.keep gm.out);clear oM;go_wp2_with fail;refine KX.out.mono ?_;rintro e w3 ⟨rfl,rfl⟩;go_wp2_with (at_builtin;(refine iX _ rfl _ _ rfl A' c' hs HN.out gm.out (aE sU.out gm.out.size) hs.length rfl rfl ⟨wr.heap.size+1,0,none⟩ 1 1 [⟨some ⟨wr.heap.size,0,none⟩,1,[v]⟩] rfl rfl (fun j hj=>by(have :j=0:=by simpa using hj);subst this;rw[dH];exact yv.out) (fun h hh=>by(have :=ai.1 hh);subst this;exact⟨qq.out,TW ⟨by have :=afQ.out;omega,by have :=afQ.out;omega⟩,by simp,fun k hk=>by simp[ak]at hk;subst hk;exact sU.out⟩) (by simp;omega) ?_;intro A4 c4 w4 uX eS;have yq:=aa uX;have jV:=aa (CW.out.push eS (HN.out.lt (Nat.lt_succ_self _)));clear uX eS))
   clear fh;go_roundg (gk-1);case measure=>have :=HK.out;omega
   case rel=>exact⟨k+1,A4,c4,hs++[(⟨some ⟨wr.heap.size,0,none⟩,1,[v]⟩:Ls)],by have :=HK.out;omega,by simp,by go_num,yq.out,(by rw[bH,HE.out,NY.out];rfl :_=_),jV.out⟩
  ·obtain rfl :k=aU.length:=by omega
   obtain⟨d0,d1,d2,d3,d4,d5,d6,d7⟩:=eQ.out.cells;try simp only at d0 d1 d2 d3 d4 d5 d6 d7
   rw[cN]at HE;obtain⟨U,hU⟩:∃U,aU.map (fun x=>[dE b x])=U:=⟨_,rfl⟩
   have zc:U.length<=64:=by rw[<-hU,aq];exact m7
   rw[hU]at HE;try simp only at HFO
   rw[hU]at HFO;clear HK hU rl;go_wp2_with fail;clear d0 d1 d2 d3 d4 d5 d6 d7;go_loopg [10,39] am.length (fun gk OX x39 wr=>∃(k:Nat) (A':Option Addr) (c':Nat) (hs:List Ls),k+gk=am.length/\OX= .slice A' hs.length c'/\x39= .int .i64 k/\Hid (NwLs wr (w.heap.size+1) A' c' hs)/\Hid (hs.map (·.l)=U++((am.map (·.l)).take k).map (fun l=>l.map (dE b)))/\Hid (Cx w wr ⟨iA,iC,lA,lC,oA,oC,bA,bC,vA,vC,gA,gC,nA,nC⟩ ⟨mx,ins,aM,outs,aT,aU,az,bY⟩));case atStart=>exact⟨0,A',c',hs,by omega,rfl,rfl,HN.out,(by rw[HE.out];simp :_=_),eQ.out⟩
   case round=>
    clear HN HE eQ;obtain⟨k,A',c',hs,hk,rfl,rfl,HN,HE,eQ⟩:=hrel;have HK:=aa hk;have jg:k<=am.length:=(by omega)
    have rl:hs.length<=64+k:=by have :=HN.out.ic HE.out;rw[aj,aq,bp,aq]at this;omega
    clear hk;by_cases bw:k<am.length
    ·obtain⟨ab,o,B1,d1,l1,hA,he,xu,MQ⟩:=(HR.out.keep eQ.out.fr).one bw;subst hA;have lz:=aa MQ;have CP:k<(am.map (·.l)).length:=by rw[aq];exact bw
     have NY:=aa (tD (fun l:List Int=>l.map (dE b)) CP);have If:(am.map (·.l))[k]! =l1:=by have :=he.out;rw[ae,af bw]at this;simp only[ay]at this;rw[ae,aJ,af bw];simp[this]
     rw[If]at NY;have Ki:N6 l1:=by have :=HFN.out (am[k]!) (a8 bw);rw[he.out]at this;exact this
     have zd:l1.length<=1024:=Ki.1;have TA:=aa Ki;have KCX:=aa (KC.out wr B1 d1 l1 MQ.1 Ki.2 (by have :=Ki.1;omega));clear CP If MQ Ki;go_wp2_with fail;refine KCX.out.mono ?_;rintro e w3 ⟨B2,d2,rfl,pt,qE,bW⟩;have nZ:=aa pt;have jw:=aa qE;have cw:=aa bW;clear pt qE bW KCX;obtain⟨wb,fh⟩:∃W,w3.alloc (.cells #[.slice B2 l1.length d2] 22)=W:=⟨_,rfl⟩
     have gm:Hid (Fr [] w3 wb):=fh▸aH _ _;have qq:=aa (nZ.out.fr gm.out (fun _ _ hm=>by cases hm));have oM:wb.cell? ⟨w3.heap.size,0,none⟩=some (.slice B2 l1.length d2):=by have :=(At.new w3 22 #[.slice B2 l1.length d2]).cell 0;rw[fh]at this;simpa using this
     have yv:=aa oM;have sU:Hid (w.heap.size+1<=wr.heap.size):=(eQ.out.bx.lt:w.heap.size+1<=wr.heap.size)
     have CW:=aa ((eQ.out.keep cw.out).keep gm.out);have pB:Hid ((l1.map (dE b)).length=l1.length):=(aq .. :_=_)
     have Fo:Hid (Ra (l1.map (dE b))):=(eD (p:=eh)).2 fun x hx=>by obtain⟨y,hy,rfl⟩:=aG.1 hx;have :=Ll.out y (TA.out.2 y hy);exact⟨by omega,by omega⟩
     clear oM;go_wp2_with (at_builtin;(refine iX _ rfl _ _ rfl A' c' hs (HN.out.keep cw.out) gm.out (aE sU.out (aE cw.out.size gm.out.size)) hs.length rfl rfl ⟨w3.heap.size,0,none⟩ 1 1 [⟨B2,d2,l1.map (dE b)⟩] rfl rfl (fun j hj=>by(have :j=0:=by simpa using hj);subst this;rw[dH];show _=some (Value.slice B2 (l1.map (dE b)).length d2);rw[pB.out];exact yv.out) (fun h hh=>by(have :=ai.1 hh);subst this;exact⟨qq.out,Fo.out,by show(l1.map (dE b)).length<=_;rw[pB.out];omega,fun k hk=>aE sU.out (jw.out k hk)⟩) (by simp;omega) ?_;intro A4 c4 w4 uX eS;have yq:=aa uX;have jV:=aa (CW.out.push eS (HN.out.lt (Nat.lt_succ_self _)));clear uX eS))
     clear fh;go_roundg (gk-1);case measure=>have :=HK.out;omega
     case rel=>exact⟨k+1,A4,c4,hs++[(⟨B2,d2,l1.map (dE b)⟩:Ls)],by have :=HK.out;omega,by simp,by go_num,yq.out,(by rw[bH,HE.out,NY.out,jP];rfl :_=_),jV.out⟩
    ·obtain rfl :k=am.length:=by omega
     have dn:Hid (hs.map (·.l)=U++(am.map (·.l)).map (fun l=>l.map (dE b))):=by have :=HE.out;rw[dC (by rw[aq];exact ap _)]at this;exact this
     clear HK HE;go_wp2_with fail;go_ret2;exact⟨A',c',hs,rfl,HN.out.low (by omega),by rw[dn.out,HFO.out],eQ.out.fr⟩
end Go.Proofs.YtjmmpfjcpdepjaaGreatDoor
