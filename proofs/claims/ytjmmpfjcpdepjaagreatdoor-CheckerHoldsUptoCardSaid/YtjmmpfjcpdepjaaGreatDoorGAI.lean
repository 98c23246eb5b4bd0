/- Parts of a proof. -/
import Derived.Test.YtjmmpfjcpdepjaaGreatDoorGAH
set_option linter.unusedVariables false
set_option linter.unusedSimpArgs false
set_option maxHeartbeats 16000000
set_option maxRecDepth 100000
namespace Go.Proofs.YtjmmpfjcpdepjaaGreatDoor
open Go.RowKit
def I7:Prop:=∀(w:World) (L:aO) (S:Sv),aX w L S->S.Ok 0-> -1152921504606846976<=S.many->S.many<=1152921504606846976->
 Calls Tryz.prog 139 #[.pointer (some ⟨L.a,0,none⟩)] w fun e w'=>∃S',Sv.I6 S S'/\pz (.tuple #[]) S' L w e w'
def Fi (Q:Sv->Int->Prop)(L:aO)(w:World)(e:Ending)(w':World):Prop:=∃(S':Sv) (r:Int),Q S' r/\S'.Ok 0/\pz (.int .i64 r) S' L w e w'
theorem rT (red:Bool)(rC:red=true->I7)(w:World)(L:aO)(S:Sv)(h:aX w L S)(ok:S.Ok 0)(A:Option Addr)(c:Nat)(us:List Int)(ta:CU w L A us)(Am:∀x∈us,-(S.vars:Int)<=x/\x<=S.vars)(zc:us.length<=1099511627776)(budget:Int)(Q:Sv->Int->Prop)(D C:Nat)(hW:Sv.fe red budget us Q D C 64 0 S):
  Calls Tryz.prog 114 #[.pointer (some ⟨L.a,0,none⟩), .int .i64 budget, .slice A us.length c] w (Fi Q L w):=by
 have HH:=aa h;have lz:=aa ok;have HRD:=aa ta;have Ty:=aa Am;have HKR:=aa rC;obtain⟨C0,rfl⟩:∃C0,C=C0+1:=⟨C-1,by
  rcases C with _ |C
  ·exact absurd hW (by simp[Sv.fe])
  ·omega⟩
 have X3:Hid (Sv.iE red budget us Q (Sv.fe red budget us Q D C0) D 64 0 S):=hW;clear hW h ok ta Am rC;go_enter Tryz.func114,Tryz.ntmps114;go_wp2_with fail;go_loopg [7,8] (C0*(D+1)+D) (fun g x7 x8 wr=>∃(c0 d next n:Nat) (S1:Sv) (L1:aO),g=c0*(D+1)+d/\x7= .int .i64 next /\x8= .int .i64 n/\Hid (Sv.iE red budget us Q (Sv.fe red budget us Q D c0) d next n S1)/\Hid (S1.vars=S.vars)/\Hid (S1.Ok 0)/\Hid (aX wr L1 S1)/\Hid (L.ext L1 w)/\Hid (Fr (L.own w) w wr));case atStart=>exact⟨C0,D,64,0,S,L,rfl,rfl,rfl,X3.out,rfl,lz.out,HH.out,aO.cv _ _,Fr.refl _ _⟩
 case round=>
  obtain⟨c0,d,next,n,S1,L1,hg,rfl,rfl,HW,HV1,kt,H1,fa,dI⟩:=hrel;obtain⟨d,rfl⟩:∃d',d=d'+1:=⟨d-1,by
   rcases d with _ |d
   ·exact absurd HW.out (by simp[Sv.iE])
   ·omega⟩
  have HG:=aa hg;have hw:=HW.out;rw[Sv.iE]at hw;obtain⟨vD,hn,aoE,hw⟩:=hw;have KF:=aa (B6 wr L1 S1 H1.out kt.out);rw[fa.out.1]at KF;have hfo:=kt.out.follow;obtain⟨SF,hSF⟩:∃SF,S1.follow.1=SF:=⟨_,rfl⟩
  obtain⟨oc,hoc⟩:∃oc,S1.follow.2=oc:=⟨_,rfl⟩
  rw[hSF,hoc]at hw hfo KF;obtain⟨aev,BW,Z8⟩:=hfo;have qP:=aa vD;have adF:SF.vars=S.vars:=(aao (fun x=>x.2.1) BW).trans HV1.out;have gZ:SF.core=[]:=(aao (fun x=>x.2.2.2.2.1) BW).trans vD.core;have D9:SF.used=S1.used:=aao (fun x=>x.2.2.2.2.2.1) BW;have EK:SF.bump=S1.bump:=aao (fun x=>x.2.2.2.2.2.2.1) BW;have ju:SF.many=S1.many:=aao (fun x=>x.2.2.2.2.2.2.2.1) BW;have pr:SF.bQ=S1.bQ:=aao (fun x=>x.2.2.2.2.2.2.2.2.1) BW;have Ia:SF.T.levels=S1.T.levels:=aao (fun x=>x.2.2.2.2.2.2.2.2.2.2.2.1) BW;have ZP:SF.list.length=S1.list.length:=aao (fun x=>x.2.2.2.2.2.2.2.2.2.2.2.2) BW;have HOF:=aa aev;have X4:=aa adF;have HCF:=aa gZ;have am5:=aa ZP;have Su:Hid (SF.T.levels.length<=4398046511104):=by show _<=_;rw[Ia];exact vD.ct
  have HIF:Hid (SF.list.length<2199023255552):=by show _<_;rw[ZP];exact vD.list
  have aki:=vD.used;have adK:=vD.bump;have Zm:=vD.PT;have Zl:=vD.many1;have Zk:=vD.lim;rw[<-D9]at aki;rw[<-EK]at adK;rw[<-ju]at Zm Zl;rw[<-pr]at Zk;clear hg HW hSF hoc aev BW adF gZ D9 EK ju pr Ia ZP vD;go_wp2_with fail;refine KF.out.mono ?_;clear KF;rintro e w2 ⟨rfl,L2,h2,jM,bW⟩;have H2:=aa h2;have dn:=aa (aO.aV fa.out jM dI.out.size);have cw:=aa (aO.aQ fa.out dI.out bW);clear h2 jM bW H1 fa dI;cases oc with
  |some cf=>
   have hcf:=Z8 cf rfl;have EI:cf<SF.list.length:=by rw[am5.out];exact hcf
   have HFI:Hid (xB (some cf)=(cf:Int)):=rfl;rw[HFI.out];have yB:(0:Int)<=(cf:Int):=by omega
   have hwn:IntKind.i64.wrap ((n:Int)+1)=(n:Int)+1:=IntWalk.i64_in _ (by omega);have hwu:IntKind.i64.wrap ((SF.used:Int)+1)=(SF.used:Int)+1:=IntWalk.i64_in _ (by omega);obtain⟨-,-,-,-,-,-,-,-,-,c9,-⟩:=H2.out.cells;rw[dn.out.1]at c9;have f9:=H2.out.obj.frozen 9;rw[dn.out.1]at f9;obtain⟨g3,f3⟩:=H2.out.qe 9 (.int .i64 ((SF.used:Int)+1)) SF.cO (by simp[pM,Sv.cO]) ⟨rfl,rfl,rfl,rfl,rfl,rfl,rfl⟩;rw[dn.out.1]at g3 f3;have HQ:=aa hw;clear hw Z8;go_upto_region 7 with fail;obtain⟨w3,vz⟩:∃w3,w2.setCell ⟨L.a,9,none⟩ (.int .i64 ((SF.used:Int)+1))=w3:=⟨_,rfl⟩
   rw[vz]at g3 f3⊢;have H3:=aa g3;have db:=aa (aO.aQ dn.out cw.out f3);clear vz g3 f3 c9 f9 hwu;have hq:=HQ.out;cases u3:SF.cO.conflict cf with
   |none=>rw[u3]at hq;exact absurd hq (by simp[Sv.IZ])
   |some q=>
    obtain⟨S4,b⟩:=q;rw[u3]at hq;have KC:=aa (xX w3 L2 SF.cO H3.out 0 HOF.out.cO cf EI HIF.out (by show SF.used+1<=_;omega) adK (by show SF.many<_;omega) (by show _<SF.many;omega) (by have :=Su.out;show SF.T.levels.length<=_;omega) S4 b u3);rw[dn.out.1]at KC;have ok4:=HOF.out.cO.conflict HIF.out u3;have Ww:=aa ok4.1;have HV4:Hid (S4.vars=S.vars):=ok4.2.trans X4.out;clear u3 ok4;go_wp2_with fail;refine KC.out.mono ?_;clear KC;rintro e w4 ⟨rfl,L4,h4,XG,eS⟩;have H4:=aa h4;have vR:=aa (aO.aV dn.out XG db.out.size);have gY:=aa (aO.aQ dn.out db.out eS);clear h4 XG eS;cases b with
    |false=>
     have FF:Hid (Fi Q L w (.returned (.int .i64 2)) w4):=⟨S4,2,hq,Ww.out,rfl,L4,H4.out,vR.out,gY.out⟩
     clear hq;go_wp2_with fail;go_ret;exact FF.out
    |true=>
     replace hq:if budget<((n+1:Nat):Int)then Q S4 0 else Sv.fe red budget us Q D c0 next (n+1) S4:=hq
     by_cases QY:budget<((n+1:Nat):Int)
     ·rw[aae QY]at hq;have alb:budget<(n:Int)+1:=(by omega)
      have FF:Hid (Fi Q L w (.returned (.int .i64 0)) w4):=⟨S4,0,hq,Ww.out,rfl,L4,H4.out,vR.out,gY.out⟩
      clear hq QY;go_wp2_with fail;go_ret;exact FF.out
     ·rw[aac QY]at hq;have alb:(n:Int)+1<=budget:=(by omega)
      have vg:=aa hq;obtain⟨c1,rfl⟩:∃c1,c0=c1+1:=⟨c0-1,by
       rcases c0 with _ |c0
       ·exact absurd hq (by simp[Sv.fe])
       ·omega⟩
      have Ya:Hid (Sv.iE red budget us Q (Sv.fe red budget us Q D c1) D next (n+1) S4):=vg.out;clear hq QY;go_wp2_with fail;go_roundg (c1*(D+1)+D);case measure=>have :=HG.out;rw[Nat.succ_mul]at this;omega
      case rel=>exact⟨c1,D,next,n+1,S4,L4,rfl,rfl,by go_num,Ya.out,HV4.out,Ww.out,H4.out,vR.out,gY.out⟩
  |none=>
   have HFI:Hid (xB none= -1):=rfl;rw[HFI.out];have HQ:=aa hw;clear hw Z8;by_cases Hv:next <=n
   ·have Tl:SF.dt n next =SF.back 0:=by unfold Sv.dt;rw[aae Hv]
    have th:Hid ((if next <=n then n+64 else next)=n+64):=aae Hv;have KB:=aa (nW w2 L2 SF H2.out 0 HOF.out 0 (by omega));rw[dn.out.1,<-Tl]at KB;have hwn:IntKind.i64.wrap ((n:Int)+64)=(n:Int)+64:=IntWalk.i64_in _ (by omega);have oN:=aa (Sv.ue HOF.out n next);have Wu:=aa (HOF.out.dt n next);clear Tl;go_wp2_with fail;refine KB.out.mono ?_;clear KB;rintro e w3 ⟨rfl,L3,h3,yF,dh⟩;have H3:=aa h3;have iU:=aa (aO.aV dn.out yF cw.out.size);have db:=aa (aO.aQ dn.out cw.out dh);clear h3 yF dh Hv;obtain⟨SR,Ix⟩:∃SR,SF.dt n next =SR:=⟨_,rfl⟩
    rw[Ix]at oN Wu H3;have hq:=HQ.out;rw[Ix]at hq;simp only[th.out]at hq;unfold Sv.zS at hq;obtain⟨-,-,-,-,-,-,-,-,-,-,-,OG,IR,-⟩:=H3.out.cells;rw[iU.out.1]at OG IR;obtain⟨kE,hrl,eE,hrm,Qe,Ek⟩:=oN.out;have Ej: -1152921504606846976<=SR.many/\SR.many<=1152921504606846976:=by rw[hrm];exact⟨Zm,Zl⟩
    have Qc:SR.bQ<=2199023255552:=by rw[Qe];exact Zk
    have vO:Hid (SR.vars=S.vars):=kE.trans X4.out;have HCR:Hid (SR.core=[]):=eE.trans HCF.out;have sV:Hid (SR.T.levels.length<=4398046511104):=aE Ek Su.out;clear Ix kE hrl eE hrm Qe Ek oN HQ;by_cases Mq:(SR.bQ:Int)<SR.many
    ·rw[aae Mq]at hq;have Em:red=true:=by
      cases red with
      |true=>rfl
      |false=>simp at hq
     rw[aae Em]at hq;have GV:decide ((SR.bQ:Int)<SR.many)=true:=aai Mq;have HQ:=aa hq;have Qb:=Ej;clear hq Mq Ej;go_wp2_with fail;go_region;obtain⟨w4,qD⟩:∃w4,World.drew w3=w4:=⟨_,rfl⟩
     have SC:Hid (Fr [] w3 w4):=by rw[<-qD];exact(Fr.refl [] _).drew
     rw[qD];have KR2:=aa (HKR.out Em w4 L3 SR (H3.out.keep SC.out) Wu.out Qb.1 Qb.2);rw[iU.out.1]at KR2;have SD:Hid (Fr (L.own w) w w4):=db.out.ag (SC.out.mono (fun k hk=>by cases hk));clear qD OG IR GV;go_wp2_with fail;refine KR2.out.mono ?_;clear KR2;rintro e w5 ⟨S5,El,rfl,L5,h5,vE,ev⟩;have H5:=aa h5;have oQ:=aa (aO.aV iU.out vE SD.out.size);have kO:=aa (aO.aQ iU.out SD.out ev);have Fp:=aa El;obtain⟨DD,hD1,hD2,hD3,rfl⟩:=El;have Na:=Sv.lp DD SR;have OO:=aa (Sv.Ok.Rp DD SR Wu.out);obtain⟨S5,zj⟩:∃S5,DD.foldl Sv.cg SR=S5:=⟨_,rfl⟩
     rw[zj]at Na OO H5 Fp;have Wj:Hid (S5.vars=S.vars):=Na.2.1.trans vO.out;have Yi:Hid (S5.core=[]):=Na.2.2.2.1.trans HCR.out;have HL5:Hid (S5.T.levels.length<=4398046511104):=by show _<=_;rw[Na.1];exact sV.out
     have Vn:S5.bQ<=2199023255552:=by rw[Na.2.2.2.2.1];exact Qc
     clear h5 vE ev hD1 hD2 hD3 Na zj;obtain⟨-,-,-,-,-,-,-,-,-,-,-,-,IR,-⟩:=H5.out.cells;rw[oQ.out.1]at IR;have f12:=H5.out.obj.frozen 12;rw[oQ.out.1]at f12;obtain⟨lm,ux⟩:∃lm,S5.bQ=lm:=⟨_,rfl⟩
     rw[ux]at IR Vn;have HLM:=aa ux;have Uz:IntKind.i64.wrap (((lm/16:Nat):Int)+1)=((lm/16:Nat):Int)+1:=IntWalk.i64_in _ (by omega);have Og:IntKind.i64.wrap ((lm:Int)+(((lm/16:Nat):Int)+1))=(lm:Int)+(((lm/16:Nat):Int)+1):=IntWalk.i64_in _ (by omega);have Jr:Hid ((lm:Int)+((lm:Int)/16+1)=((lm+(lm/16+1):Nat):Int)):=by show _=_;omega
     obtain⟨g6,f6⟩:=H5.out.qe 12 (.int .i64 ((lm+(lm/16+1):Nat):Int)) S5.fQ (by simp[pM,Sv.fQ,ux]) ⟨rfl,rfl,rfl,rfl,rfl,rfl,rfl⟩;rw[oQ.out.1]at g6 f6;have h6:=g6.keep (Fr.refl [] _).drew;have H6a:=aa h6;have SG:=aa ((aO.aQ oQ.out kO.out f6).drew);clear ux g6 f6 h6;go_upto_region 16 with fail;go_region;rw[Jr.out];obtain⟨w6,uq⟩:∃w6,(w5.setCell ⟨L.a,12,none⟩ (.int .i64 ((lm+(lm/16+1):Nat):Int))).drew=w6:=⟨_,rfl⟩
     rw[uq]at H6a SG⊢;have H6:=H6a;have jo:=SG;have qQ:=oQ;have vh:=aa OO.out.fQ;have Jf:Hid (S5.fQ.vars=S.vars):=Wj.out;have N4:Hid (S5.fQ.core=[]):=Yi.out;have Ft:Hid (S5.fQ.T.levels.length<=4398046511104):=HL5.out;have HQ:=aa (HQ.out S5 Fp.out);obtain⟨S6,zh⟩:∃S6,S5.fQ=S6:=⟨_,rfl⟩
     rw[zh]at HQ H6 vh Jf N4 Ft;clear zh uq IR f12 Uz Og;have KD:=aa (kJ w6 L5 S6 H6.out 0 vh.out A c us (HRD.out.step qQ.out jo.out) (fun x hx=>by have :=Ty.out x hx;rw[Jf.out];exact this) zc N4.out Ft.out);rw[qQ.out.1]at KD;have Hu:=vh.out.aR us;have CH:=aa Hu.1;have Je:Hid ((S6.aR us).1.vars=S.vars):=Hu.2.1.trans Jf.out;have hq:=HQ.out;obtain⟨DS,Q6⟩:∃DS,S6.aR us=DS:=⟨_,rfl⟩
     rw[Q6]at KD CH Je hq;obtain⟨S7,r⟩:=DS;simp only at KD CH Je hq;clear Hu Q6 HQ;go_wp2_with fail;refine KD.out.mono ?_;clear KD;rintro e w7 ⟨rfl,L7,h7,EF,gy⟩;have H7:=aa h7;have CJ:=aa (aO.aV qQ.out EF jo.out.size);have rL:=aa (aO.aQ qQ.out jo.out gy);clear h7 EF gy;by_cases kp:r=0
     ·rw[aae kp]at hq;have u0:(r==(0:Int))=true:=(by simp[kp])
      have HQ:=aa hq;clear hq;go_wp2_with fail;go_roundg (c0*(D+1)+d);case measure=>have :=HG.out;omega
      case rel=>exact⟨c0,d,n+64,n,S7,L7,rfl,by go_num,rfl,HQ.out,Je.out,CH.out,H7.out,CJ.out,rL.out⟩
     ·rw[aac kp]at hq;have u0:(r==(0:Int))=false:=(by simp[kp])
      have FF:Hid (Fi Q L w (.returned (.int .i64 r)) w7):=⟨S7,r,hq,CH.out,rfl,L7,H7.out,CJ.out,rL.out⟩
      clear hq;go_wp2_with fail;go_ret;exact FF.out
    ·rw[aac Mq]at hq;have GV:decide ((SR.bQ:Int)<SR.many)=false:=aah Mq;have HQ:=aa hq;clear hq Mq;go_wp2_with fail;go_region;obtain⟨w6,uq⟩:∃w6,World.drew w3=w6:=⟨_,rfl⟩
     have SD:Hid (Fr [] w3 w6):=by rw[<-uq];exact(Fr.refl [] _).drew
     rw[uq];have H6:=aa (H3.out.keep SD.out);have qQ:=iU;have jo:Hid (Fr (L.own w) w w6):=db.out.ag (SD.out.mono (fun k hk=>by cases hk));have vh:=Wu;have Jf:=vO;have N4:=HCR;have Ft:=sV;obtain⟨S6,zh⟩:∃S6,SR=S6:=⟨_,rfl⟩
     rw[zh]at HQ H6 vh Jf N4 Ft;clear zh uq OG IR GV;have KD:=aa (kJ w6 L3 S6 H6.out 0 vh.out A c us (HRD.out.step qQ.out jo.out) (fun x hx=>by have :=Ty.out x hx;rw[Jf.out];exact this) zc N4.out Ft.out);rw[qQ.out.1]at KD;have Hu:=vh.out.aR us;have CH:=aa Hu.1;have Je:Hid ((S6.aR us).1.vars=S.vars):=Hu.2.1.trans Jf.out;have hq:=HQ.out;obtain⟨DS,Q6⟩:∃DS,S6.aR us=DS:=⟨_,rfl⟩
     rw[Q6]at KD CH Je hq;obtain⟨S7,r⟩:=DS;simp only at KD CH Je hq;clear Hu Q6 HQ;go_wp2_with fail;refine KD.out.mono ?_;clear KD;rintro e w7 ⟨rfl,L7,h7,EF,gy⟩;have H7:=aa h7;have CJ:=aa (aO.aV qQ.out EF jo.out.size);have rL:=aa (aO.aQ qQ.out jo.out gy);clear h7 EF gy;by_cases kp:r=0
     ·rw[aae kp]at hq;have u0:(r==(0:Int))=true:=(by simp[kp])
      have HQ:=aa hq;clear hq;go_wp2_with fail;go_roundg (c0*(D+1)+d);case measure=>have :=HG.out;omega
      case rel=>exact⟨c0,d,n+64,n,S7,L7,rfl,by go_num,rfl,HQ.out,Je.out,CH.out,H7.out,CJ.out,rL.out⟩
     ·rw[aac kp]at hq;have u0:(r==(0:Int))=false:=(by simp[kp])
      have FF:Hid (Fi Q L w (.returned (.int .i64 r)) w7):=⟨S7,r,hq,CH.out,rfl,L7,H7.out,CJ.out,rL.out⟩
      clear hq;go_wp2_with fail;go_ret;exact FF.out
   ·have Tl:SF.dt n next =SF:=by unfold Sv.dt;rw[aac Hv]
    have th:Hid ((if next <=n then n+64 else next)=next):=aac Hv;have oN:=aa (Sv.ue HOF.out n next);have Wu:=aa (HOF.out.dt n next);have H3:Hid (aX w2 L2 (SF.dt n next)):=by rw[Tl];exact H2.out
    clear Tl;obtain⟨SR,Ix⟩:∃SR,SF.dt n next =SR:=⟨_,rfl⟩
    rw[Ix]at oN Wu H3;have hq:=HQ.out;rw[Ix]at hq;simp only[th.out]at hq;unfold Sv.zS at hq;obtain⟨-,-,-,-,-,-,-,-,-,-,-,OG,IR,-⟩:=H3.out.cells;rw[dn.out.1]at OG IR;obtain⟨kE,hrl,eE,hrm,Qe,Ek⟩:=oN.out;have Ej: -1152921504606846976<=SR.many/\SR.many<=1152921504606846976:=by rw[hrm];exact⟨Zm,Zl⟩
    have Qc:SR.bQ<=2199023255552:=by rw[Qe];exact Zk
    have vO:Hid (SR.vars=S.vars):=kE.trans X4.out;have HCR:Hid (SR.core=[]):=eE.trans HCF.out;have sV:Hid (SR.T.levels.length<=4398046511104):=aE Ek Su.out;clear Ix kE hrl eE hrm Qe Ek oN HQ;by_cases Mq:(SR.bQ:Int)<SR.many
    ·rw[aae Mq]at hq;have Em:red=true:=by
      cases red with
      |true=>rfl
      |false=>simp at hq
     rw[aae Em]at hq;have GV:decide ((SR.bQ:Int)<SR.many)=true:=aai Mq;have HQ:=aa hq;have Qb:=Ej;clear hq Mq Ej;go_wp2_with fail;go_region;obtain⟨w4,qD⟩:∃w4,World.drew w2=w4:=⟨_,rfl⟩
     have SC:Hid (Fr [] w2 w4):=by rw[<-qD];exact(Fr.refl [] _).drew
     rw[qD];have KR2:=aa (HKR.out Em w4 L2 SR (H3.out.keep SC.out) Wu.out Qb.1 Qb.2);rw[dn.out.1]at KR2;have SD:Hid (Fr (L.own w) w w4):=cw.out.ag (SC.out.mono (fun k hk=>by cases hk));clear qD OG IR GV;go_wp2_with fail;refine KR2.out.mono ?_;clear KR2;rintro e w5 ⟨S5,El,rfl,L5,h5,vE,ev⟩;have H5:=aa h5;have oQ:=aa (aO.aV dn.out vE SD.out.size);have kO:=aa (aO.aQ dn.out SD.out ev);have Fp:=aa El;obtain⟨DD,hD1,hD2,hD3,rfl⟩:=El;have Na:=Sv.lp DD SR;have OO:=aa (Sv.Ok.Rp DD SR Wu.out);obtain⟨S5,zj⟩:∃S5,DD.foldl Sv.cg SR=S5:=⟨_,rfl⟩
     rw[zj]at Na OO H5 Fp;have Wj:Hid (S5.vars=S.vars):=Na.2.1.trans vO.out;have Yi:Hid (S5.core=[]):=Na.2.2.2.1.trans HCR.out;have HL5:Hid (S5.T.levels.length<=4398046511104):=by show _<=_;rw[Na.1];exact sV.out
     have Vn:S5.bQ<=2199023255552:=by rw[Na.2.2.2.2.1];exact Qc
     clear h5 vE ev hD1 hD2 hD3 Na zj;obtain⟨-,-,-,-,-,-,-,-,-,-,-,-,IR,-⟩:=H5.out.cells;rw[oQ.out.1]at IR;have f12:=H5.out.obj.frozen 12;rw[oQ.out.1]at f12;obtain⟨lm,ux⟩:∃lm,S5.bQ=lm:=⟨_,rfl⟩
     rw[ux]at IR Vn;have HLM:=aa ux;have Uz:IntKind.i64.wrap (((lm/16:Nat):Int)+1)=((lm/16:Nat):Int)+1:=IntWalk.i64_in _ (by omega);have Og:IntKind.i64.wrap ((lm:Int)+(((lm/16:Nat):Int)+1))=(lm:Int)+(((lm/16:Nat):Int)+1):=IntWalk.i64_in _ (by omega);have Jr:Hid ((lm:Int)+((lm:Int)/16+1)=((lm+(lm/16+1):Nat):Int)):=by show _=_;omega
     obtain⟨g6,f6⟩:=H5.out.qe 12 (.int .i64 ((lm+(lm/16+1):Nat):Int)) S5.fQ (by simp[pM,Sv.fQ,ux]) ⟨rfl,rfl,rfl,rfl,rfl,rfl,rfl⟩;rw[oQ.out.1]at g6 f6;have h6:=g6.keep (Fr.refl [] _).drew;have H6a:=aa h6;have SG:=aa ((aO.aQ oQ.out kO.out f6).drew);clear ux g6 f6 h6;go_upto_region 16 with fail;go_region;rw[Jr.out];obtain⟨w6,uq⟩:∃w6,(w5.setCell ⟨L.a,12,none⟩ (.int .i64 ((lm+(lm/16+1):Nat):Int))).drew=w6:=⟨_,rfl⟩
     rw[uq]at H6a SG⊢;have H6:=H6a;have jo:=SG;have qQ:=oQ;have vh:=aa OO.out.fQ;have Jf:Hid (S5.fQ.vars=S.vars):=Wj.out;have N4:Hid (S5.fQ.core=[]):=Yi.out;have Ft:Hid (S5.fQ.T.levels.length<=4398046511104):=HL5.out;have HQ:=aa (HQ.out S5 Fp.out);obtain⟨S6,zh⟩:∃S6,S5.fQ=S6:=⟨_,rfl⟩
     rw[zh]at HQ H6 vh Jf N4 Ft;clear zh uq IR f12 Uz Og;have KD:=aa (kJ w6 L5 S6 H6.out 0 vh.out A c us (HRD.out.step qQ.out jo.out) (fun x hx=>by have :=Ty.out x hx;rw[Jf.out];exact this) zc N4.out Ft.out);rw[qQ.out.1]at KD;have Hu:=vh.out.aR us;have CH:=aa Hu.1;have Je:Hid ((S6.aR us).1.vars=S.vars):=Hu.2.1.trans Jf.out;have hq:=HQ.out;obtain⟨DS,Q6⟩:∃DS,S6.aR us=DS:=⟨_,rfl⟩
     rw[Q6]at KD CH Je hq;obtain⟨S7,r⟩:=DS;simp only at KD CH Je hq;clear Hu Q6 HQ;go_wp2_with fail;refine KD.out.mono ?_;clear KD;rintro e w7 ⟨rfl,L7,h7,EF,gy⟩;have H7:=aa h7;have CJ:=aa (aO.aV qQ.out EF jo.out.size);have rL:=aa (aO.aQ qQ.out jo.out gy);clear h7 EF gy;by_cases kp:r=0
     ·rw[aae kp]at hq;have u0:(r==(0:Int))=true:=(by simp[kp])
      have HQ:=aa hq;clear hq;go_wp2_with fail;go_roundg (c0*(D+1)+d);case measure=>have :=HG.out;omega
      case rel=>exact⟨c0,d,next,n,S7,L7,rfl,rfl,rfl,HQ.out,Je.out,CH.out,H7.out,CJ.out,rL.out⟩
     ·rw[aac kp]at hq;have u0:(r==(0:Int))=false:=(by simp[kp])
      have FF:Hid (Fi Q L w (.returned (.int .i64 r)) w7):=⟨S7,r,hq,CH.out,rfl,L7,H7.out,CJ.out,rL.out⟩
      clear hq;go_wp2_with fail;go_ret;exact FF.out
    ·rw[aac Mq]at hq;have GV:decide ((SR.bQ:Int)<SR.many)=false:=aah Mq;have HQ:=aa hq;clear hq Mq;go_wp2_with fail;go_region;obtain⟨w6,uq⟩:∃w6,World.drew w2=w6:=⟨_,rfl⟩
     have SD:Hid (Fr [] w2 w6):=by rw[<-uq];exact(Fr.refl [] _).drew
     rw[uq];have H6:=aa (H3.out.keep SD.out);have qQ:=dn;have jo:Hid (Fr (L.own w) w w6):=cw.out.ag (SD.out.mono (fun k hk=>by cases hk));have vh:=Wu;have Jf:=vO;have N4:=HCR;have Ft:=sV;obtain⟨S6,zh⟩:∃S6,SR=S6:=⟨_,rfl⟩
     rw[zh]at HQ H6 vh Jf N4 Ft;clear zh uq OG IR GV;have KD:=aa (kJ w6 L2 S6 H6.out 0 vh.out A c us (HRD.out.step qQ.out jo.out) (fun x hx=>by have :=Ty.out x hx;rw[Jf.out];exact this) zc N4.out Ft.out);rw[qQ.out.1]at KD;have Hu:=vh.out.aR us;have CH:=aa Hu.1;have Je:Hid ((S6.aR us).1.vars=S.vars):=Hu.2.1.trans Jf.out;have hq:=HQ.out;obtain⟨DS,Q6⟩:∃DS,S6.aR us=DS:=⟨_,rfl⟩
     rw[Q6]at KD CH Je hq;obtain⟨S7,r⟩:=DS;simp only at KD CH Je hq;clear Hu Q6 HQ;go_wp2_with fail;refine KD.out.mono ?_;clear KD;rintro e w7 ⟨rfl,L7,h7,EF,gy⟩;have H7:=aa h7;have CJ:=aa (aO.aV qQ.out EF jo.out.size);have rL:=aa (aO.aQ qQ.out jo.out gy);clear h7 EF gy;by_cases kp:r=0
     ·rw[aae kp]at hq;have u0:(r==(0:Int))=true:=(by simp[kp])
      have HQ:=aa hq;clear hq;go_wp2_with fail;go_roundg (c0*(D+1)+d);case measure=>have :=HG.out;omega
      case rel=>exact⟨c0,d,next,n,S7,L7,rfl,rfl,rfl,HQ.out,Je.out,CH.out,H7.out,CJ.out,rL.out⟩
     ·rw[aac kp]at hq;have u0:(r==(0:Int))=false:=(by simp[kp])
      have FF:Hid (Fi Q L w (.returned (.int .i64 r)) w7):=⟨S7,r,hq,CH.out,rfl,L7,H7.out,CJ.out,rL.out⟩
      clear hq;go_wp2_with fail;go_ret;exact FF.out
def zi (n:Nat):List Value:=(Builtin.zeroCells #[.int .i64 0] n).toList
theorem Yn (n:Nat):∀v∈zi n,v.oneCell'=true:=by intro v hv;simp only[zi,Builtin.zeroCells,Array.toList_map,aG]at hv;obtain⟨i,_,rfl⟩:=hv;simp[Nat.mod_one];rfl
theorem Lp (n:Nat):(zi n).length=n:=by simp[zi,Builtin.zeroCells]
theorem yV (w:World)(g o c ty n:Nat)(w':World)(h:(storeCells ⟨g,o,none⟩ (zi (n+1))).run Tryz.prog w= .ok () w'):
  (Builtin.clear_ #[22] ty #[.slice (some ⟨g,o,none⟩) (n+1) c]).run Tryz.prog w= .ok (.tuple #[]) w':=by
 simp only[zi]at h;simp only[Builtin.clear_,go_sem];simp[h,run_underlying Tryz.underlying22]
theorem o4 (w:World)(g c i ty c':Nat)(xs:List Int)(h:Ints w (some ⟨g,0,none⟩) c xs)(hi:i<xs.length):
  ∃w',(Builtin.clear_ #[22] ty #[.slice (some ⟨g,i,none⟩) (xs.length-i) c']).run Tryz.prog w= .ok (.tuple #[]) w'/\Ints w' (some ⟨g,0,none⟩) c (xs.take i)/\Fr [g] w w':=by
 have hl:=h.1;rcases h.2 with⟨h1,_⟩ |⟨g',cap,cur,hv,hb,hg,hn,hm,hs,ht⟩
 ·cases h1
 ·simp only[Value.slice.injEq,Option.some.injEq,Addr.mk.injEq,and_true,true_and]at hv;obtain⟨rfl,rfl⟩:=hv;have hz:=Lp (xs.length-i);have gU:=run_storeCells_at (P:=Tryz.prog) g i 3 (zi (xs.length-i)) 0 cur w hg (by rw[hz,Nat.add_zero,hs];omega) (Yn _);obtain⟨m,sm⟩:∃m,xs.length-i=m+1:=⟨xs.length-i-1,by omega⟩
  obtain⟨new,lF⟩:∃new,cur.toList.take (i+0)++zi (xs.length-i)++cur.toList.drop (i+0+(zi (xs.length-i)).length)=new:=⟨_,rfl⟩
  rw[lF]at gU;have hlen:new.length=c:=by rw[<-lF];simp only[aj,bp,List.length_drop,hz,Array.length_toList,hs];omega
  have An:new.take i=(xs.take i).map (Value.int .i64):=by rw[List.map_take,<-ht,<-lF,List.take_take,jP,Nat.add_zero,mY (by rw[bp,Array.length_toList,hs];omega),List.take_take];congr 1;omega
  clear lF;refine⟨w.setRow g new.toArray,?_,?_,?_⟩
  ·rw[sm]at gU⊢;exact yV _ _ _ _ _ _ _ gU
  ·have Vn:(xs.take i).length=i:=by rw[bp];omega
   refine⟨by simp, .inr ⟨g,c,new.toArray,rfl,hb,setRow_heap w g cur _ _ _ hg,by omega,hm,by rw[List.size_toArray,hlen];omega,?_⟩⟩;rw[Vn];simpa using An
  ·refine⟨rfl,rfl,rfl,by simp,fun k _ hk=>setRow_other _ _ _ _ (fun e=>hk (by simp[e]))⟩
theorem Ra.set {xs:List Int}(h:Ra xs)(i:Nat){x:Int}(hx:eh x):Ra (xs.set i x):=by
 refine(eD (p:=eh)).2 fun y hy=> ?_;rcases List.mem_or_eq_of_mem_set hy with h1 |h1
 ·exact(eD (p:=eh)).1 h y h1
 ·rw[h1];exact hx
theorem Ra.sub {xs ys:List Int}(h:Ra xs)(hs:∀y∈ys,y∈xs):Ra ys:=(eD (p:=eh)).2 fun y hy=>(eD (p:=eh)).1 h y (hs y hy)
def Lo (F:List Nat)(w:World)(g:Nat)(cb:Array Value)(p:Int->Bool)(xs:List Int):Prop:=∀W,Fr F w W->∀x,x∈xs->eh x->
 Calls Tryz.prog g (#[.int .i64 x]++cb) W fun e w'=>e= .returned (.bool (p x))/\Fr [] W w'
theorem Lo.less {F:List Nat}{w:World}{g:Nat}{cb:Array Value}{p:Int->Bool}{xs:List Int}(h:Lo F w g cb p xs):WQ w g cb p xs:=fun W hW x hx hr=>h W (hW.mono (fun k hk=>by cases hk)) x hx hr
def IxF (p:Int->Bool)(xs:List Int)(w:World)(e:Ending)(w':World):Prop:=
 ((e= .returned (.int .i64 (-1))/\∀x∈xs,p x=false)\/∃n:Nat,e= .returned (.int .i64 n)/\n<xs.length/\p xs[n]! =true/\dF xs p n)/\Fr [] w w'
theorem index_first (w:World)(A:Option Addr)(c:Nat)(xs:List Int)(g:Nat)(cb:Array Value)(p:Int->Bool)(eg:∀args w,(callFunc g args).run Tryz.prog w= .ok (.enter g args) w)(h:Rd w A xs)(hr:Ra xs)(hl:xs.length<=17592186044416)(hp:WQ w g cb p xs):
  Calls Tryz.prog 97 #[.slice A xs.length c, .func (.func g) #[] cb] w (IxF p xs w):=by
 have HH:=aa h;have HR:=aa hr;have HP:=aa hp;have oh:Hid (∀(n:Nat) W,n<xs.length->p xs[n]! =true->dF xs p n->Fr [] w W->IxF p xs w (.returned (.int .i64 (n:Int))) W):=fun n W h1 h2 h3 h4=>⟨.inr ⟨n,rfl,h1,h2,h3⟩,h4⟩
 have NO:Hid (∀W,dF xs p xs.length->Fr [] w W->IxF p xs w (.returned (.int .i64 (-1))) W):=fun W h2 h3=>⟨.inl ⟨rfl,(eD (p:=fun x=>p x=false)).1 (fun j hj=>h2 j hj)⟩,h3⟩
 clear h hr hp;go_enter Tryz.func97,Tryz.ntmps97;go_wp2_with fail;go_loopg [8] xs.length (fun g i wr=>∃k:Nat,k+g=xs.length/\i= .int .i64 k/\Fr [] w wr/\dF xs p k);case atStart=>exact⟨0,by omega,rfl,Fr.refl _ _,dF.zero _ _⟩
 case round=>
  obtain⟨k,hk,rfl,hx,hn⟩:=hrel;have HK:=aa hk;have HX:=aa hx;have HN:=aa hn;have jg:k<=xs.length:=by omega
  clear hk hx hn;by_cases bw:k<xs.length
  ·obtain⟨b,o,x,hA,he,cx,fN,gd⟩:=(HH.out.keep HX.out).one HR.out bw;subst hA;obtain⟨q,HQ⟩:∃q,Hid (p x=q):=⟨_,rfl⟩
   have HC:=aa (HP.out wr HX.out x (by rw[<-he.out];exact a8 bw) ⟨fN,gd⟩);go_wp2_with fail;refine HC.out.mono ?_;rw[HQ.out];rintro e w2 ⟨rfl,hf⟩;have HF:=aa (HX.out.ag hf);clear hf;cases q with
   |true=>
    go_wp2_with fail;go_ret;exact oh.out k _ bw (by rw[he.out];exact HQ.out) HN.out HF.out
   |false=>
    go_wp2_with fail;go_roundg (gk-1);case measure=>have :=HK.out;omega
    case rel=>exact⟨k+1,by have :=HK.out;omega,by go_num,HF.out,HN.out.step (by rw[he.out];exact HQ.out)⟩
  ·obtain rfl :k=xs.length:=by omega
   clear HK;go_wp2_with fail;go_ret;exact NO.out _ HN.out HX.out
def Fj (ys:List Int)(A:Option Addr)(c:Nat)(w:World)(e:Ending)(w':World):Prop:=e= .returned (.slice A ys.length c)/\Ints w' A c ys/\Fr (ak A) w w'
theorem Nq {xs:List Int}{p:Int->Bool}{n:Nat}(h:dF xs p n):(xs.take n).filter (fun x=> !p x)=xs.take n:=by rw[List.filter_eq_self];intro x hx;obtain⟨j,hj,e⟩:=List.mem_iff_getElem.1 hx;rw[bp]at hj;rw[List.getElem_take]at e;have :=h j (by omega);rw[ae,af (by omega),ay,e]at this;simp[this]
theorem Az (xs:List Int)(p:Int->Bool){j:Nat}(hj:j<xs.length):(xs.take (j+1)).filter (fun x=> !p x)=(xs.take j).filter (fun x=> !p x)++(if p xs[j]! =true then[]else[xs[j]!]):=by rw[List.take_add_one,List.filter_append,af hj,fI];congr 1;simp only[ae,af hj,ay];by_cases h:p xs[j]=true<;>simp[h]
theorem Du (L:List Int)(i:Nat)(x:Int)(h:i<L.length):(L.set i x).take (i+1)=L.take i++[x]:=by rw[List.take_add_one,List.take_set_of_le (ap _),List.getElem?_set_self h];rfl
theorem xx {L:List Int}{i k:Nat}{x:Int}(h:i<k):(L.set i x)[k]! =L[k]! :=by simp only[ae];rw[List.getElem?_set_ne (by omega)]
theorem Cf (w:World)(g c:Nat)(xs:List Int)(f:Nat)(cb:Array Value)(p:Int->Bool)(eg:∀args w,(callFunc f args).run Tryz.prog w= .ok (.enter f args) w)(h:Ints w (some ⟨g,0,none⟩) c xs)(hr:Ra xs)(hl:xs.length<=17592186044416)(hp:Lo [g] w f cb p xs):
  Calls Tryz.prog 85 #[.slice (some ⟨g,0,none⟩) xs.length c, .func (.func f) #[] cb] w (Fj (xs.filter fun x=> !p x) (some ⟨g,0,none⟩) c w):=by
 have HH:=aa h;have HR:=aa hr;have HP:=aa hp;have EI:xs.length<=c/\c<=maxLen:=by
  rcases h.form with⟨h1,_⟩ |⟨g',h1,_,h2,h3⟩
  ·cases h1
  ·exact⟨h2,h3⟩
 have EJ:=EI.2;have EI:=EI.1;rw[maxLen]at EJ;obtain⟨R,hR⟩:∃R,xs.filter (fun x=> !p x)=R:=⟨_,rfl⟩
 have Sc:=aa hR;rw[hR];have NO:Hid (R=xs->∀W,Fr [] w W->Fj R (some ⟨g,0,none⟩) c w (.returned (.slice (some ⟨g,0,none⟩) xs.length c)) W):=fun e W h2=>by subst e;exact⟨rfl,HH.out.fr h2 (by simp),h2.mono (by simp)⟩
 have oh:Hid (∀(i:Nat) (L:List Int) W W',i<L.length->L.take i=R->Fr [g] w W->Ints W' (some ⟨g,0,none⟩) c (L.take i)->Fr [g] W W'->Fj R (some ⟨g,0,none⟩) c w (.returned (.slice (some ⟨g,0,none⟩) i c)) W'):=fun i L W W' h1 h2 h4 h5 h6=>by
  have hi:(L.take i).length=i:=by rw[bp];omega
  rw[<-h2];exact⟨by rw[hi],h5,by simpa[ak]using h4.ag h6⟩
 have HI:=aa (index_first w (some ⟨g,0,none⟩) c xs f cb p eg h.rd hr hl hp.less);clear h hr hp hR;go_enter Tryz.func85,Tryz.ntmps85;go_wp2_with fail;refine HI.out.mono ?_;rintro e w1 ⟨hc,cX⟩;have dI:=aa cX;clear cX;rcases hc with⟨rfl,ip⟩ |⟨n,rfl,hn,Xt,rE⟩
 ·have FE:Hid (R=xs):=by rw[<-Sc.out];exact List.filter_eq_self.2 (fun x hx=>by simp[ip x hx])
  clear ip;go_wp2_with fail;go_ret;exact NO.out FE.out _ dI.out
 ·have HO0:=aa (HH.out.fr dI.out (by simp));have HNE:Hid (((n:Int)== -1)=false):=(aar.2 (by omega):((n:Int)== -1)=false)
  have HS0:Hid (xs.take n=(xs.take (n+1)).filter (fun x=> !p x)):=by show xs.take n=_;rw[Az xs p hn,Xt,Nq rE];simp
  clear Xt rE;go_wp2_with fail;go_loopg [5,6] (xs.length-(n+1)) (fun gk x5 x6 wr=>∃(i j:Nat) (L:List Int),j+gk=xs.length/\x5= .int .i64 i/\x6= .int .i64 j/\i<j/\L.length=xs.length/\Ra L/\Hid (L.take i=(xs.take j).filter (fun x=> !p x))/\Hid (∀k:Nat,j<=k->L[k]! =xs[k]!)/\Ints wr (some ⟨g,0,none⟩) c L/\Fr [g] w wr);case atStart=>exact⟨n,n+1,xs,by omega,rfl,by go_num,by omega,rfl,HR.out,HS0.out,fun _ _=>rfl,HO0.out,dI.out.mono (by simp)⟩
  case round=>
   obtain⟨i,j,L,hk,rfl,rfl,tM,hLl,hLr,HT,HG,ho,hf⟩:=hrel;have HK:=aa hk;have HO:=aa ho;have HF:=aa hf;have sV:=aa hLr;have M1:j<=xs.length:=by omega
   have pB:=aa hLl;clear hk ho hf HO0 dI hLr hLl;by_cases bw:j<xs.length
   ·obtain⟨b,o,x,hA,he,cx,fN,gd⟩:=(HO.out.rd).one sV.out (j:=j) (by rw[pB.out];exact bw);simp only[Option.some.injEq,Addr.mk.injEq,and_true]at hA;obtain⟨rfl,rfl⟩:=hA;rw[da]at cx;have HX:Hid (xs[j]! =x):=(HG.out j (ap _)).symm.trans he.out;obtain⟨q,HQ⟩:∃q:Bool,Hid (p x=q):=⟨p x,aa rfl⟩
    have HC:=aa (HP.out wr HF.out x (by rw[<-HX.out];exact a8 bw) ⟨fN,gd⟩);rw[HQ.out]at HC;have mE:Hid ((xs.take (j+1)).filter (fun x=> !p x)=L.take i++if q=true then[]else[x]):=by show _=_;rw[Az xs p bw,HX.out,HQ.out,HT.out]
    go_wp2_with fail;refine HC.out.mono ?_;clear HC cx;rintro e w3 ⟨rfl,hf⟩;have db:Hid (Fr [g] w w3):=HF.out.ag (hf.mono (by simp));have ua:=aa (HO.out.fr hf (by simp));clear HF HO hf;cases q with
    |true=>
     go_wp2_with fail;go_roundg (gk-1);case measure=>have :=HK.out;omega
     case rel=>exact⟨i,j+1,L,by have :=HK.out;omega,rfl,by go_num,by omega,pB.out,sV.out,by show _=_;rw[mE.out];simp,fun k hk=>HG.out k (by omega),ua.out,db.out⟩
    |false=>
     have hiL:i<L.length:=by rw[pB.out];omega
     have f0:=ua.out.frozen i;have c0:=ua.out.cell hiL;go_wp2_with fail;go_roundg (gk-1);case measure=>have :=HK.out;omega
     case rel=>exact⟨i+1,j+1,L.set i x,by have :=HK.out;omega,by go_num,by go_num,by omega,by rw[ao];exact pB.out,sV.out.set i ⟨fN,gd⟩,by show _=_;rw[mE.out,Du _ _ _ hiL];simp,fun k hk=>(xx (by omega)).trans (HG.out k (by omega)),ua.out.eu i x,db.out.setCell (.inl (by simp)) _⟩
   ·obtain rfl :j=xs.length:=by omega
    have QT:=o4 wr g c i 0 (c-i) L HO.out (by rw[pB.out];exact tM);rw[pB.out]at QT;obtain⟨w2,od,rm,bW⟩:=QT;have HTR:Hid (L.take i=R):=by show _=_;rw[HT.out,cN];exact Sc.out
    go_wp2_with fail;go_ret;exact oh.out i L wr _ (by rw[pB.out];exact tM) HTR.out HF.out rm bW
theorem xO (w:World)(A:Option Addr)(c:Nat)(xs:List Int)(f:Nat)(cb:Array Value)(p:Int->Bool)(eg:∀args w,(callFunc f args).run Tryz.prog w= .ok (.enter f args) w)(h:Ints w A c xs)(hr:Ra xs)(hl:xs.length<=17592186044416)(hp:Lo (ak A) w f cb p xs):
  Calls Tryz.prog 85 #[.slice A xs.length c, .func (.func f) #[] cb] w (Fj (xs.filter fun x=> !p x) A c w):=by
 rcases h.form with⟨rfl,rfl,rfl⟩ |⟨g,rfl,_⟩
 ·have HI:=aa (index_first w none 0 [] f cb p eg (fun h=>absurd h (aI _)) hr (by simp) hp.less);have HH:=aa h;clear h hp;go_enter Tryz.func85,Tryz.ntmps85;go_wp2_with fail;refine HI.out.mono ?_;rintro e w1 ⟨hc,cX⟩;rcases hc with⟨rfl,_⟩ |⟨n,rfl,hn,_⟩
  ·have HF:=aa cX;clear cX;go_wp2_with fail;go_ret;exact⟨rfl,HH.out.fr HF.out (by simp),HF.out.mono (by simp)⟩
  ·exact absurd hn (aI _)
 ·exact Cf w g c xs f cb p eg h hr hl (by simpa[ak]using hp)
def gG (xs:List Int):Nat->List Int
 |0=>[]
 |k+1=>if k=0\/xs[k]! ≠xs[k-1]! then gG xs k++[xs[k]!]else gG xs k
def XS (xs:List Int):List Int:=gG xs xs.length
theorem Kw {xs:List Int}{k:Nat}(h:xs[k+1]! ≠xs[k]!):gG xs (k+2)=gG xs (k+1)++[xs[k+1]!]:=by rw[gG.eq_2,aae (.inr h)]
theorem Kv {xs:List Int}{k:Nat}(h:xs[k+1]! =xs[k]!):gG xs (k+2)=gG xs (k+1):=by
 rw[gG.eq_2,aac];rintro(h1 |h1)
 ·omega
 ·exact h1 h
theorem zT {xs:List Int}{k:Nat}(h:k<xs.length):xs.take (k+1)=xs.take k++[xs[k]!]:=by rw[List.take_add_one,af h,fI];simp only[ae,af h,ay]
theorem Ku (xs:List Int)(h:0<xs.length):gG xs 1=xs.take 1:=by rw[zT h];simp[gG]
theorem zq (w:World)(g c:Nat)(xs:List Int)(h:Ints w (some ⟨g,0,none⟩) c xs)(hr:Ra xs)(hl:xs.length<=17592186044416):
  Calls Tryz.prog 123 #[.slice (some ⟨g,0,none⟩) xs.length c] w (Fj (XS xs) (some ⟨g,0,none⟩) c w):=by
 have HH:=aa h;have HR:=aa hr;have EI:xs.length<=c/\c<=maxLen:=by
  rcases h.form with⟨h1,_⟩ |⟨g',h1,_,h2,h3⟩
  ·cases h1
  ·exact⟨h2,h3⟩
 have EJ:=EI.2;have EI:=EI.1;rw[maxLen]at EJ;have NO:Hid (gG xs xs.length=xs->∀W,Fr [] w W->Fj (XS xs) (some ⟨g,0,none⟩) c w (.returned (.slice (some ⟨g,0,none⟩) xs.length c)) W):=fun e W h2=>by unfold XS;rw[e];exact⟨rfl,HH.out.fr h2 (by simp),h2.mono (by simp)⟩
 have oh:Hid (∀(i:Nat) (L:List Int) W W',i<L.length->L.take i=gG xs xs.length->Fr [g] w W->Ints W' (some ⟨g,0,none⟩) c (L.take i)->Fr [g] W W'->Fj (XS xs) (some ⟨g,0,none⟩) c w (.returned (.slice (some ⟨g,0,none⟩) i c)) W'):=fun i L W W' h1 h2 h4 h5 h6=>by
  have hi:(L.take i).length=i:=by rw[bp];omega
  unfold XS;rw[<-h2];exact⟨by rw[hi],h5,by simpa[ak]using h4.ag h6⟩
 clear h hr;by_cases h2:xs.length<2
 ·have d2:decide ((xs.length:Int)<2)=true:=aai (by omega);go_enter Tryz.func123,Tryz.ntmps123;go_wp2_with fail;go_ret;exact NO.out (by
   rcases bv 0 xs.length with h0 |h0
   ·have e:xs.length=1:=by omega
    rw[e,Ku xs h0];exact dC (by omega)
   ·have e:xs.length=0:=by omega
    rw[e];exact(aP e).symm) _ (Fr.refl _ _)
 ·have d2:decide ((xs.length:Int)<2)=false:=aah (by omega);go_enter Tryz.func123,Tryz.ntmps123;go_wp2_with fail;go_loopg [3] (xs.length-1) (fun gk x3 wr=>∃j:Nat,j+1+gk=xs.length/\x3= .int .i64 ((j+1:Nat):Int)/\Hid (gG xs (j+1)=xs.take (j+1))/\Fr [] w wr);case atStart=>exact⟨0,by omega,rfl,Ku xs (by omega),Fr.refl _ _⟩
  case round=>
   obtain⟨j,hk,rfl,HD,hf⟩:=hrel;have HK:=aa hk;have HF:=aa hf;have HO:=aa (HH.out.fr hf (by simp));have To:j+1<=xs.length:=by omega
   clear hk hf;by_cases bw:j+1<xs.length
   ·obtain⟨b,o,x,hA,he,cx,fN,gd⟩:=(HO.out.rd).one HR.out bw;obtain⟨b',o',x',CT,eK,Ru,YU,adx⟩:=(HO.out.rd).one HR.out (j:=j) (by omega);simp only[Option.some.injEq,Addr.mk.injEq,and_true]at hA CT;obtain⟨rfl,rfl⟩:=hA;obtain⟨rfl,rfl⟩:=CT;rw[da]at cx Ru;have e1:=Ext.cell cx;have e2:=Ext.cell Ru;obtain⟨q,HQ⟩:∃q:Bool,Hid ((x==x')=q):=⟨(x==x'),aa rfl⟩
    have hq:=HQ.out;have dP:IntKind.i64.wrap (((j+1:Nat):Int)-1)=(j:Int):=by rw[IntKind.wrap_i64];omega
    cases q with
    |false=>
     have Wx:Hid (gG xs (j+1+1)=xs.take (j+1+1)):=by show _=_;rw[Kw (by rw[he.out,eK.out];exact fun e=>by have :=HQ.out;simp[e]at this),HD.out,zT bw]
     go_wp2_with fail;refine au (by kernel_rfl) (by kernel_rfl) ?_;repeat (go_big_quiet_step (fail))
     refine aak ?_;rintro w2 ⟨u2,b8⟩;have bj:Hid (Fr [] wr w2):=b8▸u2.fr;clear b8 u2;clear cx Ru e1 e2;go_wp2_with fail;go_roundg (gk-1);case measure=>have :=HK.out;omega
     case rel=>exact⟨j+1,by have :=HK.out;omega,by go_num,Wx.out,HF.out.ag bj.out⟩
    |true=>
     have Sg:Hid (xs.take (j+1)=gG xs (j+1+0+1)):=by show _=_;rw[Nat.add_zero,Kv (by rw[he.out,eK.out];exact beq_iff_eq.1 HQ.out),HD.out]
     go_wp2_with fail;refine au (by kernel_rfl) (by kernel_rfl) ?_;repeat (go_big_quiet_step (fail))
     refine aak ?_;rintro w2 ⟨u2,b8⟩;have bj:Hid (Fr [] wr w2):=b8▸u2.fr;clear b8 u2;clear cx Ru e1 e2 hq dP;have vk:=aa (HO.out.fr bj.out (by simp));have cw:=aa (HF.out.ag bj.out);clear HO HF bj;go_wp2_with fail;generalize hM2:xs.length-(j+1)=M2;go_loopg [3,5] (M2-1) (fun gk x3 x5 wr=>∃(k m:Nat) (L:List Int),m+1+gk=M2/\x3= .int .i64 k/\x5= .int .i64 ((m+1:Nat):Int)/\j+1<=k/\k<j+1+(m+1)/\L.length=xs.length/\Ra L/\Hid (L.take k=gG xs (j+1+m+1))/\Hid (∀q:Nat,j+1+m<=q->L[q]! =xs[q]!)/\Ints wr (some ⟨g,0,none⟩) c L/\Fr [g] w wr);case atStart=>exact⟨j+1,0,xs,by omega,by go_num,by go_num,by omega,by omega,rfl,HR.out,Sg.out,fun _ _=>rfl,vk.out,cw.out.mono (by simp)⟩
     case round=>
      obtain⟨k,m,L,hk,rfl,rfl,Id,Tn,hLl,hLr,HT,HG,ho,hf⟩:=hrel;have HK:=aa hk;have HF:=aa hf;have HO:=aa ho;have pB:=aa hLl;have sV:=aa hLr;have Xz:m+1<=M2:=(by omega)
      clear hk hf ho hLl hLr vk cw;by_cases ml:m+1<M2
      ·obtain⟨b,o,y,hA,he,cy,iP,lE⟩:=(HO.out.rd).one sV.out (j:=j+1+(m+1)) (by rw[pB.out];omega);obtain⟨b',o',y',CT,eK,rH,aj8,aj7⟩:=(HO.out.rd).one sV.out (j:=j+1+m) (by rw[pB.out];omega);simp only[Option.some.injEq,Addr.mk.injEq,and_true]at hA CT;obtain⟨rfl,rfl⟩:=hA;obtain⟨rfl,rfl⟩:=CT;rw[da]at cy rH;have e1:=Ext.cell cy;have e2:=Ext.cell rH;have dP:IntKind.i64.wrap (((m+1:Nat):Int)-1)=(m:Int):=by rw[IntKind.wrap_i64];omega
       obtain⟨q,HQ⟩:∃q:Bool,Hid ((y !=y')=q):=⟨(y !=y'),aa rfl⟩
       have hq:=HQ.out;have jH:Hid (xs[j+1+m+1]! =y):=(HG.out (j+1+m+1) (by omega)).symm.trans he.out;have gh:Hid (xs[j+1+m]! =y'):=(HG.out (j+1+m) (ap _)).symm.trans eK.out;cases q with
       |false=>
        have HS:Hid (L.take k=gG xs (j+1+(m+1)+1)):=by show _=_;rw[HT.out,show j+1+(m+1)+1=j+1+m+2 from by omega,Kv (by rw[jH.out,gh.out];have :=HQ.out;simpa using this)]
        go_wp2_with fail;refine au (by kernel_rfl) (by kernel_rfl) ?_;repeat (go_big_quiet_step (fail))
        refine aak ?_;rintro w2 ⟨u2,b8⟩;have bj:Hid (Fr [] wr w2):=b8▸u2.fr;clear b8 u2;clear cy rH e1 e2;go_wp2_with fail;go_roundg (gk-1);case measure=>have :=HK.out;omega
        case rel=>exact⟨k,m+1,L,by have :=HK.out;omega,rfl,by go_num,Id,by omega,pB.out,sV.out,HS.out,fun q hq=>HG.out q (by omega),HO.out.fr bj.out (by simp),HF.out.ag (bj.out.mono (by simp))⟩
       |true=>
        have hkL:k<L.length:=by rw[pB.out];omega
        have HS:Hid ((L.set k y).take (k+1)=gG xs (j+1+(m+1)+1)):=by show _=_;rw[Du _ _ _ hkL,HT.out,show j+1+(m+1)+1=j+1+m+2 from by omega,Kw (by rw[jH.out,gh.out];have :=HQ.out;simpa using this),jH.out]
        go_wp2_with fail;refine au (by kernel_rfl) (by kernel_rfl) ?_;repeat (go_big_quiet_step (fail))
        refine aak ?_;rintro w2 ⟨u2,b8⟩;have bj:Hid (Fr [] wr w2):=b8▸u2.fr;clear b8 u2;have ua:=aa (HO.out.fr bj.out (by simp));have db:Hid (Fr [g] w w2):=HF.out.ag (bj.out.mono (by simp));have cy2:=bj.out.aN cy;clear cy rH e1 e2 hq dP HF HO bj;have f0:=ua.out.frozen k;have c0:=ua.out.cell hkL;go_wp2_with fail;go_roundg (gk-1);case measure=>have :=HK.out;omega
        case rel=>exact⟨k+1,m+1,L.set k y,by have :=HK.out;omega,by go_num,by go_num,by omega,by omega,by rw[ao];exact pB.out,sV.out.set k ⟨iP,lE⟩,HS.out,fun q hq=>(xx (by omega)).trans (HG.out q (by omega)),ua.out.eu k y,db.out.setCell (.inl (by simp)) _⟩
      ·obtain rfl :M2=m+1:=by omega
       have oJ:k<xs.length:=(by omega)
       have QT:=o4 wr g c k 0 (c-k) L HO.out (by rw[pB.out];exact oJ);rw[pB.out]at QT;obtain⟨w2,od,rm,bW⟩:=QT;have HTR:Hid (L.take k=gG xs xs.length):=by show _=_;rw[HT.out,show j+1+m+1=xs.length from by omega]
       go_wp2_with fail;go_ret;exact oh.out k L wr _ (by rw[pB.out];exact oJ) HTR.out HF.out rm bW
   ·have HDD:Hid (gG xs xs.length=xs):=by
     show _=_;have e:j+1=xs.length:=(by omega)
     have :=HD.out;rw[e,cN]at this;exact this
    clear HK;go_wp2_with fail;go_ret;exact NO.out HDD.out _ HF.out
theorem E2 (w:World)(A:Option Addr)(c:Nat)(xs:List Int)(h:Ints w A c xs)(hr:Ra xs)(hl:xs.length<=17592186044416):
  Calls Tryz.prog 123 #[.slice A xs.length c] w (Fj (XS xs) A c w):=by
 rcases h.form with⟨rfl,rfl,rfl⟩ |⟨g,rfl,_⟩
 ·have HH:=aa h;clear h;go_enter Tryz.func123,Tryz.ntmps123;go_wp2_with fail;go_ret;exact⟨rfl,HH.out,Fr.refl _ _⟩
 ·exact zq w g c xs h hr hl
theorem JD {a:Int}(h:eh a)(hl:a<wrap64 (-a)):wrap64 (-a)=tv a:=by
 obtain⟨h0,h1⟩:=h;rcases mN a h0 with⟨h2,h3⟩ |⟨h2,h3,h4⟩ |⟨h2,h3,h4⟩
 ·have :wrap64 (-a)= -a:=by unfold wrap64;omega
  omega
 ·rw[h4];unfold wrap64;omega
 ·omega
theorem JE {a:Int}(h:eh a)(hl:¬a<wrap64 (-a)):a=tv a:=by
 obtain⟨h0,h1⟩:=h;rcases mN a h0 with⟨h2,h3⟩ |⟨h2,h3,h4⟩ |⟨h2,h3,h4⟩
 ·omega
 ·have :wrap64 (-a)= -a:=by unfold wrap64;omega
  omega
 ·omega
theorem NJ (w:World)(a:Int)(h:eh a):Calls Tryz.prog 56 #[.int .i64 a] w fun e w'=>e= .returned (.int .i64 (tv a))/\w=w':=by have HU:=aa (@JD a h);have HO:=aa (@JE a h);go_enter Tryz.func56,Tryz.ntmps56;go_wp2_with fail;all_goals (go_ret;first |exact⟨by rw[<-HU.out (by assumption)];rfl,rfl⟩ |exact⟨by rw[<-HO.out (by omega)];rfl,rfl⟩)
def gv (vars:Int)(x:Int):Bool:=decide (tv x<1) ||decide (vars<tv x)
theorem IN (W:World)(b:Nat)(vars:Int)(hc:W.cell? ⟨b,0,none⟩=some (.int .i64 vars))(x:Int)(hx:eh x):
  Calls Tryz.prog 55 #[.int .i64 x, .pointer (some ⟨b,0,none⟩)] W fun e w'=>e= .returned (.bool (gv vars x))/\Fr [] W w':=by
 have KA:=aa (fun u:Ext W=>NJ u.v x hx);obtain⟨t,ht⟩:∃t,tv x=t:=⟨_,rfl⟩
 simp only[ht]at KA;have eb:=Ext.cell hc;unfold gv;rw[ht];by_cases h1:t<1
 ·have hd:decide (t<1)=true:=aai h1;rw[hd];go_enter Tryz.func55,Tryz.ntmps55;go_wp2_with fail;refine au (by kernel_rfl) (by kernel_rfl) ?_;repeat (go_big_quiet_step (exact bh (KA.out _)))
  refine aak ?_;rintro w2 ⟨u2,b8⟩;have bj:Hid (Fr [] W w2):=b8▸u2.fr;clear b8 u2;clear eb hc;go_wp2_with fail;go_ret;exact⟨rfl,bj.out⟩
 ·have hd:decide (t<1)=false:=aah h1;rw[hd];by_cases h2:vars<t
  ·have qj:decide (vars<t)=true:=aai h2;rw[qj];go_enter Tryz.func55,Tryz.ntmps55;go_wp2_with fail;refine au (by kernel_rfl) (by kernel_rfl) ?_;repeat (go_big_quiet_step (exact bh (KA.out _)))
   refine aak ?_;rintro w2 ⟨u2,b8⟩;have bj:Hid (Fr [] W w2):=b8▸u2.fr;clear b8 u2;clear eb hc;go_wp2_with fail;go_ret;exact⟨rfl,bj.out⟩
  ·have qj:decide (vars<t)=false:=aah h2;rw[qj];go_enter Tryz.func55,Tryz.ntmps55;go_wp2_with fail;refine au (by kernel_rfl) (by kernel_rfl) ?_;repeat (go_big_quiet_step (exact bh (KA.out _)))
   refine aak ?_;rintro w2 ⟨u2,b8⟩;have bj:Hid (Fr [] W w2):=b8▸u2.fr;clear b8 u2;clear eb hc;go_wp2_with fail;go_ret;exact⟨rfl,bj.out⟩
theorem EV:∀args w,(callFunc 55 args).run Tryz.prog w= .ok (.enter 55 args) w:=enters_of Tryz.func55 (by kernel_rfl) rfl
def ft (vars:Int)(xs:List Int):Int:=if 1024<xs.length then 5 else if xs.any (gv vars)=true then 4 else 0
theorem iq (w:World)(vars:Int)(A:Option Addr)(c:Nat)(xs:List Int)(h:Rd w A xs)(hr:Ra xs):
  Calls Tryz.prog 27 #[.int .i64 vars, .slice A xs.length c] w fun e w'=>e= .returned (.int .i64 (ft vars xs))/\Fr [] w w':=by
 unfold ft;by_cases hl:1024<xs.length
 ·rw[aae hl];have MZ:(1024:Int)<(xs.length:Int):=by omega
  clear h hr;go_enter Tryz.func27,Tryz.ntmps27;go_wp2_with fail;go_ret;exact⟨rfl,aH _ _⟩
 ·rw[aac hl];have HB:Hid (Fr [] w (w.alloc (.cells #[.int .i64 vars] 3))):=aH _ _;have SP:Hid ((w.alloc (.cells #[.int .i64 vars] 3)).cell? ⟨w.heap.size,0,none⟩=some (.int .i64 vars)):=(At.new w _ _).cell 0;have KC:=aa (fV (w.alloc (.cells #[.int .i64 vars] 3)) A c xs 55 #[.pointer (some ⟨w.heap.size,0,none⟩)] (gv vars) EV (h.keep HB.out) hr (by omega) (fun W hW x _ hx=>IN W w.heap.size vars (hW.aN SP.out) x hx));have MZ:(xs.length:Int)<=(1024:Int):=by omega
  obtain⟨q,hq⟩:∃q,xs.any (gv vars)=q:=⟨_,rfl⟩
  rw[hq]at KC⊢;clear h hr hq;go_enter Tryz.func27,Tryz.ntmps27;go_wp2_with fail;refine KC.out.mono ?_;rintro e w2 ⟨rfl,hf⟩;have HF:=aa (HB.out.ag hf);clear hf KC;cases q with
  |true=>
   go_wp2_with fail;go_ret;exact⟨rfl,HF.out⟩
  |false=>
   go_wp2_with fail;go_ret;exact⟨rfl,HF.out⟩
theorem Gf (W:World)(b a:Nat)(vars:Int)(hb:W.cell? ⟨b,0,none⟩=some (.pointer (some ⟨a,0,none⟩)))(hc:W.cell? ⟨a,2,none⟩=some (.int .i64 vars))(x:Int)(hx:eh x):
  Calls Tryz.prog 113 #[.int .i64 x, .pointer (some ⟨b,0,none⟩)] W fun e w'=>e= .returned (.bool (gv vars x))/\Fr [] W w':=by
 have HU:=aa (@JD x hx);have HO:=aa (@JE x hx);unfold gv;go_enter Tryz.func113,Tryz.ntmps113;go_wp2_with fail;all_goals (go_ret;refine⟨?_,Fr.refl _ _⟩;first |rw[<-HU.out (by assumption)] |rw[<-HO.out (by omega)])
 all_goals first | (rw[Bool.or_comm];rfl) | (rw[aai (by assumption:vars<wrap64 (-x)),Bool.or_true];rfl) | (rw[aai (by assumption:vars<x),Bool.or_true];rfl) | (rw[aah (by omega:¬vars<wrap64 (-x)),Bool.or_false];rfl) | (rw[aah (by omega:¬vars<x),Bool.or_false];rfl)
theorem ET:∀args w,(callFunc 113 args).run Tryz.prog w= .ok (.enter 113 args) w:=enters_of Tryz.func113 (by kernel_rfl) rfl
theorem Rd.O7 {w:World}{A:Option Addr}{us:List Int}{k:Nat}(h:Rd w A us):Rd w A (us.take k):=by intro h0;rw[bp]at h0;obtain⟨b,o,hA,hx⟩:=h (by omega);refine⟨b,o,hA,fun j hj=> ?_⟩;rw[bp]at hj;rw[hx j (by omega)];simp only[ae,List.getElem?_take,aae (show j<k by omega)]
theorem F7 {x:Int}(h:eh x):(x<=tv x/\ -x<=tv x)\/tv x<0:=by obtain⟨h0,h1⟩:=h;rcases mN x h0 with⟨h2,h3⟩ |⟨h2,h3,h4⟩ |⟨h2,h3,h4⟩<;>omega
namespace Sv
def bI (S:Sv):Sv:={ S with has:=false,core:=[] }
def me (red:Bool)(budget:Int)(us:List Int)(D C:Nat)(Q:Sv->Int->Prop)(S:Sv):Prop:=
 if(decide (budget<1) ||us.any (gv S.vars))=true then Q S.bI 0
 else if S.bad=true then Q S.bI.cO 2
 else fe red budget us (fun S1 r=>Q (S1.back 0) r) D C 64 0 S.bI.cO
theorem Ok.bI {S:Sv}{m:Nat}(ok:S.Ok m):S.bI.Ok m:=⟨ok.vl,ok.tr,ok.hi,ok.hl,ok.ph,ok.wl,ok.ll,ok.wb,ok.wt,ok.lr,ok.ln,ok.lb,ok.hd,ok.rs⟩
end Sv
theorem aX.bI {w:World}{L:aO}{S:Sv}(h:aX w L S):
  ∃L',aX ((w.setCell ⟨L.a,14,none⟩ (.bool false)).setCell ⟨L.a,7,none⟩ (.slice none 0 0)).drew L' S.bI/\L.ext L' w/\Fr (L.own w) w ((w.setCell ⟨L.a,14,none⟩ (.bool false)).setCell ⟨L.a,7,none⟩ (.slice none 0 0)).drew:=by
 obtain⟨g1,f1⟩:=h.qe 14 (.bool false) { S with has:=false } (by simp[pM]) ⟨rfl,rfl,rfl,rfl,rfl,rfl,rfl⟩;obtain⟨L',g2,e2,f2,_⟩:=g1.pJ (F:=[]) (Ints.nil _) (Fr.refl _ _) (fun k hk=>by cases hk) (fun k hk=>by simp[ak]at hk);have hz:w.heap.size<=(w.setCell ⟨L.a,14,none⟩ (.bool false)).heap.size:=f1.size;exact⟨L',g2.keep (Fr.refl [] _).drew,⟨e2.1,e2.2.1,fun k hk e=>e2.2.2 k (aK hk hz) e⟩,(aO.aQ (aO.cv L w) f1 f2).drew⟩
theorem Dq (red:Bool)(rC:red=true->I7)(w:World)(L:aO)(S:Sv)(h:aX w L S)(ok:S.Ok 0)(A:Option Addr)(c:Nat)(us:List Int)(ta:CU w L A us)(mi:Ra us)(oy:us.length<=c)(zc:us.length<=1099511627776)(budget:Int)(D C:Nat)(Q:Sv->Int->Prop)(Am:S.used<4611686018427387904)(hW:S.me red budget us D C Q):
  Calls Tryz.prog 74 #[.pointer (some ⟨L.a,0,none⟩), .int .i64 budget, .slice A us.length c] w (Fi Q L w):=by
 obtain⟨w1,dP⟩:∃w1,w.alloc (.cells #[.pointer (some ⟨L.a,0,none⟩)] 79)=w1:=⟨_,rfl⟩
 have gm:Hid (Fr [] w w1):=by rw[<-dP];exact aH _ _
 have oM:w1.cell? ⟨w.heap.size,0,none⟩=some (.pointer (some ⟨L.a,0,none⟩)):=by rw[<-dP];exact(At.new w _ _).cell 0
 have yv:=aa oM;obtain⟨L1,yJ⟩:∃L1,L.shut w=L1:=⟨_,rfl⟩
 have H1:Hid (aX w1 L1 S):=by rw[<-yJ];exact h.shut.keep gm.out
 have fa:Hid (L.ext L1 w):=by rw[<-yJ];exact L.mI w
 have Xx:(L1.cY w.heap.size).1≠L1.id:=by rw[<-yJ];exact aO.jR (ap _)
 have Fq:Hid (w.heap.size∉L1.own w1):=aO.nI Xx;have amZ:=aa Xx;have dI:Hid (Fr (L.own w) w w1):=gm.out.mono (fun k hk=>by cases hk);have tf:Hid (CU w1 L1 A us):=⟨ta.1.keep gm.out,fun h0=>B8 fa.out (ta.2 h0) (fun k hk=>ta.1.blk h0 k hk)⟩
 have lz:=aa ok;have HW:=aa hW;have rD:=aa mi;have HKR:=aa rC;have KM:=aa (wS w1 L1 S H1.out);have mB:L1.a=L.a:=fa.out.1;rw[mB]at KM;have f14:=H1.out.obj.frozen 14;have f7:=H1.out.obj.frozen 7;obtain⟨-,-,-,-,-,-,-,c7,-,-,-,-,-,-,c14⟩:=H1.out.cells;rw[mB]at f14 f7 c7 c14;obtain⟨L2,h2,jM,bW⟩:=H1.out.bI;rw[mB]at h2 bW;have HH2:=aa h2;have WM:=aa jM;have abp:=aa bW;clear h ok ta hW mi yJ mB h2 jM bW rC Xx;go_enter Tryz.func74,Tryz.ntmps74;go_upto_region 1 with fail;clear dP;go_wp2_with fail;refine KM.out.mono ?_;clear KM;rintro e w2 ⟨rfl,rfl⟩;go_upto_region 3 with fail;go_region;obtain⟨w3,vz⟩:∃w3,((w1.setCell ⟨L.a,14,none⟩ (.bool false)).setCell ⟨L.a,7,none⟩ (.slice none 0 0)).drew=w3:=⟨_,rfl⟩
 rw[vz]at HH2 abp⊢;have H3:=HH2;have Jp:=abp;have iU:Hid (L.ext L2 w):=aO.aV fa.out WM.out dI.out.size;have db:Hid (Fr (L.own w) w w3):=aO.aQ fa.out dI.out Jp.out;have AH:Hid (CU w3 L2 A us):=tf.out.step WM.out Jp.out;have u4:=Jp.out.bK Fq.out yv.out;have Js:=aa u4;have Wy:Hid ((L2.cY w.heap.size).1≠L2.id):=fun e=>amZ.out (WM.out.2.2 _ (by have :=bM yv.out;exact this) (e.trans WM.out.2.1));have ua:=aa lz.out.bI;clear vz oM c7 c14 f7 f14 HH2 abp;have YV:=HW.out;unfold Sv.me at YV;by_cases qk:budget<1
 ·have hd:decide (budget<1)=true:=aai qk;rw[hd,Bool.true_or,aae rfl]at YV;have HQ:=aa YV;clear YV;go_wp2_with fail;go_region;clear u4;have FF:Hid (Fi Q L w (.returned (.int .i64 0)) w3.drew):=⟨S.bI,0,HQ.out,ua.out,rfl,L2,H3.out.keep (Fr.refl [] w3).drew,iU.out,db.out.ag ((Fr.refl [] w3).drew.mono (fun k hk=>by cases hk))⟩
  go_wp2_with fail;go_ret;exact FF.out
 ·have hd:decide (budget<1)=false:=aah qk;rw[hd,Bool.false_or]at YV;have HQ:=aa YV;obtain⟨-,-,c2,-⟩:=H3.out.cells;rw[iU.out.1]at c2;have pE:=aa c2;have jL:S.bI.vars=S.vars:=rfl;rw[jL]at c2;have e2:=Ext.cell c2;have eb:=Ext.cell u4;have CC:=aa (fun u:Ext w3=>fV u.v A c us 113 #[.pointer (some ⟨w.heap.size,0,none⟩)] (gv (S.vars:Int)) ET (AH.out.1.keep u.fr) rD.out (by omega) (fun W hW x _ hx=>Gf W w.heap.size L.a (S.vars:Int) ((u.fr.ag hW).aN Js.out) ((u.fr.ag hW).aN pE.out) x hx));clear YV jL;by_cases hk:1024<us.length
  ·have Ov:(1024:Int)<(us.length:Int):=by omega
   have hcc:(1024:Int)<=(c:Int):=by omega
   have hlen:(us.take 1024).length=1024:=by rw[bp];omega
   have vN:=aa (fun u:Ext w3=>iq u.v (S.vars:Int) A c (us.take 1024) (AH.out.1.keep u.fr).O7 (Ra.sub rD.out (fun y hy=>List.mem_of_mem_take hy)));have HP:Hid ((us.take 1024).any (gv (S.vars:Int))=true->us.any (gv (S.vars:Int))=true):=fun h5=>by rw[cq]at h5⊢;obtain⟨y,hy,h6⟩:=h5;exact⟨y,List.mem_of_mem_take hy,h6⟩
   unfold ft at vN;rw[hlen]at vN;simp only[Nat.lt_irrefl,if_false]at vN;obtain⟨p,hp⟩:∃p,(us.take 1024).any (gv (S.vars:Int))=p:=⟨_,rfl⟩
   rw[hp]at vN HP;clear hp hlen hk;cases p with
   |true=>
    have hq:=HQ.out;rw[aae (HP.out rfl)]at hq;have HQ:=aa hq;simp only[if_true]at vN;clear hq HP;go_wp2_with fail;refine au (by kernel_rfl) (by kernel_rfl) ?_;repeat (go_big_quiet_step (first |exact bX (vN.out _) |exact bX (CC.out _)))
    refine aak ?_;rintro w4 ⟨u2,b8⟩;have cG:Hid (Fr [] w3 w4):=b8▸u2.fr;clear b8 u2;clear u4 c2 e2 eb vN CC;have FF:Hid (Fi Q L w (.returned (.int .i64 0)) w4):=⟨S.bI,0,HQ.out,ua.out,rfl,L2,H3.out.keep cG.out,iU.out,db.out.ag (cG.out.mono (fun k hk=>by cases hk))⟩
    go_wp2_with fail;go_ret;exact FF.out
   |false=>
    simp only[dD,if_false]at vN;obtain⟨q,Qi⟩:∃q,us.any (gv (S.vars:Int))=q:=⟨_,rfl⟩
    rw[Qi]at CC;have hq:=HQ.out;rw[Qi]at hq;have HUQ:=aa Qi;cases q with
    |true=>
     rw[aae rfl]at hq;have HQ:=aa hq;clear hq HP Qi;go_wp2_with fail;refine au (by kernel_rfl) (by kernel_rfl) ?_;repeat (go_big_quiet_step (first |exact bX (vN.out _) |exact bX (CC.out _)))
     refine aak ?_;rintro w4 ⟨u2,b8⟩;have cG:Hid (Fr [] w3 w4):=b8▸u2.fr;clear b8 u2;clear u4 c2 e2 eb vN CC;have FF:Hid (Fi Q L w (.returned (.int .i64 0)) w4):=⟨S.bI,0,HQ.out,ua.out,rfl,L2,H3.out.keep cG.out,iU.out,db.out.ag (cG.out.mono (fun k hk=>by cases hk))⟩
     go_wp2_with fail;go_ret;exact FF.out
    |false=>
     rw[aac (by simp)]at hq;have HQ:=aa hq;clear hq HP Qi;go_wp2_with fail;refine au (by kernel_rfl) (by kernel_rfl) ?_;repeat (go_big_quiet_step (first |exact bX (vN.out _) |exact bX (CC.out _)))
     refine aak ?_;rintro w4 ⟨u2,b8⟩;have cG:Hid (Fr [] w3 w4):=b8▸u2.fr;clear b8 u2;clear u4 c2 e2 eb vN CC;have H4:=aa (H3.out.keep cG.out);have gY:Hid (Fr (L.own w) w w4):=db.out.ag (cG.out.mono (fun k hk=>by cases hk));have CY:=aa (AH.out.keep cG.out);have QW:=cG.out.aN Js.out;obtain⟨-,-,-,-,-,-,-,-,-,c9,-,-,-,OF,-⟩:=H4.out.cells;rw[iU.out.1]at c9 OF;have f9:=H4.out.obj.frozen 9;rw[iU.out.1]at f9;obtain⟨uu,UB⟩:∃uu,S.bI.used=uu:=⟨_,rfl⟩
     have ake:uu<4611686018427387904:=by rw[<-UB];exact Am
     obtain⟨g5,f5⟩:=H4.out.qe 9 (.int .i64 ((uu:Int)+1)) S.bI.cO (by simp[pM,Sv.cO,UB]) ⟨rfl,rfl,rfl,rfl,rfl,rfl,rfl⟩;rw[iU.out.1]at g5 f5;rw[UB]at c9;have hwu:IntKind.i64.wrap ((uu:Int)+1)=(uu:Int)+1:=IntWalk.i64_in _ (by omega);obtain⟨bd,FK⟩:∃bd,S.bad=bd:=⟨_,rfl⟩
     have QZ:S.bI.bad=bd:=FK;rw[QZ]at OF;have hq:=HQ.out;rw[FK]at hq;have FR:Hid (w.heap.size≠L.a):=fun e=>by have h5:=H4.out.t0;rw[iU.out.1,<-e]at h5;exact Wy.out (by rw[h5])
     clear FK QZ HQ UB Am;go_upto_region 7 with fail;obtain⟨w5,GT⟩:∃w5,w4.setCell ⟨L.a,9,none⟩ (.int .i64 ((uu:Int)+1))=w5:=⟨_,rfl⟩
     have QV:w5.cell? ⟨w.heap.size,0,none⟩=some (.pointer (some ⟨L.a,0,none⟩)):=by rw[<-GT];exact((Fr.refl [L.a] w4).setCell (p:=⟨L.a,9,none⟩) (.inl (by simp)) _).bK (by simpa using FR.out) QW
     have ala:w5.cell? ⟨L.a,13,none⟩=some (.bool bd):=by
      have h5:=g5.cells.2.2.2.2.2.2.2.2.2.2.2.2.2.1;rw[iU.out.1,GT]at h5;have h6:=H4.out.cells.2.2.2.2.2.2.2.2.2.2.2.2.2.1;rw[iU.out.1,OF]at h6;have h7:bd=S.bI.bad:=(by simpa using h6)
      rw[h7];exact h5
     rw[GT]at g5 f5⊢;have H5:=aa g5;have kO:=aa (aO.aQ iU.out gY.out f5);have Fp:=aa (CY.out.step (aO.cv L2 w4) f5);have aby:=aa QV;clear GT g5 f5 c9 OF f9 QW hwu;cases bd with
     |true=>
      rw[aae rfl]at hq;have FF:Hid (Fi Q L w (.returned (.int .i64 2)) w5):=⟨S.bI.cO,2,hq,ua.out.cO,rfl,L2,H5.out,iU.out,kO.out⟩
      clear hq;go_wp2_with fail;go_ret;exact FF.out
     |false=>
      rw[aac (by simp)]at hq;have KS:=aa (rT red HKR.out w5 L2 S.bI.cO H5.out ua.out.cO A c us Fp.out (fun x hx=>by have h5:=HUQ.out;rw[List.any_eq_false]at h5;have h6:=h5 x hx;unfold gv at h6;simp only[jt,aal,not_or]at h6;have h7:=(eD (p:=eh)).1 rD.out x hx;have h8:=F7 h7;show -(S.vars:Int)<=x/\x<=(S.vars:Int);omega) zc budget _ D C hq);rw[iU.out.1]at KS;clear hq;go_wp2_with fail;refine KS.out.mono ?_;clear KS;rintro e w6 ⟨S6,r,hq6,MX,rfl,L6,h6,QP,gW⟩;have H6:=aa h6;have qQ:=aa (aO.aV iU.out QP kO.out.size);have jo:=aa (aO.aQ iU.out kO.out gW);have aag:=gW.bK (aO.nI Wy.out) aby.out;have HQ6:=aa hq6;have vh:=aa MX;have KB:=aa (nW w6 L6 S6 H6.out 0 MX 0 (by omega));rw[qQ.out.1]at KB;clear h6 QP gW hq6 MX QV;go_wp2_with fail;refine KB.out.mono ?_;clear KB aag;rintro e w7 ⟨rfl,L7,h7,EF,gy⟩;have FF:Hid (Fi Q L w (.returned (.int .i64 r)) w7):=⟨S6.back 0,r,HQ6.out,(vh.out.back 0).1,rfl,L7,h7,aO.aV qQ.out EF jo.out.size,aO.aQ qQ.out jo.out gy⟩
      clear h7 EF gy;go_wp2_with fail;go_ret;exact FF.out
  ·have Ov:(us.length:Int)<=(1024:Int):=by omega
   have hcc:(us.length:Int)<=(c:Int):=by omega
   have vN:=aa (fun u:Ext w3=>iq u.v (S.vars:Int) A c us (AH.out.1.keep u.fr) rD.out);unfold ft at vN;rw[aac hk]at vN;have HP:Hid (us.any (gv (S.vars:Int))=true->us.any (gv (S.vars:Int))=true):=id;obtain⟨p,hp⟩:∃p,us.any (gv (S.vars:Int))=p:=⟨_,rfl⟩
   have HP:Hid (p=true->us.any (gv (S.vars:Int))=true):=fun h5=>hp.trans h5;rw[hp]at vN;clear hp hk;cases p with
   |true=>
    have hq:=HQ.out;rw[aae (HP.out rfl)]at hq;have HQ:=aa hq;simp only[if_true]at vN;clear hq HP;go_wp2_with fail;refine au (by kernel_rfl) (by kernel_rfl) ?_;repeat (go_big_quiet_step (first |exact bX (vN.out _) |exact bX (CC.out _)))
    refine aak ?_;rintro w4 ⟨u2,b8⟩;have cG:Hid (Fr [] w3 w4):=b8▸u2.fr;clear b8 u2;clear u4 c2 e2 eb vN CC;have FF:Hid (Fi Q L w (.returned (.int .i64 0)) w4):=⟨S.bI,0,HQ.out,ua.out,rfl,L2,H3.out.keep cG.out,iU.out,db.out.ag (cG.out.mono (fun k hk=>by cases hk))⟩
    go_wp2_with fail;go_ret;exact FF.out
   |false=>
    simp only[dD,if_false]at vN;obtain⟨q,Qi⟩:∃q,us.any (gv (S.vars:Int))=q:=⟨_,rfl⟩
    rw[Qi]at CC;have hq:=HQ.out;rw[Qi]at hq;have HUQ:=aa Qi;cases q with
    |true=>
     rw[aae rfl]at hq;have HQ:=aa hq;clear hq HP Qi;go_wp2_with fail;refine au (by kernel_rfl) (by kernel_rfl) ?_;repeat (go_big_quiet_step (first |exact bX (vN.out _) |exact bX (CC.out _)))
     refine aak ?_;rintro w4 ⟨u2,b8⟩;have cG:Hid (Fr [] w3 w4):=b8▸u2.fr;clear b8 u2;clear u4 c2 e2 eb vN CC;have FF:Hid (Fi Q L w (.returned (.int .i64 0)) w4):=⟨S.bI,0,HQ.out,ua.out,rfl,L2,H3.out.keep cG.out,iU.out,db.out.ag (cG.out.mono (fun k hk=>by cases hk))⟩
     go_wp2_with fail;go_ret;exact FF.out
    |false=>
     rw[aac (by simp)]at hq;have HQ:=aa hq;clear hq HP Qi;go_wp2_with fail;refine au (by kernel_rfl) (by kernel_rfl) ?_;repeat (go_big_quiet_step (first |exact bX (vN.out _) |exact bX (CC.out _)))
     refine aak ?_;rintro w4 ⟨u2,b8⟩;have cG:Hid (Fr [] w3 w4):=b8▸u2.fr;clear b8 u2;clear u4 c2 e2 eb vN CC;have H4:=aa (H3.out.keep cG.out);have gY:Hid (Fr (L.own w) w w4):=db.out.ag (cG.out.mono (fun k hk=>by cases hk));have CY:=aa (AH.out.keep cG.out);have QW:=cG.out.aN Js.out;obtain⟨-,-,-,-,-,-,-,-,-,c9,-,-,-,OF,-⟩:=H4.out.cells;rw[iU.out.1]at c9 OF;have f9:=H4.out.obj.frozen 9;rw[iU.out.1]at f9;obtain⟨uu,UB⟩:∃uu,S.bI.used=uu:=⟨_,rfl⟩
     have ake:uu<4611686018427387904:=by rw[<-UB];exact Am
     obtain⟨g5,f5⟩:=H4.out.qe 9 (.int .i64 ((uu:Int)+1)) S.bI.cO (by simp[pM,Sv.cO,UB]) ⟨rfl,rfl,rfl,rfl,rfl,rfl,rfl⟩;rw[iU.out.1]at g5 f5;rw[UB]at c9;have hwu:IntKind.i64.wrap ((uu:Int)+1)=(uu:Int)+1:=IntWalk.i64_in _ (by omega);obtain⟨bd,FK⟩:∃bd,S.bad=bd:=⟨_,rfl⟩
     have QZ:S.bI.bad=bd:=FK;rw[QZ]at OF;have hq:=HQ.out;rw[FK]at hq;have FR:Hid (w.heap.size≠L.a):=fun e=>by have h5:=H4.out.t0;rw[iU.out.1,<-e]at h5;exact Wy.out (by rw[h5])
     clear FK QZ HQ UB Am;go_upto_region 7 with fail;obtain⟨w5,GT⟩:∃w5,w4.setCell ⟨L.a,9,none⟩ (.int .i64 ((uu:Int)+1))=w5:=⟨_,rfl⟩
     have QV:w5.cell? ⟨w.heap.size,0,none⟩=some (.pointer (some ⟨L.a,0,none⟩)):=by rw[<-GT];exact((Fr.refl [L.a] w4).setCell (p:=⟨L.a,9,none⟩) (.inl (by simp)) _).bK (by simpa using FR.out) QW
     have ala:w5.cell? ⟨L.a,13,none⟩=some (.bool bd):=by
      have h5:=g5.cells.2.2.2.2.2.2.2.2.2.2.2.2.2.1;rw[iU.out.1,GT]at h5;have h6:=H4.out.cells.2.2.2.2.2.2.2.2.2.2.2.2.2.1;rw[iU.out.1,OF]at h6;have h7:bd=S.bI.bad:=(by simpa using h6)
      rw[h7];exact h5
     rw[GT]at g5 f5⊢;have H5:=aa g5;have kO:=aa (aO.aQ iU.out gY.out f5);have Fp:=aa (CY.out.step (aO.cv L2 w4) f5);have aby:=aa QV;clear GT g5 f5 c9 OF f9 QW hwu;cases bd with
     |true=>
      rw[aae rfl]at hq;have FF:Hid (Fi Q L w (.returned (.int .i64 2)) w5):=⟨S.bI.cO,2,hq,ua.out.cO,rfl,L2,H5.out,iU.out,kO.out⟩
      clear hq;go_wp2_with fail;go_ret;exact FF.out
     |false=>
      rw[aac (by simp)]at hq;have KS:=aa (rT red HKR.out w5 L2 S.bI.cO H5.out ua.out.cO A c us Fp.out (fun x hx=>by have h5:=HUQ.out;rw[List.any_eq_false]at h5;have h6:=h5 x hx;unfold gv at h6;simp only[jt,aal,not_or]at h6;have h7:=(eD (p:=eh)).1 rD.out x hx;have h8:=F7 h7;show -(S.vars:Int)<=x/\x<=(S.vars:Int);omega) zc budget _ D C hq);rw[iU.out.1]at KS;clear hq;go_wp2_with fail;refine KS.out.mono ?_;clear KS;rintro e w6 ⟨S6,r,hq6,MX,rfl,L6,h6,QP,gW⟩;have H6:=aa h6;have qQ:=aa (aO.aV iU.out QP kO.out.size);have jo:=aa (aO.aQ iU.out kO.out gW);have aag:=gW.bK (aO.nI Wy.out) aby.out;have HQ6:=aa hq6;have vh:=aa MX;have KB:=aa (nW w6 L6 S6 H6.out 0 MX 0 (by omega));rw[qQ.out.1]at KB;clear h6 QP gW hq6 MX QV;go_wp2_with fail;refine KB.out.mono ?_;clear KB aag;rintro e w7 ⟨rfl,L7,h7,EF,gy⟩;have FF:Hid (Fi Q L w (.returned (.int .i64 r)) w7):=⟨S6.back 0,r,HQ6.out,(vh.out.back 0).1,rfl,L7,h7,aO.aV qQ.out EF jo.out.size,aO.aQ qQ.out jo.out gy⟩
      clear h7 EF gy;go_wp2_with fail;go_ret;exact FF.out
theorem Jy (z:Value)(m:Nat):(Builtin.zeroCells #[z] m).toList=List.replicate m z:=by
 apply List.ext_getElem?;intro j;simp only[Builtin.zeroCells,Array.toList_map,aJ];by_cases h:j<m
 ·simp[h,Nat.mod_one]
 ·simp[h]
theorem OW (z:Value)(m:Nat):Builtin.zeroCells #[z] m=(List.replicate m z).toArray:=by rw[<-Jy,Array.toArray_toList]
theorem mJ (w:World)(t ti ty e:TypeId)(z:Value)(bytes:Nat)(ht:Tryz.prog.underlying t=some (.slice e))(Y0:Tryz.prog.underlying ti=some (.int .i64))(hi:(Tryz.prog.info? e).map (fun i=>(i.zero,i.size,i.bytes))=some (some z,1,bytes))(y9:z.cells=#[z])(h1z:z.oneCell'=true)
  (A:Option Addr)(c n:Nat)(xs:List Value)(dw:w.ownsRow 0 e 1 (.slice A n c) n xs)(m:Nat)(OB:n+m<=maxLen)(kg:(n+m)*bytes<=140737488355328)(hm:(m:Int)<=9223372036854775807):
  ∃A' cap w',(Builtin.append_ #[t,ti] ty #[.slice A n c, .int .i64 m]).run Tryz.prog w= .ok (.slice A' (n+m) cap) w'/\
   w'.ownsRow 0 e 1 (.slice A' (n+m) cap) (n+m) (xs++List.replicate m z)/\Fr (ak A) w w'/\(∀k,k∈ak A'->k∈ak A\/w.heap.size<=k):=by
 obtain⟨i,hi,hz,Ao,hby⟩:=info_parts hi;have hw:IntKind.i64.wrap (m:Int)=m:=IntWalk.i64_in _ (by omega);have Oh:IntKind.i64.wrap 0=0:=by decide
 have tK:¬((m:Int)<0):=by omega
 have Ot:(m:Int)*(bytes:Int)<=281474976710656:=by
  have :m*bytes<=(n+m)*bytes:=Nat.mul_le_mul_right _ (by omega);have h2:((m*bytes:Nat):Int)<=281474976710656:=by omega
  simpa using h2
 have ZH:¬(281474976710656<(m:Int)*(bytes:Int)):=by omega
 have xj:n+m<=9223372036854775807:=by simp only[maxLen]at OB;omega
 have hlen:(xs++List.replicate m z).length=(n+m)*1:=by rw[aj,dw.1,aW];omega
 have grown:∀(old:Nat),old<n+m->∀(S:List Nat),
   (w.drew.alloc (.cells (xs.toArray++(List.replicate m z).toArray++Builtin.zeroCells #[z] (grownCap w (n+m) old e-(n+m))) e)).ownsRow 0 e 1
    (.slice (some ⟨w.heap.size,0,none⟩) (n+m) (grownCap w (n+m) old e)) (n+m) (xs++List.replicate m z)/\
   Fr S w (w.drew.alloc (.cells (xs.toArray++(List.replicate m z).toArray++Builtin.zeroCells #[z] (grownCap w (n+m) old e-(n+m))) e)):=by
  intro old ho S;have If:=grownCap_ge w (n+m) old e;have EJ:grownCap w (n+m) old e<=maxLen:=grownCap_le_maxLen w (n+m) old e OB;refine⟨⟨hlen, .inr ⟨w.heap.size,_,_,rfl,bR _,heap_alloc_new w.drew _,If,EJ,?_,?_⟩⟩,((Fr.refl S w).drew).alloc _⟩
  ·have hx:=dw.1;simp only[Array.size_append,List.size_toArray,size_zeroCells,aW,hx];simp;omega
  ·simp only[Array.toList_append,jP];rw[<-jP,<-hlen];exact List.take_left
 rcases dw.2 with⟨hv,rfl⟩ |⟨g,cap,cur,hv,QY,hg,sl,EJ,yG,Xg⟩
 ·simp only[Value.slice.injEq,true_and]at hv;obtain⟨rfl,rfl⟩:=hv;have hx:xs=[]:=aP (by simpa using dw.1);subst hx;by_cases uY:m=0
  ·subst uY;refine⟨none,0,w,?_,World.ownsRow_nil w 0 e 1,Fr.refl _ _,fun k hk=>by simp[ak]at hk⟩;simp[Builtin.append_,run_underlying ht,run_underlying Y0,sizeOf,typeInfo,hi,asInt,asIntOf,Oh]
  ·have Ox:=grown 0 (by omega) (ak none);simp only[da,List.nil_append]at Ox⊢;refine⟨_,_,_,?_,Ox.1,Ox.2,fun k hk=> .inr (by simp[ak]at hk;omega)⟩;have Q7:¬(281474976710656<Builtin.nextslicecap m 0*bytes):=by rw[nextslicecap_zero (by omega)];have :=kg;simp only[da]at this;omega
   have aav:¬(9223372036854775807<(m:Int)):=by omega
   simp[Builtin.append_,run_underlying ht,run_underlying Y0,sizeOf,typeInfo,zeroValue,hi,hz,asInt,asIntOf,Ao,hby,hw,tK,ZH,uY,aav,Q7,Question.forced,run_firstCells_none,newRow,grownCap,y9,OW]
 ·simp only[Value.slice.injEq,true_and]at hv;obtain⟨rfl,rfl⟩:=hv;by_cases Kb:n+m<=c
  ·have tO:n*1+(List.replicate m z).length<=cur.size:=by rw[yG,aW];omega
   have gU:=run_storeCells_at Tryz.prog g (n*1) e (List.replicate m z) 0 cur w hg (by simpa using tO) (fun u hu=>by rw[List.mem_replicate]at hu;rw[hu.2];exact h1z);simp only[Nat.add_zero]at gU;refine⟨some ⟨g,0,none⟩,c,w.setRow g (cur.toList.take (n*1)++List.replicate m z++cur.toList.drop (n*1+(List.replicate m z).length)).toArray,?_,⟨hlen, .inr ⟨g,c,_,rfl,QY,setRow_heap w g cur _ e _ hg,Kb,EJ,?_,?_⟩⟩,?_,fun k hk=> .inl hk⟩
   ·by_cases uY:m=0
    ·subst uY;simp only[List.replicate_zero]at gU⊢;have kp:n<=c:=Kb;simp[Builtin.append_,run_underlying ht,run_underlying Y0,sizeOf,typeInfo,hi,asInt,asIntOf,Oh,kp,Addr.add_lit];simp only[ku]at gU;simp[Ao,gU]
    ·simp[Builtin.append_,run_underlying ht,run_underlying Y0,sizeOf,typeInfo,zeroValue,hi,hz,asInt,asIntOf,Ao,hby,hw,tK,ZH,uY,Kb,Addr.add_lit,y9,Jy];simp only[ku]at gU;first |exact gU | (rw[gU];simp) |simp[gU]
   ·simp only[List.size_toArray,aj,bp,List.length_drop,Array.length_toList,aW];omega
   ·rw[Xg,<-hlen];exact List.take_left
   ·exact⟨rfl,rfl,rfl,by simp,fun k _ hk=>setRow_other w g k _ (fun e=>hk (by simp[ak,e]))⟩
  ·have holds:∀j u,xs[j]? =some u->w.cell? ((⟨g,0,none⟩:Addr).add j)=some u:=dw.cells (g:=g) rfl;have Ox:=grown c (by omega) (ak (some (⟨g,0,none⟩:Addr)));refine⟨_,_,_,?_,Ox.1,Ox.2,fun k hk=> .inr (by simp[ak]at hk;omega)⟩;have uY:m≠0:=by omega
   have hfo:=run_firstCells_some (P:=Tryz.prog) w.drew 1 n ⟨g,0,none⟩ n c xs (by rw[dw.1]) (by simpa using holds);have aav:¬(9223372036854775807<((n:Int)+(m:Int))):=by omega
   have Q7:¬(281474976710656<Builtin.nextslicecap (n+m) c*bytes):=by have :=growslice_fits (need:=n+m) (old:=c) (bytes:=bytes) (by omega) kg;omega
   simp[Builtin.append_,run_underlying ht,run_underlying Y0,sizeOf,typeInfo,zeroValue,hi,hz,asInt,asIntOf,Ao,hby,hw,tK,ZH,uY,Kb,aav,Q7,Question.forced,hfo,newRow,grownCap,y9,OW];try rw[hby]at Q7
   try simp[Q7]
theorem aX.acR {w w1:World}{L:aO}{S:Sv}(h:aX w L S){A':Option Addr}{c':Nat}{F:List Nat}{ls:List Bool}(hi:Bools w1 A' c' ls)(hf:Fr F w w1)(hF:∀k,k∈F->k<w.heap.size->L.cY k=(L.id,5,0))
  (hA:∀k,k∈ak A'->(k<w.heap.size/\L.cY k=(L.id,5,0))\/w.heap.size<=k):
  ∃L',aX (w1.setCell ⟨L.a,5,none⟩ (.slice A' ls.length c')) L' { S with phase:=ls }/\L.ext L' w/\Fr (L.own w) w (w1.setCell ⟨L.a,5,none⟩ (.slice A' ls.length c')):=by
 have bW:Fr (L.a::F) w (w1.setCell ⟨L.a,5,none⟩ (.slice A' ls.length c')):=(hf.mono (fun k hk=> .inl (by simp[hk]))).setCell (.inl (by simp)) _;have CS:∀k,k∈L.a::F->k<w.heap.size->∃t,(t=(5,0)\/t=(0,0))/\L.cY k=(L.id,t):=by
  intro k hk hl;rcases av.1 hk with rfl |hk
  ·exact⟨_, .inr rfl,h.t0⟩
  ·exact⟨_, .inl rfl,hF k hk hl⟩
 have o:=h.off (P:=fun t=>t=(5,0)\/t=(0,0)) bW CS;have o1:=h.off (P:=(· =(5,0))) hf (fun k hk hl=>⟨_,rfl,hF k hk hl⟩);have g:=h.tags (5,0);have dS:L.a∉ak A':=fun hk=>by
  rcases hA _ hk with⟨_,h2⟩ |h2
  ·rw[h.t0]at h2;simp at h2
  ·have :=h.obj.lt;omega
 refine⟨{ L with pA:=A',pC:=c',cY:=L.re w (5,0) },⟨?_,o.tr (by simp),o.hp (by simp),h.iQ,h.Cb,h.B9,o.vt (by simp),o.rws (by simp),?_,o.yz (by simp),o.uQ (by simp),fun n hn=>o.ql n hn (by simp),fun c hc=>o.sD c hc (by simp),
  g.t0,g.t1,g.t2,g.t3,g.t4,fun k hk=>aO.nv (hA k hk),g.t6,g.t7,g.t8,g.t9⟩,⟨rfl,rfl,fun k hk e=>aO.o7 hk e⟩,aO.gS bW (fun k hk hl=>by obtain⟨t,_,e⟩:=CS k hk hl;rw[e])⟩
 ·have :=(o1.obj (by simp)).eu 5 (.slice A' ls.length c');simpa[pM]using this
 ·unfold Bools at hi⊢;exact fc hi ((Fr.refl [L.a] w1).setCell (.inl (by simp)) _) (fun k hk hm=>by simp at hm;subst hm;exact dS hk)
theorem aX.acD {w w1:World}{L:aO}{S:Sv}(h:aX w L S){A':Option Addr}{c' m:Nat}{F:List Nat}(hi:sR w1 A' c' (L.ws++List.replicate m ⟨none,0,[]⟩))(hf:Fr F w w1)(hF:∀k,k∈F->k<w.heap.size->L.cY k=(L.id,4,0))
  (hA:∀k,k∈ak A'->(k<w.heap.size/\L.cY k=(L.id,4,0))\/w.heap.size<=k):
  ∃L',aX (w1.setCell ⟨L.a,4,none⟩ (.slice A' (L.ws.length+m) c')) L' { S with watch:=S.watch++List.replicate m [] }/\L.ext L' w/\Fr (L.own w) w (w1.setCell ⟨L.a,4,none⟩ (.slice A' (L.ws.length+m) c')):=by
 have bW:Fr (L.a::F) w (w1.setCell ⟨L.a,4,none⟩ (.slice A' (L.ws.length+m) c')):=(hf.mono (fun k hk=> .inl (by simp[hk]))).setCell (.inl (by simp)) _;have CS:∀k,k∈L.a::F->k<w.heap.size->∃t,(t=(4,0)\/t=(0,0))/\L.cY k=(L.id,t):=by
  intro k hk hl;rcases av.1 hk with rfl |hk
  ·exact⟨_, .inr rfl,h.t0⟩
  ·exact⟨_, .inl rfl,hF k hk hl⟩
 have o:=h.off (P:=fun t=>t=(4,0)\/t=(0,0)) bW CS;have o1:=h.off (P:=(· =(4,0))) hf (fun k hk hl=>⟨_,rfl,hF k hk hl⟩);have g:=h.tags (4,0);have dS:L.a∉ak A':=fun hk=>by
  rcases hA _ hk with⟨_,h2⟩ |h2
  ·rw[h.t0]at h2;simp at h2
  ·have :=h.obj.lt;omega
 have qi:∀j:Nat,j<L.ws.length+m->(j<L.ws.length/\(L.ws++List.replicate m (⟨none,0,[]⟩:Wl))[j]! =L.ws[j]!)\/(L.ws++List.replicate m (⟨none,0,[]⟩:Wl))[j]! =⟨none,0,[]⟩:=fun j hj=>by
  by_cases e:j<L.ws.length
  ·left
   refine⟨e,?_⟩;simp[ae,cJ e]
  ·right
   rw[ae,eO (by omega),List.getElem?_replicate,aae (by omega)];rfl
 refine⟨{ L with wA:=A',wC:=c',ws:=L.ws++List.replicate m ⟨none,0,[]⟩,cY:=L.re w (4,0) },⟨?_,o.tr (by simp),o.hp (by simp),h.iQ,h.Cb,?_,o.vt (by simp),?_,o.vp (by simp),o.yz (by simp),o.uQ (by simp),fun n hn=>o.ql n hn (by simp),fun c hc=> ?_,
  g.t0,g.t1,g.t2,g.t3,fun k hk=>aO.nv (hA k hk),g.t5,g.t6,g.t7,g.t8,fun c hc k hk=> ?_⟩,⟨rfl,rfl,fun k hk e=>aO.o7 hk e⟩,aO.gS bW (fun k hk hl=>by obtain⟨t,_,e⟩:=CS k hk hl;rw[e])⟩
 ·have :=(o1.obj (by simp)).eu 4 (.slice A' (L.ws.length+m) c');simpa[pM]using this
 ·simp only[bH,List.map_replicate];rw[h.B9]
 ·unfold sR at hi⊢;exact fc hi ((Fr.refl [L.a] w1).setCell (.inl (by simp)) _) (fun k hk hm=>by simp at hm;subst hm;exact dS hk)
 ·simp only[aj,aW]at hc;simp only;rcases qi c hc with⟨h1,h2⟩ |h2
  ·rw[h2];exact o.sD c h1 (by simp)
  ·rw[h2];exact Ints.nil _
 ·simp only[aj,aW]at hc;simp only at hk;rcases qi c hc with⟨h1,h2⟩ |h2
  ·rw[h2]at hk;exact g.t9 c h1 k hk
  ·rw[h2]at hk;simp[ak]at hk
namespace Sv
theorem z7:∀(n:Nat) (v:Int) (H:Hp),HI H->HI (iH n v H)/\(iH n v H).at_.length=H.at_.length
 |0,v,H,h=>⟨h,rfl⟩
 |n+1,v,H,h=>by have h1:=h.fC v;have h2:=z7 n (v+1) _ h1.1;exact⟨h2.1,h2.2.trans h1.2⟩
theorem pV {H:Hp}{v n:Nat}(h:H.at_.length=v+1)(hb:v+n<=262143):H.ew n=H.growBy n:=by
 unfold Hp.ew;have e:(lo H.at_.length n-H.at_.length).toNat=n:=by unfold lo;rw[h];omega
 rw[e]
theorem Ok.grow {S:Sv}(ok:S.Ok 0)(n:Nat)(hb:S.vars+n<=262143):(S.grow n).Ok 0:=by
 obtain⟨R,hR⟩:=ok.tr;have hg:=hR.grow n (by omega);have hh:HI (S.H.ew n)/\(S.H.ew n).at_.length=S.vars+n+1:=by rw[pV ok.hl hb];refine⟨ok.hi.grow n,?_⟩;have :=ok.hl;simp only[Hp.growBy,aj,aW];omega
 have hp:=z7 n ((S.vars:Int)+1) _ hh.1;have hw:∀c:Nat,(S.watch++List.replicate (2*n) ([]:List Nat))[c]! =S.watch[c]! :=fun c=>by
  simp only[ae];by_cases e:c<S.watch.length
  ·rw[cJ e]
  ·rw[eO (by omega),List.getElem?_replicate,List.getElem?_eq_none (l:=S.watch) (by omega)];split<;>rfl
 have e0:(S.grow n).vars=S.vars+n:=rfl;have e1:(S.grow n).T=S.T.ew n:=rfl;have e2:(S.grow n).H=iH n ((S.vars:Int)+1) (S.H.ew n):=rfl;have e3:(S.grow n).list=S.list:=rfl;refine⟨by rw[e0];exact hb,⟨R,?_⟩,by rw[e2];exact hp.1,by rw[e2,e0];exact hp.2.trans hh.2,?_,?_,by rw[e3];exact ok.ll,fun c k hk=> ?_,?_,fun j x hx=> ?_,fun j=>ok.ln j,fun j=>ok.lb j,?_,fun v=> ?_⟩
 ·rw[e0,e1];exact hg
 ·show(S.phase++List.replicate n false).length=S.vars+n+1;have :=ok.ph;simp;omega
 ·show(S.watch++List.replicate (2*n) []).length=2*(S.vars+n)+2;have :=ok.wl;simp;omega
 ·have e:k∈(S.watch++List.replicate (2*n) ([]:List Nat))[c]! :=hk;rw[hw]at e;exact ok.wb c k e
 ·show((S.watch++List.replicate (2*n) []).map List.length).sum+0<=_;have :=ok.wt;simp;exact this
 ·have :=ok.lr j x hx;show x≠0/\ -((S.vars+n:Nat):Int)<=x/\x<=((S.vars+n:Nat):Int);omega
 ·exact ok.hd
 ·have :=ok.rs v;rw[hR.fy]at this;rw[e1,e3];rw[hg.fy];exact this
end Sv
theorem si:(Tryz.prog.info? 22).map (fun i=>(i.zero,i.size,i.bytes))=some (some (.slice none 0 0),1,24):=by kernel_rfl
theorem km (w:World){ops:Array Oper}{rest:List Oper}{o:Oper}{a:Act}{Q:Exit->Act->World->Prop}(ow:o.guard=none)(s x:Operand)(t ti e:TypeId)
  (ho:o.op= .call { callee:= .builtin .append,args:=#[s,x],argTypes:=#[t,ti] })(z:Value)(bytes:Nat)(ht:Tryz.prog.underlying t=some (.slice e))(Y0:Tryz.prog.underlying ti=some (.int .i64))(hi:(Tryz.prog.info? e).map (fun i=>(i.zero,i.size,i.bytes))=some (some z,1,bytes))(y9:z.cells=#[z])(h1z:z.oneCell'=true)
  (A:Option Addr) (c n:Nat) (hs:a.eval s= .slice A n c) (xs:List Value) (dw:w.ownsRow 0 e 1 (.slice A n c) n xs) (m:Nat) (v:Int) (hv:v=m) (hx:a.eval x= .int .i64 v) (OB:n+m<=maxLen) (kg:(n+m)*bytes<=140737488355328) (hm:(m:Int)<=9223372036854775807)
  (h:∀A' cap w',w'.ownsRow 0 e 1 (.slice A' (n+m) cap) (n+m) (xs++List.replicate m z)->Fr (ak A) w w'->(∀k,k∈ak A'->k∈ak A\/w.heap.size<=k)->wpList Tryz.prog ops Q rest (a.put o.dst (.slice A' (n+m) cap)) w'):
  wpList Tryz.prog ops Q (o::rest) a w:=by
 subst hv;refine wpList_plain ow fun K hK=> ?_;obtain⟨A',cap,w',hr,h2,h3,h4⟩:=mJ w t ti o.type e z bytes ht Y0 hi y9 h1z A c n xs dw m OB kg hm;unfold Oper.wp execOp;simp only[ho,resolve,invoke,builtin,Sem.run_bind,Sem.run_pure,Result.andThen_ok,List.map_toArray,cj,dv,hs,hx,hr];exact hK _ _ (h A' cap w' h2 h3 h4)
theorem IC (w:World)(L:aO)(S:Sv)(h:aX w L S)(ok:S.Ok 0)(n:Nat)(hb:S.vars+n<=262143):
  Calls Tryz.prog 79 #[.pointer (some ⟨L.a,0,none⟩), .int .i64 n] w (pz (.tuple #[]) (S.grow n) L w):=by
 have lz:=aa ok;have SV:=aa ok.hl;have HPH:=aa ok.ph;have HWL:=aa ok.wl;have od:0<S.T.cells.length/\S.T.cells.length<=262145:=by obtain⟨R,hR⟩:=ok.tr;rw[hR.size];omega
 obtain⟨c0,c1,-⟩:=h.cells;have KT:=aa (vX w L.tL S.T h.tr od.1 od.2 (n:Int));have HH:=aa h;clear h ok;go_enter Tryz.func79,Tryz.ntmps79;go_wp2_with fail;refine KT.out.mono ?_;clear KT c0 c1;rintro e w1 ⟨rfl,tL,ht,hte,htf⟩;obtain⟨L1,h1,td,cX⟩:=HH.out.vZ ht hte htf;have H1:=aa h1;have fa:=aa td;have dI:=aa cX;have c1:=h1.cells.2.1;rw[fa.out.1]at c1;have KH:=aa (Au w1 L1.hL S.H h1.hp h1.iQ (n:Int) (by have :=SV.out;omega));clear h1 td cX ht hte htf HH;go_wp2_with fail;refine KH.out.mono ?_;clear KH c1;rintro e w2 ⟨rfl,hL,hh,hhe,hhf⟩;obtain⟨L2,h2,jM,bW⟩:=H1.out.heap hh hhe hhf;obtain⟨H0,hH0⟩:∃H0,S.H.ew (n:Int)=H0:=⟨_,rfl⟩
 obtain⟨T0,cZ⟩:∃T0,S.T.ew (n:Int)=T0:=⟨_,rfl⟩
 rw[hH0]at h2;rw[cZ]at h2;have H2:=aa h2;have dn:=aa (aO.aV fa.out jM dI.out.size);have cw:=aa (aO.aQ fa.out dI.out bW);have HT0:=aa cZ;have HH0:=aa hH0;have c5:=h2.cells.2.2.2.2.2.1;rw[dn.out.1]at c5;have Yi:=aa c5;have f5:=h2.obj.frozen 5;rw[dn.out.1]at f5;have kO:=aa f5;have Sl:Hid (L.a∉ak L2.pA):=fun hm=>by have e1:=H2.out.t5 _ hm;rw[<-dn.out.1,H2.out.t0]at e1;simp at e1
 have Xt:S.phase.length+n<=262144:=by have :=HPH.out;omega
 have HPN:=aa Xt;clear h2 jM bW hh hhe hhf H1 fa dI cZ hH0 Xt f5;go_upto_region 3 with(at_builtin;(refine km _ rfl _ _ 119 3 4 rfl (.bool false) 1 Tryz.underlying119 Tryz.underlying3 D2 rfl rfl L2.pA L2.pC S.phase.length rfl (S.phase.map Value.bool) H2.out.vp n _ rfl rfl (by have :=HPN.out;unfold maxLen;omega) (by have :=HPN.out;omega) (by omega) ?_;intro A5 aaC w3 ze ev Vv;have s5:=ev.bK Sl.out Yi.out;have fz5:=(World.frozen?_of_block (ev.block L.a (bM Yi.out) Sl.out)).trans kO.out))
 --Yu aiV
 obtain⟨w4,qD⟩:∃w4,w3.setCell ⟨L.a,5,none⟩ (.slice A5 (S.phase.length+n) aaC)=w4:=⟨_,rfl⟩
 have QK:Bools w3 A5 aaC (S.phase++List.replicate n false):=by unfold Bools;rw[aj,aW,bH,List.map_replicate];exact ze
 obtain⟨L4,h4,XG,eS⟩:=H2.out.acR QK ev (fun k hk _=>H2.out.t5 k hk) (fun k hk=>by
  rcases Vv k hk with h5 |h5
  ·exact .inl ⟨dZ H2.out.vp k h5,H2.out.t5 k h5⟩
  ·exact .inr h5)
 rw[dn.out.1,aj,aW,qD]at h4 eS;have H4:=aa h4;have vR:=aa (aO.aV dn.out XG cw.out.size);have gY:=aa (aO.aQ dn.out cw.out eS);have c4:=h4.cells.2.2.2.2.1;rw[vR.out.1]at c4;have N5:=aa c4;have f4:=h4.obj.frozen 4;rw[vR.out.1]at f4;have agu:=aa f4;have yq:Hid (L.a∉ak L4.wA):=fun hm=>by have e1:=H4.out.t4 _ hm;rw[<-vR.out.1,H4.out.t0]at e1;simp at e1
 have Kf:L4.ws.length=S.watch.length:=H4.out.sf;have CI:=aa Kf;have oG:IntKind.i64.wrap (2*(n:Int))=2*(n:Int):=IntWalk.i64_in _ (by omega);have h2n:2*(n:Int)=((2*n:Nat):Int):=by omega
 have H2N:=aa h2n;have fh:L4.ws.length+2*n<=600000:=by have :=HWL.out;omega
 have R7:=aa fh;clear h4 XG eS H2 dn cw ze QK ev Vv s5 fz5 c5 f4 Kf h2n fh Yi kO Sl;rw[qD];clear qD;go_upto_region 4 with(at_builtin;(refine km _ rfl _ _ 28 3 22 rfl (.slice none 0 0) 24 Tryz.underlying28 Tryz.underlying3 si rfl rfl L4.wA L4.wC L4.ws.length rfl (L4.ws.map Wl.val) H4.out.rws (2*n) (2*(n:Int)) H2N.out rfl (by have :=R7.out;unfold maxLen;omega) (by have :=R7.out;omega) (by have :=R7.out;omega) ?_;intro A6 afo w5 ZZ gW hg6;have s6:=gW.bK yq.out N5.out;have fz6:=(World.frozen?_of_block (gW.block L.a (bM N5.out) yq.out)).trans agu.out))
 --Yu watch lists
 obtain⟨w6,uq⟩:∃w6,w5.setCell ⟨L.a,4,none⟩ (.slice A6 (L4.ws.length+2*n) afo)=w6:=⟨_,rfl⟩
 have aen:sR w5 A6 afo (L4.ws++List.replicate (2*n) ⟨none,0,[]⟩):=by unfold sR;rw[aj,aW,bH,List.map_replicate];exact ZZ
 obtain⟨L6,h6,QP,aaa⟩:=H4.out.acD aen gW (fun k hk _=>H4.out.t4 k hk) (fun k hk=>by
  rcases hg6 k hk with h5 |h5
  ·exact .inl ⟨dZ H4.out.rws k h5,H4.out.t4 k h5⟩
  ·exact .inr h5)
 rw[vR.out.1,uq]at h6 aaa;have H6:=aa h6;have qQ:=aa (aO.aV vR.out QP gY.out.size);have jo:=aa (aO.aQ vR.out gY.out aaa);have c2:=h6.cells.2.2.1;rw[qQ.out.1]at c2;have hwv:IntKind.i64.wrap ((S.vars:Int)+1)=(S.vars:Int)+1:=IntWalk.i64_in _ (by omega);have arW:IntKind.i64.wrap ((S.vars:Int)+(n:Int))=(S.vars:Int)+(n:Int):=IntWalk.i64_in _ (by omega);have adX:HI H0/\H0.at_.length=S.vars+n+1:=by have h5:=lz.out.hl;rw[<-HH0.out,Sv.pV h5 hb];refine⟨lz.out.hi.grow n,?_⟩;simp only[Hp.growBy,aj,aW];omega
 have HHI:=aa adX;clear h6 QP aaa H4 vR gY ZZ aen gW hg6 s6 fz6 c4 N5 agu yq adX oG;rw[uq];clear uq;go_wp2_with fail;clear c2;go_loopg [4] n (fun g x4 wr=>∃(k:Nat) (Hk:Hp) (Lk:aO),k+g=n/\x4= .int .i64 ((S.vars:Int)+1+k)/\Hid (Sv.iH g ((S.vars:Int)+1+k) Hk=Sv.iH n ((S.vars:Int)+1) H0)/\Hid (HI Hk/\Hk.at_.length=S.vars+n+1)/\
   Hid (aX wr Lk { S with T:=T0,H:=Hk,phase:=S.phase++List.replicate n false,watch:=S.watch++List.replicate (2*n) [] })/\Hid (L.ext Lk w)/\Hid (Fr (L.own w) w wr))
 case atStart=>exact⟨0,H0,L6,by omega,by go_num,by show _=_;simp,HHI.out,H6.out,qQ.out,jo.out⟩
 case round=>
  obtain⟨k,Hk,Lk,hk,rfl,HP,HIK,H7,CJ,rL⟩:=hrel;have HK:=aa hk;have jg:k<=n:=by omega
  obtain⟨-,c1,c2,-⟩:=H7.out.cells;rw[CJ.out.1]at c1 c2;clear hk;by_cases bw:k<n
  ·obtain⟨f,rfl⟩:∃f,gk=f+1:=⟨gk-1,by have :=HK.out;omega⟩
   have hd:(S.vars:Int)+1+(k:Int)<=(S.vars:Int)+(n:Int):=by omega
   have KP:=aa (xr wr Lk.hL Hk H7.out.hp HIK.out.1 (by have :=HIK.out.2;omega) ((S.vars:Int)+1+k));have hwk:IntKind.i64.wrap ((S.vars:Int)+1+(k:Int)+1)=(S.vars:Int)+1+(k:Int)+1:=IntWalk.i64_in _ (by omega);have CG:Hid (Sv.iH f ((S.vars:Int)+1+((k+1:Nat):Int)) (Sv.fC Hk ((S.vars:Int)+1+k))=Sv.iH n ((S.vars:Int)+1) H0):=by have h5:=HP.out;rw[Sv.iH]at h5;rw[show(S.vars:Int)+1+((k+1:Nat):Int)=(S.vars:Int)+1+(k:Int)+1 from by omega];exact h5
   have anh:Hid (HI (Sv.fC Hk ((S.vars:Int)+1+k))/\(Sv.fC Hk ((S.vars:Int)+1+k)).at_.length=S.vars+n+1):=by have h5:=HIK.out.1.fC ((S.vars:Int)+1+k);exact⟨h5.1,h5.2.trans HIK.out.2⟩
   go_wp2_with fail;refine KP.out.mono ?_;clear KP c1 c2;rintro e w8 ⟨b,rfl,hL8,hh8,VB,mp⟩;obtain⟨L8,h8,aeG,aey⟩:=H7.out.heap hh8 VB mp;have H8:=aa h8;have HE8:=aa (aO.aV CJ.out aeG rL.out.size);have WK:=aa (aO.aQ CJ.out rL.out aey);clear h8 aeG aey hh8 VB mp;go_wp2_with fail;go_roundg f;case measure=>omega
   case rel=>exact⟨k+1,Sv.fC Hk ((S.vars:Int)+1+k),L8,by have :=HK.out;omega,by go_num,CG.out,anh.out,H8.out,HE8.out,WK.out⟩
  ·obtain rfl :k=n:=by omega
   have hg0:gk=0:=by have :=HK.out;omega
   subst hg0;have hHk:Hk=Sv.iH k ((S.vars:Int)+1) H0:=HP.out;have hd:¬((S.vars:Int)+1+(k:Int)<=(S.vars:Int)+(k:Int)):=by omega
   have hd':(S.vars:Int)+(k:Int)<(S.vars:Int)+1+(k:Int):=by omega
   have f2:=H7.out.obj.frozen 2;rw[CJ.out.1]at f2;obtain⟨g9,f9⟩:=H7.out.qe 2 (.int .i64 ((S.vars:Int)+(k:Int))) { S with T:=T0,H:=Hk,phase:=S.phase++List.replicate k false,watch:=S.watch++List.replicate (2*k) [],vars:=S.vars+k } (by simp[pM]) ⟨rfl,rfl,rfl,rfl,rfl,rfl,rfl⟩;rw[CJ.out.1]at g9 f9;have hS9:({ S with T:=T0,H:=Hk,phase:=S.phase++List.replicate k false,watch:=S.watch++List.replicate (2*k) [],vars:=S.vars+k }:Sv)=S.grow k:=by unfold Sv.grow;rw[hHk,<-HT0.out,<-HH0.out]
   rw[hS9]at g9;have FF:Hid (pz (.tuple #[]) (S.grow k) L w (.returned (.tuple #[])) (wr.setCell ⟨L.a,2,none⟩ (.int .i64 ((S.vars:Int)+(k:Int))))):=⟨rfl,Lk,g9,CJ.out,aO.aQ CJ.out rL.out f9⟩
   clear g9 f9 hS9 hHk HP c1;go_wp2_with fail;go_end0;exact FF.out
end Go.Proofs.YtjmmpfjcpdepjaaGreatDoor
