/- Parts of a proof. -/
import Derived.Test.YtjmmpfjcpdepjaaGreatDoorGAI
set_option linter.unusedVariables false
set_option linter.unusedSimpArgs false
set_option maxHeartbeats 16000000
set_option maxRecDepth 100000
namespace Go.Proofs.YtjmmpfjcpdepjaaGreatDoor
open Go.RowKit
def RedC:Prop:=∀(w:World) (L:SvL) (S:Sv),SvAt w L S→S.Ok 0→ -1152921504606846976≤S.many→S.many≤1152921504606846976→
 Calls Tryz.prog 139 #[.pointer (some ⟨L.a,0,none⟩)] w fun e w'=>∃S',Sv.RedR S S'∧SvP (.tuple #[]) S' L w e w'
def SrP (Q:Sv→Int→Prop) (L:SvL) (w:World) (e:Ending) (w':World):Prop:=∃(S':Sv) (r:Int),Q S' r∧S'.Ok 0∧SvP (.int .i64 r) S' L w e w'
theorem search_calls (red:Bool) (KRED:red=true→RedC) (w:World) (L:SvL) (S:Sv) (h:SvAt w L S) (ok:S.Ok 0) (A:Option Addr) (c:Nat) (us:List Int) (hrd:Rdx w L A us) (hus:∀x∈us,-(S.vars:Int)≤x∧x≤S.vars) (hul:us.length≤1099511627776) (budget:Int) (Q:Sv→Int→Prop) (D C:Nat) (hW:Sv.searchW red budget us Q D C 64 0 S):
  Calls Tryz.prog 114 #[.pointer (some ⟨L.a,0,none⟩), .int .i64 budget, .slice A us.length c] w (SrP Q L w):=by
 have HH:=Lib.hid h
 have HOK:=Lib.hid ok
 have HRD:=Lib.hid hrd
 have HUS:=Lib.hid hus
 have HKR:=Lib.hid KRED
 obtain ⟨C0,rfl⟩:∃C0,C=C0+1:=⟨C-1,by
  rcases C with _ |C
  ·exact absurd hW (by simp [Sv.searchW])
  ·omega⟩
 have HW0:Hid (Sv.roundW red budget us Q (Sv.searchW red budget us Q D C0) D 64 0 S):=hW
 clear hW h ok hrd hus KRED
 go_enter Tryz.func114,Tryz.ntmps114
 go_wp2_with fail
 go_loopg [7,8] (C0*(D+1)+D) (fun g x7 x8 wr=>∃(c0 d next n:Nat) (S1:Sv) (L1:SvL),g=c0*(D+1)+d∧x7= .int .i64 next ∧x8= .int .i64 n∧Hid (Sv.roundW red budget us Q (Sv.searchW red budget us Q D c0) d next n S1)∧Hid (S1.vars=S.vars)∧Hid (S1.Ok 0)∧Hid (SvAt wr L1 S1)∧Hid (L.ext L1 w)∧Hid (Fr (L.own w) w wr))
 case atStart=>exact ⟨C0,D,64,0,S,L,rfl,rfl,rfl,HW0.out,rfl,HOK.out,HH.out,SvL.ext_refl _ _,Fr.refl _ _⟩
 case round=>
  obtain ⟨c0,d,next,n,S1,L1,hg,rfl,rfl,HW,HV1,HO1,H1,HE1,HF1⟩:=hrel
  obtain ⟨d,rfl⟩:∃d',d=d'+1:=⟨d-1,by
   rcases d with _ |d
   ·exact absurd HW.out (by simp [Sv.roundW])
   ·omega⟩
  have HG:=Lib.hid hg
  have hw:=HW.out
  rw [Sv.roundW] at hw
  obtain ⟨hsm,hn,hnext,hw⟩:=hw
  have KF:=Lib.hid (follow_calls wr L1 S1 H1.out HO1.out)
  rw [HE1.out.1] at KF
  have hfo:=HO1.out.follow
  obtain ⟨SF,hSF⟩:∃SF,S1.follow.1=SF:=⟨_,rfl⟩
  obtain ⟨oc,hoc⟩:∃oc,S1.follow.2=oc:=⟨_,rfl⟩
  rw [hSF,hoc] at hw hfo KF
  obtain ⟨hfo1,hfo2,hfo3⟩:=hfo
  have HSM:=Lib.hid hsm
  have hvar:SF.vars=S.vars:=(congrArg (fun x=>x.2.1) hfo2).trans HV1.out
  have hcore:SF.core=[]:=(congrArg (fun x=>x.2.2.2.2.1) hfo2).trans hsm.core
  have hused:SF.used=S1.used:=congrArg (fun x=>x.2.2.2.2.2.1) hfo2
  have hbump:SF.bump=S1.bump:=congrArg (fun x=>x.2.2.2.2.2.2.1) hfo2
  have hmany:SF.many=S1.many:=congrArg (fun x=>x.2.2.2.2.2.2.2.1) hfo2
  have hlim:SF.limit=S1.limit:=congrArg (fun x=>x.2.2.2.2.2.2.2.2.1) hfo2
  have hlev:SF.T.levels=S1.T.levels:=congrArg (fun x=>x.2.2.2.2.2.2.2.2.2.2.2.1) hfo2
  have hlis:SF.list.length=S1.list.length:=congrArg (fun x=>x.2.2.2.2.2.2.2.2.2.2.2.2) hfo2
  have HOF:=Lib.hid hfo1
  have HVF:=Lib.hid hvar
  have HCF:=Lib.hid hcore
  have HLIS:=Lib.hid hlis
  have HLF:Hid (SF.T.levels.length≤4398046511104):=by show _≤_;rw [hlev];exact hsm.lev
  have HIF:Hid (SF.list.length<2199023255552):=by show _<_;rw [hlis];exact hsm.list
  have hsm1:=hsm.used
  have hsm2:=hsm.bump
  have hsm3:=hsm.many0
  have hsm4:=hsm.many1
  have hsm5:=hsm.lim
  rw [←hused] at hsm1
  rw [←hbump] at hsm2
  rw [←hmany] at hsm3 hsm4
  rw [←hlim] at hsm5
  clear hg HW hSF hoc hfo1 hfo2 hvar hcore hused hbump hmany hlim hlev hlis hsm
  go_wp2_with fail
  refine KF.out.mono ?_
  clear KF
  rintro e w2 ⟨rfl,L2,h2,he2,hf2⟩
  have H2:=Lib.hid h2
  have HE2:=Lib.hid (SvL.ext_trans HE1.out he2 HF1.out.size)
  have HF2:=Lib.hid (SvL.own_then HE1.out HF1.out hf2)
  clear h2 he2 hf2 H1 HE1 HF1
  cases oc with
  |some cf=>
   have hcf:=hfo3 cf rfl
   have hcn:cf<SF.list.length:=by
    rw [HLIS.out]
    exact hcf
   have HFI:Hid (foundI (some cf)=(cf:Int)):=rfl
   rw [HFI.out]
   have hnn:(0:Int)≤(cf:Int):=by omega
   have hwn:IntKind.i64.wrap ((n:Int)+1)=(n:Int)+1:=IntWalk.i64_in _ (by omega)
   have hwu:IntKind.i64.wrap ((SF.used:Int)+1)=(SF.used:Int)+1:=IntWalk.i64_in _ (by omega)
   obtain ⟨-,-,-,-,-,-,-,-,-,c9,-⟩:=H2.out.cells
   rw [HE2.out.1] at c9
   have f9:=H2.out.obj.frozen 9
   rw [HE2.out.1] at f9
   obtain ⟨g3,f3⟩:=H2.out.setc 9 (.int .i64 ((SF.used:Int)+1)) SF.used1 (by simp [scs,Sv.used1]) ⟨rfl,rfl,rfl,rfl,rfl,rfl,rfl⟩
   rw [HE2.out.1] at g3 f3
   have HQ:=Lib.hid hw
   clear hw hfo3
   go_upto_region 7 with fail
   obtain ⟨w3,hw3⟩:∃w3,w2.setCell ⟨L.a,9,none⟩ (.int .i64 ((SF.used:Int)+1))=w3:=⟨_,rfl⟩
   rw [hw3] at g3 f3⊢
   have H3:=Lib.hid g3
   have HF3:=Lib.hid (SvL.own_then HE2.out HF2.out f3)
   clear hw3 g3 f3 c9 f9 hwu
   have hq:=HQ.out
   cases hcon:SF.used1.conflict cf with
   |none=>rw [hcon] at hq;exact absurd hq (by simp [Sv.afterC])
   |some q=>
    obtain ⟨S4,b⟩:=q
    rw [hcon] at hq
    have KC:=Lib.hid (conflict_calls w3 L2 SF.used1 H3.out 0 HOF.out.used1 cf hcn HIF.out (by show SF.used+1≤_;omega) hsm2 (by show SF.many<_;omega) (by show _<SF.many;omega) (by have :=HLF.out;show SF.T.levels.length≤_;omega) S4 b hcon)
    rw [HE2.out.1] at KC
    have ok4:=HOF.out.used1.conflict HIF.out hcon
    have HO4:=Lib.hid ok4.1
    have HV4:Hid (S4.vars=S.vars):=ok4.2.trans HVF.out
    clear hcon ok4
    go_wp2_with fail
    refine KC.out.mono ?_
    clear KC
    rintro e w4 ⟨rfl,L4,h4,he4,hf4⟩
    have H4:=Lib.hid h4
    have HE4:=Lib.hid (SvL.ext_trans HE2.out he4 HF3.out.size)
    have HF4:=Lib.hid (SvL.own_then HE2.out HF3.out hf4)
    clear h4 he4 hf4
    cases b with
    |false=>
     have FF:Hid (SrP Q L w (.returned (.int .i64 2)) w4):=⟨S4,2,hq,HO4.out,rfl,L4,H4.out,HE4.out,HF4.out⟩
     clear hq
     go_wp2_with fail
     go_ret
     exact FF.out
    |true=>
     replace hq:if budget<((n+1:Nat):Int) then Q S4 0 else Sv.searchW red budget us Q D c0 next (n+1) S4:=hq
     by_cases hbg:budget<((n+1:Nat):Int)
     ·rw [if_pos hbg] at hq
      have hbg':budget<(n:Int)+1:=by omega
      have FF:Hid (SrP Q L w (.returned (.int .i64 0)) w4):=⟨S4,0,hq,HO4.out,rfl,L4,H4.out,HE4.out,HF4.out⟩
      clear hq hbg
      go_wp2_with fail
      go_ret
      exact FF.out
     ·rw [if_neg hbg] at hq
      have hbg':(n:Int)+1≤budget:=by omega
      have HQ2:=Lib.hid hq
      obtain ⟨c1,rfl⟩:∃c1,c0=c1+1:=⟨c0-1,by
       rcases c0 with _ |c0
       ·exact absurd hq (by simp [Sv.searchW])
       ·omega⟩
      have HQ3:Hid (Sv.roundW red budget us Q (Sv.searchW red budget us Q D c1) D next (n+1) S4):=HQ2.out
      clear hq hbg
      go_wp2_with fail
      go_roundg (c1*(D+1)+D)
      case measure=>have :=HG.out;rw [Nat.succ_mul] at this;omega
      case rel=>exact ⟨c1,D,next,n+1,S4,L4,rfl,rfl,by go_num,HQ3.out,HV4.out,HO4.out,H4.out,HE4.out,HF4.out⟩
  |none=>
   have HFI:Hid (foundI none= -1):=rfl
   rw [HFI.out]
   have HQ:=Lib.hid hw
   clear hw hfo3
   by_cases hnx:next ≤n
   ·have hre:SF.rested n next =SF.back 0:=by unfold Sv.rested;rw [if_pos hnx]
    have HN1:Hid ((if next ≤n then n+64 else next)=n+64):=if_pos hnx
    have KB:=Lib.hid (back_calls w2 L2 SF H2.out 0 HOF.out 0 (by omega))
    rw [HE2.out.1,←hre] at KB
    have hwn:IntKind.i64.wrap ((n:Int)+64)=(n:Int)+64:=IntWalk.i64_in _ (by omega)
    have HRS:=Lib.hid (Sv.rested_same HOF.out n next)
    have HOR:=Lib.hid (HOF.out.rested n next)
    clear hre
    go_wp2_with fail
    refine KB.out.mono ?_
    clear KB
    rintro e w3 ⟨rfl,L3,h3,he3,hf3⟩
    have H3:=Lib.hid h3
    have HE3:=Lib.hid (SvL.ext_trans HE2.out he3 HF2.out.size)
    have HF3:=Lib.hid (SvL.own_then HE2.out HF2.out hf3)
    clear h3 he3 hf3 hnx
    obtain ⟨SR,hSR⟩:∃SR,SF.rested n next =SR:=⟨_,rfl⟩
    rw [hSR] at HRS HOR H3
    have hq:=HQ.out
    rw [hSR] at hq
    simp only [HN1.out] at hq
    unfold Sv.thinW at hq
    obtain ⟨-,-,-,-,-,-,-,-,-,-,-,c11,c12,-⟩:=H3.out.cells
    rw [HE3.out.1] at c11 c12
    obtain ⟨hrv,hrl,hrc,hrm,hrli,hrlev⟩:=HRS.out
    have hsm3': -1152921504606846976≤SR.many∧SR.many≤1152921504606846976:=by rw [hrm];exact ⟨hsm3,hsm4⟩
    have hsm5':SR.limit≤2199023255552:=by rw [hrli];exact hsm5
    have HVR:Hid (SR.vars=S.vars):=hrv.trans HVF.out
    have HCR:Hid (SR.core=[]):=hrc.trans HCF.out
    have HLR:Hid (SR.T.levels.length≤4398046511104):=Nat.le_trans hrlev HLF.out
    clear hSR hrv hrl hrc hrm hrli hrlev HRS HQ
    by_cases hth:(SR.limit:Int)<SR.many
    ·rw [if_pos hth] at hq
     have hred:red=true:=by
      cases red with
      |true=>rfl
      |false=>simp at hq
     rw [if_pos hred] at hq
     have hth':decide ((SR.limit:Int)<SR.many)=true:=decide_eq_true hth
     have HQ:=Lib.hid hq
     have hsmm:=hsm3'
     clear hq hth hsm3'
     go_wp2_with fail
     go_region
     obtain ⟨w4,hw4⟩:∃w4,World.drew w3=w4:=⟨_,rfl⟩
     have HFD0:Hid (Fr [] w3 w4):=by rw [←hw4];exact (Fr.refl [] _).drew
     rw [hw4]
     have KR2:=Lib.hid (HKR.out hred w4 L3 SR (H3.out.keep HFD0.out) HOR.out hsmm.1 hsmm.2)
     rw [HE3.out.1] at KR2
     have HFD:Hid (Fr (L.own w) w w4):=HF3.out.then_ (HFD0.out.mono (fun k hk=>by cases hk))
     clear hw4 c11 c12 hth'
     go_wp2_with fail
     refine KR2.out.mono ?_
     clear KR2
     rintro e w5 ⟨S5,hred5,rfl,L5,h5,he5,hf5⟩
     have H5:=Lib.hid h5
     have HE5:=Lib.hid (SvL.ext_trans HE3.out he5 HFD.out.size)
     have HF5:=Lib.hid (SvL.own_then HE3.out HFD.out hf5)
     have HR5:=Lib.hid hred5
     obtain ⟨DD,hD1,hD2,hD3,rfl⟩:=hred5
     have hds:=Sv.drops_same DD SR
     have HO5:=Lib.hid (Sv.Ok.drops DD SR HOR.out)
     obtain ⟨S5,hS5⟩:∃S5,DD.foldl Sv.drop1 SR=S5:=⟨_,rfl⟩
     rw [hS5] at hds HO5 H5 HR5
     have HV5:Hid (S5.vars=S.vars):=hds.2.1.trans HVR.out
     have HC5:Hid (S5.core=[]):=hds.2.2.2.1.trans HCR.out
     have HL5:Hid (S5.T.levels.length≤4398046511104):=by show _≤_;rw [hds.1];exact HLR.out
     have hli:S5.limit≤2199023255552:=by rw [hds.2.2.2.2.1];exact hsm5'
     clear h5 he5 hf5 hD1 hD2 hD3 hds hS5
     obtain ⟨-,-,-,-,-,-,-,-,-,-,-,-,c12,-⟩:=H5.out.cells
     rw [HE5.out.1] at c12
     have f12:=H5.out.obj.frozen 12
     rw [HE5.out.1] at f12
     obtain ⟨lm,hlm⟩:∃lm,S5.limit=lm:=⟨_,rfl⟩
     rw [hlm] at c12 hli
     have HLM:=Lib.hid hlm
     have hw7:IntKind.i64.wrap (((lm/16:Nat):Int)+1)=((lm/16:Nat):Int)+1:=IntWalk.i64_in _ (by omega)
     have hw8:IntKind.i64.wrap ((lm:Int)+(((lm/16:Nat):Int)+1))=(lm:Int)+(((lm/16:Nat):Int)+1):=IntWalk.i64_in _ (by omega)
     have HCST:Hid ((lm:Int)+((lm:Int)/16+1)=((lm+(lm/16+1):Nat):Int)):=by show _=_;omega
     obtain ⟨g6,f6⟩:=H5.out.setc 12 (.int .i64 ((lm+(lm/16+1):Nat):Int)) S5.limUp (by simp [scs,Sv.limUp,hlm]) ⟨rfl,rfl,rfl,rfl,rfl,rfl,rfl⟩
     rw [HE5.out.1] at g6 f6
     have h6:=g6.keep (Fr.refl [] _).drew
     have H6a:=Lib.hid h6
     have HF6a:=Lib.hid ((SvL.own_then HE5.out HF5.out f6).drew)
     clear hlm g6 f6 h6
     go_upto_region 16 with fail
     go_region
     rw [HCST.out]
     obtain ⟨w6,hw6⟩:∃w6,(w5.setCell ⟨L.a,12,none⟩ (.int .i64 ((lm+(lm/16+1):Nat):Int))).drew=w6:=⟨_,rfl⟩
     rw [hw6] at H6a HF6a⊢
     have H6:=H6a
     have HF6:=HF6a
     have HE6:=HE5
     have HO6:=Lib.hid HO5.out.limUp
     have HV6:Hid (S5.limUp.vars=S.vars):=HV5.out
     have HC6:Hid (S5.limUp.core=[]):=HC5.out
     have HL6:Hid (S5.limUp.T.levels.length≤4398046511104):=HL5.out
     have HQ:=Lib.hid (HQ.out S5 HR5.out)
     obtain ⟨S6,hS6⟩:∃S6,S5.limUp=S6:=⟨_,rfl⟩
     rw [hS6] at HQ H6 HO6 HV6 HC6 HL6
     clear hS6 hw6 c12 f12 hw7 hw8
     have KD:=Lib.hid (decide_calls w6 L5 S6 H6.out 0 HO6.out A c us (HRD.out.step HE6.out HF6.out) (fun x hx=>by have :=HUS.out x hx;rw [HV6.out];exact this) hul HC6.out HL6.out)
     rw [HE6.out.1] at KD
     have hod:=HO6.out.decide_ us
     have HO7:=Lib.hid hod.1
     have HV7:Hid ((S6.decide_ us).1.vars=S.vars):=hod.2.1.trans HV6.out
     have hq:=HQ.out
     obtain ⟨DS,hDS⟩:∃DS,S6.decide_ us=DS:=⟨_,rfl⟩
     rw [hDS] at KD HO7 HV7 hq
     obtain ⟨S7,r⟩:=DS
     simp only at KD HO7 HV7 hq
     clear hod hDS HQ
     go_wp2_with fail
     refine KD.out.mono ?_
     clear KD
     rintro e w7 ⟨rfl,L7,h7,he7,hf7⟩
     have H7:=Lib.hid h7
     have HE7:=Lib.hid (SvL.ext_trans HE6.out he7 HF6.out.size)
     have HF7:=Lib.hid (SvL.own_then HE6.out HF6.out hf7)
     clear h7 he7 hf7
     by_cases hr0:r=0
     ·rw [if_pos hr0] at hq
      have hdr:(r==(0:Int))=true:=by simp [hr0]
      have HQ:=Lib.hid hq
      clear hq
      go_wp2_with fail
      go_roundg (c0*(D+1)+d)
      case measure=>have :=HG.out;omega
      case rel=>exact ⟨c0,d,n+64,n,S7,L7,rfl,by go_num,rfl,HQ.out,HV7.out,HO7.out,H7.out,HE7.out,HF7.out⟩
     ·rw [if_neg hr0] at hq
      have hdr:(r==(0:Int))=false:=by simp [hr0]
      have FF:Hid (SrP Q L w (.returned (.int .i64 r)) w7):=⟨S7,r,hq,HO7.out,rfl,L7,H7.out,HE7.out,HF7.out⟩
      clear hq
      go_wp2_with fail
      go_ret
      exact FF.out
    ·rw [if_neg hth] at hq
     have hth':decide ((SR.limit:Int)<SR.many)=false:=decide_eq_false hth
     have HQ:=Lib.hid hq
     clear hq hth
     go_wp2_with fail
     go_region
     obtain ⟨w6,hw6⟩:∃w6,World.drew w3=w6:=⟨_,rfl⟩
     have HFD:Hid (Fr [] w3 w6):=by rw [←hw6];exact (Fr.refl [] _).drew
     rw [hw6]
     have H6:=Lib.hid (H3.out.keep HFD.out)
     have HE6:=HE3
     have HF6:Hid (Fr (L.own w) w w6):=HF3.out.then_ (HFD.out.mono (fun k hk=>by cases hk))
     have HO6:=HOR
     have HV6:=HVR
     have HC6:=HCR
     have HL6:=HLR
     obtain ⟨S6,hS6⟩:∃S6,SR=S6:=⟨_,rfl⟩
     rw [hS6] at HQ H6 HO6 HV6 HC6 HL6
     clear hS6 hw6 c11 c12 hth'
     have KD:=Lib.hid (decide_calls w6 L3 S6 H6.out 0 HO6.out A c us (HRD.out.step HE6.out HF6.out) (fun x hx=>by have :=HUS.out x hx;rw [HV6.out];exact this) hul HC6.out HL6.out)
     rw [HE6.out.1] at KD
     have hod:=HO6.out.decide_ us
     have HO7:=Lib.hid hod.1
     have HV7:Hid ((S6.decide_ us).1.vars=S.vars):=hod.2.1.trans HV6.out
     have hq:=HQ.out
     obtain ⟨DS,hDS⟩:∃DS,S6.decide_ us=DS:=⟨_,rfl⟩
     rw [hDS] at KD HO7 HV7 hq
     obtain ⟨S7,r⟩:=DS
     simp only at KD HO7 HV7 hq
     clear hod hDS HQ
     go_wp2_with fail
     refine KD.out.mono ?_
     clear KD
     rintro e w7 ⟨rfl,L7,h7,he7,hf7⟩
     have H7:=Lib.hid h7
     have HE7:=Lib.hid (SvL.ext_trans HE6.out he7 HF6.out.size)
     have HF7:=Lib.hid (SvL.own_then HE6.out HF6.out hf7)
     clear h7 he7 hf7
     by_cases hr0:r=0
     ·rw [if_pos hr0] at hq
      have hdr:(r==(0:Int))=true:=by simp [hr0]
      have HQ:=Lib.hid hq
      clear hq
      go_wp2_with fail
      go_roundg (c0*(D+1)+d)
      case measure=>have :=HG.out;omega
      case rel=>exact ⟨c0,d,n+64,n,S7,L7,rfl,by go_num,rfl,HQ.out,HV7.out,HO7.out,H7.out,HE7.out,HF7.out⟩
     ·rw [if_neg hr0] at hq
      have hdr:(r==(0:Int))=false:=by simp [hr0]
      have FF:Hid (SrP Q L w (.returned (.int .i64 r)) w7):=⟨S7,r,hq,HO7.out,rfl,L7,H7.out,HE7.out,HF7.out⟩
      clear hq
      go_wp2_with fail
      go_ret
      exact FF.out
   ·have hre:SF.rested n next =SF:=by unfold Sv.rested;rw [if_neg hnx]
    have HN1:Hid ((if next ≤n then n+64 else next)=next):=if_neg hnx
    have HRS:=Lib.hid (Sv.rested_same HOF.out n next)
    have HOR:=Lib.hid (HOF.out.rested n next)
    have H3:Hid (SvAt w2 L2 (SF.rested n next)):=by rw [hre];exact H2.out
    clear hre
    obtain ⟨SR,hSR⟩:∃SR,SF.rested n next =SR:=⟨_,rfl⟩
    rw [hSR] at HRS HOR H3
    have hq:=HQ.out
    rw [hSR] at hq
    simp only [HN1.out] at hq
    unfold Sv.thinW at hq
    obtain ⟨-,-,-,-,-,-,-,-,-,-,-,c11,c12,-⟩:=H3.out.cells
    rw [HE2.out.1] at c11 c12
    obtain ⟨hrv,hrl,hrc,hrm,hrli,hrlev⟩:=HRS.out
    have hsm3': -1152921504606846976≤SR.many∧SR.many≤1152921504606846976:=by rw [hrm];exact ⟨hsm3,hsm4⟩
    have hsm5':SR.limit≤2199023255552:=by rw [hrli];exact hsm5
    have HVR:Hid (SR.vars=S.vars):=hrv.trans HVF.out
    have HCR:Hid (SR.core=[]):=hrc.trans HCF.out
    have HLR:Hid (SR.T.levels.length≤4398046511104):=Nat.le_trans hrlev HLF.out
    clear hSR hrv hrl hrc hrm hrli hrlev HRS HQ
    by_cases hth:(SR.limit:Int)<SR.many
    ·rw [if_pos hth] at hq
     have hred:red=true:=by
      cases red with
      |true=>rfl
      |false=>simp at hq
     rw [if_pos hred] at hq
     have hth':decide ((SR.limit:Int)<SR.many)=true:=decide_eq_true hth
     have HQ:=Lib.hid hq
     have hsmm:=hsm3'
     clear hq hth hsm3'
     go_wp2_with fail
     go_region
     obtain ⟨w4,hw4⟩:∃w4,World.drew w2=w4:=⟨_,rfl⟩
     have HFD0:Hid (Fr [] w2 w4):=by rw [←hw4];exact (Fr.refl [] _).drew
     rw [hw4]
     have KR2:=Lib.hid (HKR.out hred w4 L2 SR (H3.out.keep HFD0.out) HOR.out hsmm.1 hsmm.2)
     rw [HE2.out.1] at KR2
     have HFD:Hid (Fr (L.own w) w w4):=HF2.out.then_ (HFD0.out.mono (fun k hk=>by cases hk))
     clear hw4 c11 c12 hth'
     go_wp2_with fail
     refine KR2.out.mono ?_
     clear KR2
     rintro e w5 ⟨S5,hred5,rfl,L5,h5,he5,hf5⟩
     have H5:=Lib.hid h5
     have HE5:=Lib.hid (SvL.ext_trans HE2.out he5 HFD.out.size)
     have HF5:=Lib.hid (SvL.own_then HE2.out HFD.out hf5)
     have HR5:=Lib.hid hred5
     obtain ⟨DD,hD1,hD2,hD3,rfl⟩:=hred5
     have hds:=Sv.drops_same DD SR
     have HO5:=Lib.hid (Sv.Ok.drops DD SR HOR.out)
     obtain ⟨S5,hS5⟩:∃S5,DD.foldl Sv.drop1 SR=S5:=⟨_,rfl⟩
     rw [hS5] at hds HO5 H5 HR5
     have HV5:Hid (S5.vars=S.vars):=hds.2.1.trans HVR.out
     have HC5:Hid (S5.core=[]):=hds.2.2.2.1.trans HCR.out
     have HL5:Hid (S5.T.levels.length≤4398046511104):=by show _≤_;rw [hds.1];exact HLR.out
     have hli:S5.limit≤2199023255552:=by rw [hds.2.2.2.2.1];exact hsm5'
     clear h5 he5 hf5 hD1 hD2 hD3 hds hS5
     obtain ⟨-,-,-,-,-,-,-,-,-,-,-,-,c12,-⟩:=H5.out.cells
     rw [HE5.out.1] at c12
     have f12:=H5.out.obj.frozen 12
     rw [HE5.out.1] at f12
     obtain ⟨lm,hlm⟩:∃lm,S5.limit=lm:=⟨_,rfl⟩
     rw [hlm] at c12 hli
     have HLM:=Lib.hid hlm
     have hw7:IntKind.i64.wrap (((lm/16:Nat):Int)+1)=((lm/16:Nat):Int)+1:=IntWalk.i64_in _ (by omega)
     have hw8:IntKind.i64.wrap ((lm:Int)+(((lm/16:Nat):Int)+1))=(lm:Int)+(((lm/16:Nat):Int)+1):=IntWalk.i64_in _ (by omega)
     have HCST:Hid ((lm:Int)+((lm:Int)/16+1)=((lm+(lm/16+1):Nat):Int)):=by show _=_;omega
     obtain ⟨g6,f6⟩:=H5.out.setc 12 (.int .i64 ((lm+(lm/16+1):Nat):Int)) S5.limUp (by simp [scs,Sv.limUp,hlm]) ⟨rfl,rfl,rfl,rfl,rfl,rfl,rfl⟩
     rw [HE5.out.1] at g6 f6
     have h6:=g6.keep (Fr.refl [] _).drew
     have H6a:=Lib.hid h6
     have HF6a:=Lib.hid ((SvL.own_then HE5.out HF5.out f6).drew)
     clear hlm g6 f6 h6
     go_upto_region 16 with fail
     go_region
     rw [HCST.out]
     obtain ⟨w6,hw6⟩:∃w6,(w5.setCell ⟨L.a,12,none⟩ (.int .i64 ((lm+(lm/16+1):Nat):Int))).drew=w6:=⟨_,rfl⟩
     rw [hw6] at H6a HF6a⊢
     have H6:=H6a
     have HF6:=HF6a
     have HE6:=HE5
     have HO6:=Lib.hid HO5.out.limUp
     have HV6:Hid (S5.limUp.vars=S.vars):=HV5.out
     have HC6:Hid (S5.limUp.core=[]):=HC5.out
     have HL6:Hid (S5.limUp.T.levels.length≤4398046511104):=HL5.out
     have HQ:=Lib.hid (HQ.out S5 HR5.out)
     obtain ⟨S6,hS6⟩:∃S6,S5.limUp=S6:=⟨_,rfl⟩
     rw [hS6] at HQ H6 HO6 HV6 HC6 HL6
     clear hS6 hw6 c12 f12 hw7 hw8
     have KD:=Lib.hid (decide_calls w6 L5 S6 H6.out 0 HO6.out A c us (HRD.out.step HE6.out HF6.out) (fun x hx=>by have :=HUS.out x hx;rw [HV6.out];exact this) hul HC6.out HL6.out)
     rw [HE6.out.1] at KD
     have hod:=HO6.out.decide_ us
     have HO7:=Lib.hid hod.1
     have HV7:Hid ((S6.decide_ us).1.vars=S.vars):=hod.2.1.trans HV6.out
     have hq:=HQ.out
     obtain ⟨DS,hDS⟩:∃DS,S6.decide_ us=DS:=⟨_,rfl⟩
     rw [hDS] at KD HO7 HV7 hq
     obtain ⟨S7,r⟩:=DS
     simp only at KD HO7 HV7 hq
     clear hod hDS HQ
     go_wp2_with fail
     refine KD.out.mono ?_
     clear KD
     rintro e w7 ⟨rfl,L7,h7,he7,hf7⟩
     have H7:=Lib.hid h7
     have HE7:=Lib.hid (SvL.ext_trans HE6.out he7 HF6.out.size)
     have HF7:=Lib.hid (SvL.own_then HE6.out HF6.out hf7)
     clear h7 he7 hf7
     by_cases hr0:r=0
     ·rw [if_pos hr0] at hq
      have hdr:(r==(0:Int))=true:=by simp [hr0]
      have HQ:=Lib.hid hq
      clear hq
      go_wp2_with fail
      go_roundg (c0*(D+1)+d)
      case measure=>have :=HG.out;omega
      case rel=>exact ⟨c0,d,next,n,S7,L7,rfl,rfl,rfl,HQ.out,HV7.out,HO7.out,H7.out,HE7.out,HF7.out⟩
     ·rw [if_neg hr0] at hq
      have hdr:(r==(0:Int))=false:=by simp [hr0]
      have FF:Hid (SrP Q L w (.returned (.int .i64 r)) w7):=⟨S7,r,hq,HO7.out,rfl,L7,H7.out,HE7.out,HF7.out⟩
      clear hq
      go_wp2_with fail
      go_ret
      exact FF.out
    ·rw [if_neg hth] at hq
     have hth':decide ((SR.limit:Int)<SR.many)=false:=decide_eq_false hth
     have HQ:=Lib.hid hq
     clear hq hth
     go_wp2_with fail
     go_region
     obtain ⟨w6,hw6⟩:∃w6,World.drew w2=w6:=⟨_,rfl⟩
     have HFD:Hid (Fr [] w2 w6):=by rw [←hw6];exact (Fr.refl [] _).drew
     rw [hw6]
     have H6:=Lib.hid (H3.out.keep HFD.out)
     have HE6:=HE2
     have HF6:Hid (Fr (L.own w) w w6):=HF2.out.then_ (HFD.out.mono (fun k hk=>by cases hk))
     have HO6:=HOR
     have HV6:=HVR
     have HC6:=HCR
     have HL6:=HLR
     obtain ⟨S6,hS6⟩:∃S6,SR=S6:=⟨_,rfl⟩
     rw [hS6] at HQ H6 HO6 HV6 HC6 HL6
     clear hS6 hw6 c11 c12 hth'
     have KD:=Lib.hid (decide_calls w6 L2 S6 H6.out 0 HO6.out A c us (HRD.out.step HE6.out HF6.out) (fun x hx=>by have :=HUS.out x hx;rw [HV6.out];exact this) hul HC6.out HL6.out)
     rw [HE6.out.1] at KD
     have hod:=HO6.out.decide_ us
     have HO7:=Lib.hid hod.1
     have HV7:Hid ((S6.decide_ us).1.vars=S.vars):=hod.2.1.trans HV6.out
     have hq:=HQ.out
     obtain ⟨DS,hDS⟩:∃DS,S6.decide_ us=DS:=⟨_,rfl⟩
     rw [hDS] at KD HO7 HV7 hq
     obtain ⟨S7,r⟩:=DS
     simp only at KD HO7 HV7 hq
     clear hod hDS HQ
     go_wp2_with fail
     refine KD.out.mono ?_
     clear KD
     rintro e w7 ⟨rfl,L7,h7,he7,hf7⟩
     have H7:=Lib.hid h7
     have HE7:=Lib.hid (SvL.ext_trans HE6.out he7 HF6.out.size)
     have HF7:=Lib.hid (SvL.own_then HE6.out HF6.out hf7)
     clear h7 he7 hf7
     by_cases hr0:r=0
     ·rw [if_pos hr0] at hq
      have hdr:(r==(0:Int))=true:=by simp [hr0]
      have HQ:=Lib.hid hq
      clear hq
      go_wp2_with fail
      go_roundg (c0*(D+1)+d)
      case measure=>have :=HG.out;omega
      case rel=>exact ⟨c0,d,next,n,S7,L7,rfl,rfl,rfl,HQ.out,HV7.out,HO7.out,H7.out,HE7.out,HF7.out⟩
     ·rw [if_neg hr0] at hq
      have hdr:(r==(0:Int))=false:=by simp [hr0]
      have FF:Hid (SrP Q L w (.returned (.int .i64 r)) w7):=⟨S7,r,hq,HO7.out,rfl,L7,H7.out,HE7.out,HF7.out⟩
      clear hq
      go_wp2_with fail
      go_ret
      exact FF.out
def zi (n:Nat):List Value:=(Builtin.zeroCells #[.int .i64 0] n).toList
theorem zi_mem (n:Nat):∀v∈zi n,v.oneCell'=true:=by
 intro v hv
 simp only [zi,Builtin.zeroCells,Array.toList_map,List.mem_map] at hv
 obtain ⟨i,_,rfl⟩:=hv
 simp [Nat.mod_one]
 rfl
theorem zi_length (n:Nat):(zi n).length=n:=by simp [zi,Builtin.zeroCells]
theorem run_cleari_of (w:World) (g o c ty n:Nat) (w':World) (h:(storeCells ⟨g,o,none⟩ (zi (n+1))).run Tryz.prog w= .ok () w'):
  (Builtin.clear_ #[22] ty #[.slice (some ⟨g,o,none⟩) (n+1) c]).run Tryz.prog w= .ok (.tuple #[]) w':=by
 simp only [zi] at h
 simp only [Builtin.clear_,go_sem]
 simp [h,run_underlying Tryz.underlying22]
theorem run_clear_ints (w:World) (g c i ty c':Nat) (xs:List Int) (h:Ints w (some ⟨g,0,none⟩) c xs) (hi:i<xs.length):
  ∃w',(Builtin.clear_ #[22] ty #[.slice (some ⟨g,i,none⟩) (xs.length-i) c']).run Tryz.prog w= .ok (.tuple #[]) w'∧Ints w' (some ⟨g,0,none⟩) c (xs.take i)∧Fr [g] w w':=by
 have hl:=h.1
 rcases h.2 with ⟨h1,_⟩ |⟨g',cap,cur,hv,hb,hg,hn,hm,hs,ht⟩
 ·cases h1
 ·simp only [Value.slice.injEq,Option.some.injEq,Addr.mk.injEq,and_true,true_and] at hv
  obtain ⟨rfl,rfl⟩:=hv
  have hz:=zi_length (xs.length-i)
  have hst:=run_storeCells_at (P:=Tryz.prog) g i 3 (zi (xs.length-i)) 0 cur w hg (by rw [hz,Nat.add_zero,hs];omega) (zi_mem _)
  obtain ⟨m,hm2⟩:∃m,xs.length-i=m+1:=⟨xs.length-i-1,by omega⟩
  obtain ⟨new,hnew⟩:∃new,cur.toList.take (i+0)++zi (xs.length-i)++cur.toList.drop (i+0+(zi (xs.length-i)).length)=new:=⟨_,rfl⟩
  rw [hnew] at hst
  have hlen:new.length=c:=by
   rw [←hnew]
   simp only [List.length_append,List.length_take,List.length_drop,hz,Array.length_toList,hs]
   omega
  have htk:new.take i=(xs.take i).map (Value.int .i64):=by
   rw [List.map_take,←ht,←hnew,List.take_take,List.append_assoc,Nat.add_zero,List.take_append_of_le_length (by rw [List.length_take,Array.length_toList,hs];omega),List.take_take]
   congr 1
   omega
  clear hnew
  refine ⟨w.setRow g new.toArray,?_,?_,?_⟩
  ·rw [hm2] at hst⊢
   exact run_cleari_of _ _ _ _ _ _ _ hst
  ·have hli:(xs.take i).length=i:=by rw [List.length_take];omega
   refine ⟨by simp, .inr ⟨g,c,new.toArray,rfl,hb,setRow_heap w g cur _ _ _ hg,by omega,hm,by rw [List.size_toArray,hlen];omega,?_⟩⟩
   rw [hli]
   simpa using htk
  ·refine ⟨rfl,rfl,rfl,by simp,fun k _ hk=>setRow_other _ _ _ _ (fun e=>hk (by simp [e]))⟩
theorem Ra.set {xs:List Int} (h:Ra xs) (i:Nat) {x:Int} (hx:R64 x):Ra (xs.set i x):=by
 refine (mem_idx (p:=R64)).2 fun y hy=> ?_
 rcases List.mem_or_eq_of_mem_set hy with h1 |h1
 ·exact (mem_idx (p:=R64)).1 h y h1
 ·rw [h1];exact hx
theorem Ra.sub {xs ys:List Int} (h:Ra xs) (hs:∀y∈ys,y∈xs):Ra ys:=(mem_idx (p:=R64)).2 fun y hy=>(mem_idx (p:=R64)).1 h y (hs y hy)
def AsksF (F:List Nat) (w:World) (g:Nat) (cb:Array Value) (p:Int→Bool) (xs:List Int):Prop:=∀W,Fr F w W→∀x,x∈xs→R64 x→
 Calls Tryz.prog g (#[.int .i64 x]++cb) W fun e w'=>e= .returned (.bool (p x))∧Fr [] W w'
theorem AsksF.less {F:List Nat} {w:World} {g:Nat} {cb:Array Value} {p:Int→Bool} {xs:List Int} (h:AsksF F w g cb p xs):Asks w g cb p xs:=fun W hW x hx hr=>h W (hW.mono (fun k hk=>by cases hk)) x hx hr
def IxF (p:Int→Bool) (xs:List Int) (w:World) (e:Ending) (w':World):Prop:=
 ((e= .returned (.int .i64 (-1))∧∀x∈xs,p x=false)∨∃n:Nat,e= .returned (.int .i64 n)∧n<xs.length∧p xs[n]! =true∧NoneTo xs p n)∧Fr [] w w'
theorem index_first (w:World) (A:Option Addr) (c:Nat) (xs:List Int) (g:Nat) (cb:Array Value) (p:Int→Bool) (eg:∀args w,(callFunc g args).run Tryz.prog w= .ok (.enter g args) w) (h:Rd w A xs) (hr:Ra xs) (hl:xs.length≤17592186044416) (hp:Asks w g cb p xs):
  Calls Tryz.prog 97 #[.slice A xs.length c, .func (.func g) #[] cb] w (IxF p xs w):=by
 have HH:=Lib.hid h
 have HR:=Lib.hid hr
 have HP:=Lib.hid hp
 have YES:Hid (∀(n:Nat) W,n<xs.length→p xs[n]! =true→NoneTo xs p n→Fr [] w W→IxF p xs w (.returned (.int .i64 (n:Int))) W):=fun n W h1 h2 h3 h4=>⟨.inr ⟨n,rfl,h1,h2,h3⟩,h4⟩
 have NO:Hid (∀W,NoneTo xs p xs.length→Fr [] w W→IxF p xs w (.returned (.int .i64 (-1))) W):=fun W h2 h3=>⟨.inl ⟨rfl,(mem_idx (p:=fun x=>p x=false)).1 (fun j hj=>h2 j hj)⟩,h3⟩
 clear h hr hp
 go_enter Tryz.func97,Tryz.ntmps97
 go_wp2_with fail
 go_loopg [8] xs.length (fun g i wr=>∃k:Nat,k+g=xs.length∧i= .int .i64 k∧Fr [] w wr∧NoneTo xs p k)
 case atStart=>exact ⟨0,by omega,rfl,Fr.refl _ _,NoneTo.zero _ _⟩
 case round=>
  obtain ⟨k,hk,rfl,hx,hn⟩:=hrel
  have HK:=Lib.hid hk
  have HX:=Lib.hid hx
  have HN:=Lib.hid hn
  have hkn:k≤xs.length:=by omega
  clear hk hx hn
  by_cases hlt:k<xs.length
  ·obtain ⟨b,o,x,hA,he,cx,hx1,hx2⟩:=(HH.out.keep HX.out).one HR.out hlt
   subst hA
   obtain ⟨q,HQ⟩:∃q,Hid (p x=q):=⟨_,rfl⟩
   have HC:=Lib.hid (HP.out wr HX.out x (by rw [←he.out];exact mem_get hlt) ⟨hx1,hx2⟩)
   go_wp2_with fail
   refine HC.out.mono ?_
   rw [HQ.out]
   rintro e w2 ⟨rfl,hf⟩
   have HF:=Lib.hid (HX.out.then_ hf)
   clear hf
   cases q with
   |true=>
    go_wp2_with fail
    go_ret
    exact YES.out k _ hlt (by rw [he.out];exact HQ.out) HN.out HF.out
   |false=>
    go_wp2_with fail
    go_roundg (gk-1)
    case measure=>have :=HK.out;omega
    case rel=>exact ⟨k+1,by have :=HK.out;omega,by go_num,HF.out,HN.out.step (by rw [he.out];exact HQ.out)⟩
  ·obtain rfl :k=xs.length:=by omega
   clear HK
   go_wp2_with fail
   go_ret
   exact NO.out _ HN.out HX.out
def RowP (ys:List Int) (A:Option Addr) (c:Nat) (w:World) (e:Ending) (w':World):Prop:=e= .returned (.slice A ys.length c)∧Ints w' A c ys∧Fr (blks A) w w'
theorem filt_take {xs:List Int} {p:Int→Bool} {n:Nat} (h:NoneTo xs p n):(xs.take n).filter (fun x=> !p x)=xs.take n:=by
 rw [List.filter_eq_self]
 intro x hx
 obtain ⟨j,hj,e⟩:=List.mem_iff_getElem.1 hx
 rw [List.length_take] at hj
 rw [List.getElem_take] at e
 have :=h j (by omega)
 rw [List.getElem!_eq_getElem?_getD,List.getElem?_eq_getElem (by omega),Option.getD_some,e] at this
 simp [this]
theorem filt_step (xs:List Int) (p:Int→Bool) {j:Nat} (hj:j<xs.length):(xs.take (j+1)).filter (fun x=> !p x)=(xs.take j).filter (fun x=> !p x)++(if p xs[j]! =true then [] else [xs[j]!]):=by
 rw [List.take_add_one,List.filter_append,List.getElem?_eq_getElem hj,Option.toList_some]
 congr 1
 simp only [List.getElem!_eq_getElem?_getD,List.getElem?_eq_getElem hj,Option.getD_some]
 by_cases h:p xs[j]=true<;>simp [h]
theorem set_take (L:List Int) (i:Nat) (x:Int) (h:i<L.length):(L.set i x).take (i+1)=L.take i++[x]:=by
 rw [List.take_add_one,List.take_set_of_le (Nat.le_refl _),List.getElem?_set_self h]
 rfl
theorem get_set_lt {L:List Int} {i k:Nat} {x:Int} (h:i<k):(L.set i x)[k]! =L[k]! :=by
 simp only [List.getElem!_eq_getElem?_getD]
 rw [List.getElem?_set_ne (by omega)]
theorem delete_calls (w:World) (g c:Nat) (xs:List Int) (f:Nat) (cb:Array Value) (p:Int→Bool) (eg:∀args w,(callFunc f args).run Tryz.prog w= .ok (.enter f args) w) (h:Ints w (some ⟨g,0,none⟩) c xs) (hr:Ra xs) (hl:xs.length≤17592186044416) (hp:AsksF [g] w f cb p xs):
  Calls Tryz.prog 85 #[.slice (some ⟨g,0,none⟩) xs.length c, .func (.func f) #[] cb] w (RowP (xs.filter fun x=> !p x) (some ⟨g,0,none⟩) c w):=by
 have HH:=Lib.hid h
 have HR:=Lib.hid hr
 have HP:=Lib.hid hp
 have hcn:xs.length≤c∧c≤maxLen:=by
  rcases h.form with ⟨h1,_⟩ |⟨g',h1,_,h2,h3⟩
  ·cases h1
  ·exact ⟨h2,h3⟩
 have hcm:=hcn.2
 have hcn:=hcn.1
 rw [maxLen] at hcm
 obtain ⟨R,hR⟩:∃R,xs.filter (fun x=> !p x)=R:=⟨_,rfl⟩
 have HRR:=Lib.hid hR
 rw [hR]
 have NO:Hid (R=xs→∀W,Fr [] w W→RowP R (some ⟨g,0,none⟩) c w (.returned (.slice (some ⟨g,0,none⟩) xs.length c)) W):=fun e W h2=>by
  subst e
  exact ⟨rfl,HH.out.fr h2 (by simp),h2.mono (by simp)⟩
 have YES:Hid (∀(i:Nat) (L:List Int) W W',i<L.length→L.take i=R→Fr [g] w W→Ints W' (some ⟨g,0,none⟩) c (L.take i)→Fr [g] W W'→RowP R (some ⟨g,0,none⟩) c w (.returned (.slice (some ⟨g,0,none⟩) i c)) W'):=fun i L W W' h1 h2 h4 h5 h6=>by
  have hi:(L.take i).length=i:=by rw [List.length_take];omega
  rw [←h2]
  exact ⟨by rw [hi],h5,by simpa [blks] using h4.then_ h6⟩
 have HI:=Lib.hid (index_first w (some ⟨g,0,none⟩) c xs f cb p eg h.rd hr hl hp.less)
 clear h hr hp hR
 go_enter Tryz.func85,Tryz.ntmps85
 go_wp2_with fail
 refine HI.out.mono ?_
 rintro e w1 ⟨hc,hf1⟩
 have HF1:=Lib.hid hf1
 clear hf1
 rcases hc with ⟨rfl,hall⟩ |⟨n,rfl,hn,hpn,hno⟩
 ·have HALL:Hid (R=xs):=by
   rw [←HRR.out]
   exact List.filter_eq_self.2 (fun x hx=>by simp [hall x hx])
  clear hall
  go_wp2_with fail
  go_ret
  exact NO.out HALL.out _ HF1.out
 ·have HO0:=Lib.hid (HH.out.fr HF1.out (by simp))
  have HNE:Hid (((n:Int)== -1)=false):=(beq_eq_false_iff_ne.2 (by omega):((n:Int)== -1)=false)
  have HS0:Hid (xs.take n=(xs.take (n+1)).filter (fun x=> !p x)):=by
   show xs.take n=_
   rw [filt_step xs p hn,hpn,filt_take hno]
   simp
  clear hpn hno
  go_wp2_with fail
  go_loopg [5,6] (xs.length-(n+1)) (fun gk x5 x6 wr=>∃(i j:Nat) (L:List Int),j+gk=xs.length∧x5= .int .i64 i∧x6= .int .i64 j∧i<j∧L.length=xs.length∧Ra L∧Hid (L.take i=(xs.take j).filter (fun x=> !p x))∧Hid (∀k:Nat,j≤k→L[k]! =xs[k]!)∧Ints wr (some ⟨g,0,none⟩) c L∧Fr [g] w wr)
  case atStart=>exact ⟨n,n+1,xs,by omega,rfl,by go_num,by omega,rfl,HR.out,HS0.out,fun _ _=>rfl,HO0.out,HF1.out.mono (by simp)⟩
  case round=>
   obtain ⟨i,j,L,hk,rfl,rfl,hij,hLl,hLr,HT,HG,ho,hf⟩:=hrel
   have HK:=Lib.hid hk
   have HO:=Lib.hid ho
   have HF:=Lib.hid hf
   have HLR:=Lib.hid hLr
   have hjl:j≤xs.length:=by omega
   have HLL:=Lib.hid hLl
   clear hk ho hf HO0 HF1 hLr hLl
   by_cases hlt:j<xs.length
   ·obtain ⟨b,o,x,hA,he,cx,hx1,hx2⟩:=(HO.out.rd).one HLR.out (j:=j) (by rw [HLL.out];exact hlt)
    simp only [Option.some.injEq,Addr.mk.injEq,and_true] at hA
    obtain ⟨rfl,rfl⟩:=hA
    rw [Nat.zero_add] at cx
    have HX:Hid (xs[j]! =x):=(HG.out j (Nat.le_refl _)).symm.trans he.out
    obtain ⟨q,HQ⟩:∃q:Bool,Hid (p x=q):=⟨p x,Lib.hid rfl⟩
    have HC:=Lib.hid (HP.out wr HF.out x (by rw [←HX.out];exact mem_get hlt) ⟨hx1,hx2⟩)
    rw [HQ.out] at HC
    have HST:Hid ((xs.take (j+1)).filter (fun x=> !p x)=L.take i++if q=true then [] else [x]):=by
     show _=_
     rw [filt_step xs p hlt,HX.out,HQ.out,HT.out]
    go_wp2_with fail
    refine HC.out.mono ?_
    clear HC cx
    rintro e w3 ⟨rfl,hf⟩
    have HF3:Hid (Fr [g] w w3):=HF.out.then_ (hf.mono (by simp))
    have HO3:=Lib.hid (HO.out.fr hf (by simp))
    clear HF HO hf
    cases q with
    |true=>
     go_wp2_with fail
     go_roundg (gk-1)
     case measure=>have :=HK.out;omega
     case rel=>exact ⟨i,j+1,L,by have :=HK.out;omega,rfl,by go_num,by omega,HLL.out,HLR.out,by show _=_;rw [HST.out];simp,fun k hk=>HG.out k (by omega),HO3.out,HF3.out⟩
    |false=>
     have hiL:i<L.length:=by rw [HLL.out];omega
     have f0:=HO3.out.frozen i
     have c0:=HO3.out.cell hiL
     go_wp2_with fail
     go_roundg (gk-1)
     case measure=>have :=HK.out;omega
     case rel=>exact ⟨i+1,j+1,L.set i x,by have :=HK.out;omega,by go_num,by go_num,by omega,by rw [List.length_set];exact HLL.out,HLR.out.set i ⟨hx1,hx2⟩,by show _=_;rw [HST.out,set_take _ _ _ hiL];simp,fun k hk=>(get_set_lt (by omega)).trans (HG.out k (by omega)),HO3.out.set_ i x,HF3.out.setCell (.inl (by simp)) _⟩
   ·obtain rfl :j=xs.length:=by omega
    have hcl0:=run_clear_ints wr g c i 0 (c-i) L HO.out (by rw [HLL.out];exact hij)
    rw [HLL.out] at hcl0
    obtain ⟨w2,hcl,hr2,hf2⟩:=hcl0
    have HTR:Hid (L.take i=R):=by
     show _=_
     rw [HT.out,List.take_length]
     exact HRR.out
    go_wp2_with fail
    go_ret
    exact YES.out i L wr _ (by rw [HLL.out];exact hij) HTR.out HF.out hr2 hf2
theorem delete_any (w:World) (A:Option Addr) (c:Nat) (xs:List Int) (f:Nat) (cb:Array Value) (p:Int→Bool) (eg:∀args w,(callFunc f args).run Tryz.prog w= .ok (.enter f args) w) (h:Ints w A c xs) (hr:Ra xs) (hl:xs.length≤17592186044416) (hp:AsksF (blks A) w f cb p xs):
  Calls Tryz.prog 85 #[.slice A xs.length c, .func (.func f) #[] cb] w (RowP (xs.filter fun x=> !p x) A c w):=by
 rcases h.form with ⟨rfl,rfl,rfl⟩ |⟨g,rfl,_⟩
 ·have HI:=Lib.hid (index_first w none 0 [] f cb p eg (fun h=>absurd h (Nat.not_lt_zero _)) hr (by simp) hp.less)
  have HH:=Lib.hid h
  clear h hp
  go_enter Tryz.func85,Tryz.ntmps85
  go_wp2_with fail
  refine HI.out.mono ?_
  rintro e w1 ⟨hc,hf1⟩
  rcases hc with ⟨rfl,_⟩ |⟨n,rfl,hn,_⟩
  ·have HF:=Lib.hid hf1
   clear hf1
   go_wp2_with fail
   go_ret
   exact ⟨rfl,HH.out.fr HF.out (by simp),HF.out.mono (by simp)⟩
  ·exact absurd hn (Nat.not_lt_zero _)
 ·exact delete_calls w g c xs f cb p eg h hr hl (by simpa [blks] using hp)
def ddpN (xs:List Int):Nat→List Int
 |0=>[]
 |k+1=>if k=0∨xs[k]! ≠xs[k-1]! then ddpN xs k++[xs[k]!] else ddpN xs k
def ddp (xs:List Int):List Int:=ddpN xs xs.length
theorem ddp_new {xs:List Int} {k:Nat} (h:xs[k+1]! ≠xs[k]!):ddpN xs (k+2)=ddpN xs (k+1)++[xs[k+1]!]:=by
 rw [ddpN.eq_2,if_pos (.inr h)]
theorem ddp_old {xs:List Int} {k:Nat} (h:xs[k+1]! =xs[k]!):ddpN xs (k+2)=ddpN xs (k+1):=by
 rw [ddpN.eq_2,if_neg]
 rintro (h1 |h1)
 ·omega
 ·exact h1 h
theorem take_get1 {xs:List Int} {k:Nat} (h:k<xs.length):xs.take (k+1)=xs.take k++[xs[k]!]:=by
 rw [List.take_add_one,List.getElem?_eq_getElem h,Option.toList_some]
 simp only [List.getElem!_eq_getElem?_getD,List.getElem?_eq_getElem h,Option.getD_some]
theorem ddp_one (xs:List Int) (h:0<xs.length):ddpN xs 1=xs.take 1:=by
 rw [take_get1 h]
 simp [ddpN]
theorem compact_calls (w:World) (g c:Nat) (xs:List Int) (h:Ints w (some ⟨g,0,none⟩) c xs) (hr:Ra xs) (hl:xs.length≤17592186044416):
  Calls Tryz.prog 123 #[.slice (some ⟨g,0,none⟩) xs.length c] w (RowP (ddp xs) (some ⟨g,0,none⟩) c w):=by
 have HH:=Lib.hid h
 have HR:=Lib.hid hr
 have hcn:xs.length≤c∧c≤maxLen:=by
  rcases h.form with ⟨h1,_⟩ |⟨g',h1,_,h2,h3⟩
  ·cases h1
  ·exact ⟨h2,h3⟩
 have hcm:=hcn.2
 have hcn:=hcn.1
 rw [maxLen] at hcm
 have NO:Hid (ddpN xs xs.length=xs→∀W,Fr [] w W→RowP (ddp xs) (some ⟨g,0,none⟩) c w (.returned (.slice (some ⟨g,0,none⟩) xs.length c)) W):=fun e W h2=>by
  unfold ddp
  rw [e]
  exact ⟨rfl,HH.out.fr h2 (by simp),h2.mono (by simp)⟩
 have YES:Hid (∀(i:Nat) (L:List Int) W W',i<L.length→L.take i=ddpN xs xs.length→Fr [g] w W→Ints W' (some ⟨g,0,none⟩) c (L.take i)→Fr [g] W W'→RowP (ddp xs) (some ⟨g,0,none⟩) c w (.returned (.slice (some ⟨g,0,none⟩) i c)) W'):=fun i L W W' h1 h2 h4 h5 h6=>by
  have hi:(L.take i).length=i:=by rw [List.length_take];omega
  unfold ddp
  rw [←h2]
  exact ⟨by rw [hi],h5,by simpa [blks] using h4.then_ h6⟩
 clear h hr
 by_cases h2:xs.length<2
 ·have d2:decide ((xs.length:Int)<2)=true:=decide_eq_true (by omega)
  go_enter Tryz.func123,Tryz.ntmps123
  go_wp2_with fail
  go_ret
  exact NO.out (by
   rcases Nat.lt_or_ge 0 xs.length with h0 |h0
   ·have e:xs.length=1:=by omega
    rw [e,ddp_one xs h0]
    exact List.take_of_length_le (by omega)
   ·have e:xs.length=0:=by omega
    rw [e]
    exact (List.eq_nil_of_length_eq_zero e).symm) _ (Fr.refl _ _)
 ·have d2:decide ((xs.length:Int)<2)=false:=decide_eq_false (by omega)
  go_enter Tryz.func123,Tryz.ntmps123
  go_wp2_with fail
  go_loopg [3] (xs.length-1) (fun gk x3 wr=>∃j:Nat,j+1+gk=xs.length∧x3= .int .i64 ((j+1:Nat):Int)∧Hid (ddpN xs (j+1)=xs.take (j+1))∧Fr [] w wr)
  case atStart=>exact ⟨0,by omega,rfl,ddp_one xs (by omega),Fr.refl _ _⟩
  case round=>
   obtain ⟨j,hk,rfl,HD,hf⟩:=hrel
   have HK:=Lib.hid hk
   have HF:=Lib.hid hf
   have HO:=Lib.hid (HH.out.fr hf (by simp))
   have hjn:j+1≤xs.length:=by omega
   clear hk hf
   by_cases hlt:j+1<xs.length
   ·obtain ⟨b,o,x,hA,he,cx,hx1,hx2⟩:=(HO.out.rd).one HR.out hlt
    obtain ⟨b',o',x',hA',he',cx',hx1',hx2'⟩:=(HO.out.rd).one HR.out (j:=j) (by omega)
    simp only [Option.some.injEq,Addr.mk.injEq,and_true] at hA hA'
    obtain ⟨rfl,rfl⟩:=hA
    obtain ⟨rfl,rfl⟩:=hA'
    rw [Nat.zero_add] at cx cx'
    have e1:=Ext.cell cx
    have e2:=Ext.cell cx'
    obtain ⟨q,HQ⟩:∃q:Bool,Hid ((x==x')=q):=⟨(x==x'),Lib.hid rfl⟩
    have hq:=HQ.out
    have hw1:IntKind.i64.wrap (((j+1:Nat):Int)-1)=(j:Int):=by rw [IntKind.wrap_i64];omega
    cases q with
    |false=>
     have HNEW:Hid (ddpN xs (j+1+1)=xs.take (j+1+1)):=by
      show _=_
      rw [ddp_new (by rw [he.out,he'.out];exact fun e=>by have :=HQ.out;simp [e] at this),HD.out,take_get1 hlt]
     go_wp2_with fail
     refine wp_region_ext (by kernel_rfl) (by kernel_rfl) ?_
     repeat (go_big_quiet_step (fail))
     refine wpQuiet_nil ?_
     rintro w2 ⟨u2,hu2⟩
     have HF_w2:Hid (Fr [] wr w2):=hu2▸u2.fr
     clear hu2 u2
     clear cx cx' e1 e2
     go_wp2_with fail
     go_roundg (gk-1)
     case measure=>have :=HK.out;omega
     case rel=>exact ⟨j+1,by have :=HK.out;omega,by go_num,HNEW.out,HF.out.then_ HF_w2.out⟩
    |true=>
     have HOLD:Hid (xs.take (j+1)=ddpN xs (j+1+0+1)):=by
      show _=_
      rw [Nat.add_zero,ddp_old (by rw [he.out,he'.out];exact beq_iff_eq.1 HQ.out),HD.out]
     go_wp2_with fail
     refine wp_region_ext (by kernel_rfl) (by kernel_rfl) ?_
     repeat (go_big_quiet_step (fail))
     refine wpQuiet_nil ?_
     rintro w2 ⟨u2,hu2⟩
     have HF_w2:Hid (Fr [] wr w2):=hu2▸u2.fr
     clear hu2 u2
     clear cx cx' e1 e2 hq hw1
     have HO2:=Lib.hid (HO.out.fr HF_w2.out (by simp))
     have HF2:=Lib.hid (HF.out.then_ HF_w2.out)
     clear HO HF HF_w2
     go_wp2_with fail
     generalize hM2:xs.length-(j+1)=M2
     go_loopg [3,5] (M2-1) (fun gk x3 x5 wr=>∃(k m:Nat) (L:List Int),m+1+gk=M2∧x3= .int .i64 k∧x5= .int .i64 ((m+1:Nat):Int)∧j+1≤k∧k<j+1+(m+1)∧L.length=xs.length∧Ra L∧Hid (L.take k=ddpN xs (j+1+m+1))∧Hid (∀q:Nat,j+1+m≤q→L[q]! =xs[q]!)∧Ints wr (some ⟨g,0,none⟩) c L∧Fr [g] w wr)
     case atStart=>exact ⟨j+1,0,xs,by omega,by go_num,by go_num,by omega,by omega,rfl,HR.out,HOLD.out,fun _ _=>rfl,HO2.out,HF2.out.mono (by simp)⟩
     case round=>
      obtain ⟨k,m,L,hk,rfl,rfl,hk1,hk2,hLl,hLr,HT,HG,ho,hf⟩:=hrel
      have HK:=Lib.hid hk
      have HF:=Lib.hid hf
      have HO:=Lib.hid ho
      have HLL:=Lib.hid hLl
      have HLR:=Lib.hid hLr
      have hmn:m+1≤M2:=by omega
      clear hk hf ho hLl hLr HO2 HF2
      by_cases hlt2:m+1<M2
      ·obtain ⟨b,o,y,hA,he,cy,hy1,hy2⟩:=(HO.out.rd).one HLR.out (j:=j+1+(m+1)) (by rw [HLL.out];omega)
       obtain ⟨b',o',y',hA',he',cy',hy1',hy2'⟩:=(HO.out.rd).one HLR.out (j:=j+1+m) (by rw [HLL.out];omega)
       simp only [Option.some.injEq,Addr.mk.injEq,and_true] at hA hA'
       obtain ⟨rfl,rfl⟩:=hA
       obtain ⟨rfl,rfl⟩:=hA'
       rw [Nat.zero_add] at cy cy'
       have e1:=Ext.cell cy
       have e2:=Ext.cell cy'
       have hw1:IntKind.i64.wrap (((m+1:Nat):Int)-1)=(m:Int):=by rw [IntKind.wrap_i64];omega
       obtain ⟨q,HQ⟩:∃q:Bool,Hid ((y !=y')=q):=⟨(y !=y'),Lib.hid rfl⟩
       have hq:=HQ.out
       have HX1:Hid (xs[j+1+m+1]! =y):=(HG.out (j+1+m+1) (by omega)).symm.trans he.out
       have HX2:Hid (xs[j+1+m]! =y'):=(HG.out (j+1+m) (Nat.le_refl _)).symm.trans he'.out
       cases q with
       |false=>
        have HS:Hid (L.take k=ddpN xs (j+1+(m+1)+1)):=by
         show _=_
         rw [HT.out,show j+1+(m+1)+1=j+1+m+2 from by omega,ddp_old (by rw [HX1.out,HX2.out];have :=HQ.out;simpa using this)]
        go_wp2_with fail
        refine wp_region_ext (by kernel_rfl) (by kernel_rfl) ?_
        repeat (go_big_quiet_step (fail))
        refine wpQuiet_nil ?_
        rintro w2 ⟨u2,hu2⟩
        have HF_w2:Hid (Fr [] wr w2):=hu2▸u2.fr
        clear hu2 u2
        clear cy cy' e1 e2
        go_wp2_with fail
        go_roundg (gk-1)
        case measure=>have :=HK.out;omega
        case rel=>exact ⟨k,m+1,L,by have :=HK.out;omega,rfl,by go_num,hk1,by omega,HLL.out,HLR.out,HS.out,fun q hq=>HG.out q (by omega),HO.out.fr HF_w2.out (by simp),HF.out.then_ (HF_w2.out.mono (by simp))⟩
       |true=>
        have hkL:k<L.length:=by rw [HLL.out];omega
        have HS:Hid ((L.set k y).take (k+1)=ddpN xs (j+1+(m+1)+1)):=by
         show _=_
         rw [set_take _ _ _ hkL,HT.out,show j+1+(m+1)+1=j+1+m+2 from by omega,ddp_new (by rw [HX1.out,HX2.out];have :=HQ.out;simpa using this),HX1.out]
        go_wp2_with fail
        refine wp_region_ext (by kernel_rfl) (by kernel_rfl) ?_
        repeat (go_big_quiet_step (fail))
        refine wpQuiet_nil ?_
        rintro w2 ⟨u2,hu2⟩
        have HF_w2:Hid (Fr [] wr w2):=hu2▸u2.fr
        clear hu2 u2
        have HO3:=Lib.hid (HO.out.fr HF_w2.out (by simp))
        have HF3:Hid (Fr [g] w w2):=HF.out.then_ (HF_w2.out.mono (by simp))
        have cy2:=HF_w2.out.cellS cy
        clear cy cy' e1 e2 hq hw1 HF HO HF_w2
        have f0:=HO3.out.frozen k
        have c0:=HO3.out.cell hkL
        go_wp2_with fail
        go_roundg (gk-1)
        case measure=>have :=HK.out;omega
        case rel=>exact ⟨k+1,m+1,L.set k y,by have :=HK.out;omega,by go_num,by go_num,by omega,by omega,by rw [List.length_set];exact HLL.out,HLR.out.set k ⟨hy1,hy2⟩,HS.out,fun q hq=>(get_set_lt (by omega)).trans (HG.out q (by omega)),HO3.out.set_ k y,HF3.out.setCell (.inl (by simp)) _⟩
      ·obtain rfl :M2=m+1:=by omega
       have hkl:k<xs.length:=by omega
       have hcl0:=run_clear_ints wr g c k 0 (c-k) L HO.out (by rw [HLL.out];exact hkl)
       rw [HLL.out] at hcl0
       obtain ⟨w2,hcl,hr2,hf2⟩:=hcl0
       have HTR:Hid (L.take k=ddpN xs xs.length):=by
        show _=_
        rw [HT.out,show j+1+m+1=xs.length from by omega]
       go_wp2_with fail
       go_ret
       exact YES.out k L wr _ (by rw [HLL.out];exact hkl) HTR.out HF.out hr2 hf2
   ·have HDD:Hid (ddpN xs xs.length=xs):=by
     show _=_
     have e:j+1=xs.length:=by omega
     have :=HD.out
     rw [e,List.take_length] at this
     exact this
    clear HK
    go_wp2_with fail
    go_ret
    exact NO.out HDD.out _ HF.out
theorem compact_any (w:World) (A:Option Addr) (c:Nat) (xs:List Int) (h:Ints w A c xs) (hr:Ra xs) (hl:xs.length≤17592186044416):
  Calls Tryz.prog 123 #[.slice A xs.length c] w (RowP (ddp xs) A c w):=by
 rcases h.form with ⟨rfl,rfl,rfl⟩ |⟨g,rfl,_⟩
 ·have HH:=Lib.hid h
  clear h
  go_enter Tryz.func123,Tryz.ntmps123
  go_wp2_with fail
  go_ret
  exact ⟨rfl,HH.out,Fr.refl _ _⟩
 ·exact compact_calls w g c xs h hr hl
theorem tv_up {a:Int} (h:R64 a) (hl:a<wrap64 (-a)):wrap64 (-a)=tv a:=by
 obtain ⟨h0,h1⟩:=h
 rcases lit_cases a h0 with ⟨h2,h3⟩ |⟨h2,h3,h4⟩ |⟨h2,h3,h4⟩
 ·have :wrap64 (-a)= -a:=by unfold wrap64;omega
  omega
 ·rw [h4];unfold wrap64;omega
 ·omega
theorem tv_on {a:Int} (h:R64 a) (hl:¬a<wrap64 (-a)):a=tv a:=by
 obtain ⟨h0,h1⟩:=h
 rcases lit_cases a h0 with ⟨h2,h3⟩ |⟨h2,h3,h4⟩ |⟨h2,h3,h4⟩
 ·omega
 ·have :wrap64 (-a)= -a:=by unfold wrap64;omega
  omega
 ·omega
theorem abs_calls (w:World) (a:Int) (h:R64 a):Calls Tryz.prog 56 #[.int .i64 a] w fun e w'=>e= .returned (.int .i64 (tv a))∧w=w':=by
 have HU:=Lib.hid (@tv_up a h)
 have HO:=Lib.hid (@tv_on a h)
 go_enter Tryz.func56,Tryz.ntmps56
 go_wp2_with fail
 all_goals (go_ret;first |exact ⟨by rw [←HU.out (by assumption)];rfl,rfl⟩ |exact ⟨by rw [←HO.out (by omega)];rfl,rfl⟩)
def offB (vars:Int) (x:Int):Bool:=decide (tv x<1) ||decide (vars<tv x)
theorem chk1_calls (W:World) (b:Nat) (vars:Int) (hc:W.cell? ⟨b,0,none⟩=some (.int .i64 vars)) (x:Int) (hx:R64 x):
  Calls Tryz.prog 55 #[.int .i64 x, .pointer (some ⟨b,0,none⟩)] W fun e w'=>e= .returned (.bool (offB vars x))∧Fr [] W w':=by
 have KA:=Lib.hid (fun u:Ext W=>abs_calls u.v x hx)
 obtain ⟨t,ht⟩:∃t,tv x=t:=⟨_,rfl⟩
 simp only [ht] at KA
 have eb:=Ext.cell hc
 unfold offB
 rw [ht]
 by_cases h1:t<1
 ·have hd:decide (t<1)=true:=decide_eq_true h1
  rw [hd]
  go_enter Tryz.func55,Tryz.ntmps55
  go_wp2_with fail
  refine wp_region_ext (by kernel_rfl) (by kernel_rfl) ?_
  repeat (go_big_quiet_step (exact call_same (KA.out _)))
  refine wpQuiet_nil ?_
  rintro w2 ⟨u2,hu2⟩
  have HF_w2:Hid (Fr [] W w2):=hu2▸u2.fr
  clear hu2 u2
  clear eb hc
  go_wp2_with fail
  go_ret
  exact ⟨rfl,HF_w2.out⟩
 ·have hd:decide (t<1)=false:=decide_eq_false h1
  rw [hd]
  by_cases h2:vars<t
  ·have hd2:decide (vars<t)=true:=decide_eq_true h2
   rw [hd2]
   go_enter Tryz.func55,Tryz.ntmps55
   go_wp2_with fail
   refine wp_region_ext (by kernel_rfl) (by kernel_rfl) ?_
   repeat (go_big_quiet_step (exact call_same (KA.out _)))
   refine wpQuiet_nil ?_
   rintro w2 ⟨u2,hu2⟩
   have HF_w2:Hid (Fr [] W w2):=hu2▸u2.fr
   clear hu2 u2
   clear eb hc
   go_wp2_with fail
   go_ret
   exact ⟨rfl,HF_w2.out⟩
  ·have hd2:decide (vars<t)=false:=decide_eq_false h2
   rw [hd2]
   go_enter Tryz.func55,Tryz.ntmps55
   go_wp2_with fail
   refine wp_region_ext (by kernel_rfl) (by kernel_rfl) ?_
   repeat (go_big_quiet_step (exact call_same (KA.out _)))
   refine wpQuiet_nil ?_
   rintro w2 ⟨u2,hu2⟩
   have HF_w2:Hid (Fr [] W w2):=hu2▸u2.fr
   clear hu2 u2
   clear eb hc
   go_wp2_with fail
   go_ret
   exact ⟨rfl,HF_w2.out⟩
theorem enters_chk1:∀args w,(callFunc 55 args).run Tryz.prog w= .ok (.enter 55 args) w:=enters_of Tryz.func55 (by kernel_rfl) rfl
def chkF (vars:Int) (xs:List Int):Int:=if 1024<xs.length then 5 else if xs.any (offB vars)=true then 4 else 0
theorem check_callsCi (w:World) (vars:Int) (A:Option Addr) (c:Nat) (xs:List Int) (h:Rd w A xs) (hr:Ra xs):
  Calls Tryz.prog 27 #[.int .i64 vars, .slice A xs.length c] w fun e w'=>e= .returned (.int .i64 (chkF vars xs))∧Fr [] w w':=by
 unfold chkF
 by_cases hl:1024<xs.length
 ·rw [if_pos hl]
  have hl':(1024:Int)<(xs.length:Int):=by omega
  clear h hr
  go_enter Tryz.func27,Tryz.ntmps27
  go_wp2_with fail
  go_ret
  exact ⟨rfl,box_fr' _ _⟩
 ·rw [if_neg hl]
  have HB:Hid (Fr [] w (w.alloc (.cells #[.int .i64 vars] 3))):=box_fr' _ _
  have HCE:Hid ((w.alloc (.cells #[.int .i64 vars] 3)).cell? ⟨w.heap.size,0,none⟩=some (.int .i64 vars)):=(At.new w _ _).cell 0
  have KC:=Lib.hid (contains_ints (w.alloc (.cells #[.int .i64 vars] 3)) A c xs 55 #[.pointer (some ⟨w.heap.size,0,none⟩)] (offB vars) enters_chk1 (h.keep HB.out) hr (by omega) (fun W hW x _ hx=>chk1_calls W w.heap.size vars (hW.cellS HCE.out) x hx))
  have hl':(xs.length:Int)≤(1024:Int):=by omega
  obtain ⟨q,hq⟩:∃q,xs.any (offB vars)=q:=⟨_,rfl⟩
  rw [hq] at KC⊢
  clear h hr hq
  go_enter Tryz.func27,Tryz.ntmps27
  go_wp2_with fail
  refine KC.out.mono ?_
  rintro e w2 ⟨rfl,hf⟩
  have HF:=Lib.hid (HB.out.then_ hf)
  clear hf KC
  cases q with
  |true=>
   go_wp2_with fail
   go_ret
   exact ⟨rfl,HF.out⟩
  |false=>
   go_wp2_with fail
   go_ret
   exact ⟨rfl,HF.out⟩
theorem sol1_calls (W:World) (b a:Nat) (vars:Int) (hb:W.cell? ⟨b,0,none⟩=some (.pointer (some ⟨a,0,none⟩))) (hc:W.cell? ⟨a,2,none⟩=some (.int .i64 vars)) (x:Int) (hx:R64 x):
  Calls Tryz.prog 113 #[.int .i64 x, .pointer (some ⟨b,0,none⟩)] W fun e w'=>e= .returned (.bool (offB vars x))∧Fr [] W w':=by
 have HU:=Lib.hid (@tv_up x hx)
 have HO:=Lib.hid (@tv_on x hx)
 unfold offB
 go_enter Tryz.func113,Tryz.ntmps113
 go_wp2_with fail
 all_goals (go_ret;refine ⟨?_,Fr.refl _ _⟩;first |rw [←HU.out (by assumption)] |rw [←HO.out (by omega)])
 all_goals first | (rw [Bool.or_comm];rfl) | (rw [decide_eq_true (by assumption:vars<wrap64 (-x)),Bool.or_true];rfl) | (rw [decide_eq_true (by assumption:vars<x),Bool.or_true];rfl) | (rw [decide_eq_false (by omega:¬vars<wrap64 (-x)),Bool.or_false];rfl) | (rw [decide_eq_false (by omega:¬vars<x),Bool.or_false];rfl)
theorem enters_sol1:∀args w,(callFunc 113 args).run Tryz.prog w= .ok (.enter 113 args) w:=enters_of Tryz.func113 (by kernel_rfl) rfl
theorem Rd.take1024 {w:World} {A:Option Addr} {us:List Int} {k:Nat} (h:Rd w A us):Rd w A (us.take k):=by
 intro h0
 rw [List.length_take] at h0
 obtain ⟨b,o,hA,hx⟩:=h (by omega)
 refine ⟨b,o,hA,fun j hj=> ?_⟩
 rw [List.length_take] at hj
 rw [hx j (by omega)]
 simp only [List.getElem!_eq_getElem?_getD,List.getElem?_take,if_pos (show j<k by omega)]
theorem tv_rng {x:Int} (h:R64 x):(x≤tv x∧ -x≤tv x)∨tv x<0:=by
 obtain ⟨h0,h1⟩:=h
 rcases lit_cases x h0 with ⟨h2,h3⟩ |⟨h2,h3,h4⟩ |⟨h2,h3,h4⟩<;>omega
namespace Sv
def fresh0 (S:Sv):Sv:={ S with has:=false,core:=[] }
def solveW (red:Bool) (budget:Int) (us:List Int) (D C:Nat) (Q:Sv→Int→Prop) (S:Sv):Prop:=
 if (decide (budget<1) ||us.any (offB S.vars))=true then Q S.fresh0 0
 else if S.bad=true then Q S.fresh0.used1 2
 else searchW red budget us (fun S1 r=>Q (S1.back 0) r) D C 64 0 S.fresh0.used1
theorem Ok.fresh0 {S:Sv} {m:Nat} (ok:S.Ok m):S.fresh0.Ok m:=⟨ok.vl,ok.tr,ok.hi,ok.hl,ok.ph,ok.wl,ok.ll,ok.wb,ok.wt,ok.lr,ok.ln,ok.lb,ok.hd,ok.rs⟩
end Sv
theorem SvAt.fresh0 {w:World} {L:SvL} {S:Sv} (h:SvAt w L S):
  ∃L',SvAt ((w.setCell ⟨L.a,14,none⟩ (.bool false)).setCell ⟨L.a,7,none⟩ (.slice none 0 0)).drew L' S.fresh0∧L.ext L' w∧Fr (L.own w) w ((w.setCell ⟨L.a,14,none⟩ (.bool false)).setCell ⟨L.a,7,none⟩ (.slice none 0 0)).drew:=by
 obtain ⟨g1,f1⟩:=h.setc 14 (.bool false) { S with has:=false } (by simp [scs]) ⟨rfl,rfl,rfl,rfl,rfl,rfl,rfl⟩
 obtain ⟨L',g2,e2,f2,_⟩:=g1.setcore (F:=[]) (Ints.nil _) (Fr.refl _ _) (fun k hk=>by cases hk) (fun k hk=>by simp [blks] at hk)
 have hz:w.heap.size≤(w.setCell ⟨L.a,14,none⟩ (.bool false)).heap.size:=f1.size
 exact ⟨L',g2.keep (Fr.refl [] _).drew,⟨e2.1,e2.2.1,fun k hk e=>e2.2.2 k (Nat.lt_of_lt_of_le hk hz) e⟩,(SvL.own_then (SvL.ext_refl L w) f1 f2).drew⟩
theorem solve_calls (red:Bool) (KRED:red=true→RedC) (w:World) (L:SvL) (S:Sv) (h:SvAt w L S) (ok:S.Ok 0) (A:Option Addr) (c:Nat) (us:List Int) (hrd:Rdx w L A us) (hra:Ra us) (hcap:us.length≤c) (hul:us.length≤1099511627776) (budget:Int) (D C:Nat) (Q:Sv→Int→Prop) (hus:S.used<4611686018427387904) (hW:S.solveW red budget us D C Q):
  Calls Tryz.prog 74 #[.pointer (some ⟨L.a,0,none⟩), .int .i64 budget, .slice A us.length c] w (SrP Q L w):=by
 obtain ⟨w1,hw1⟩:∃w1,w.alloc (.cells #[.pointer (some ⟨L.a,0,none⟩)] 79)=w1:=⟨_,rfl⟩
 have HFB:Hid (Fr [] w w1):=by rw [←hw1];exact box_fr' _ _
 have hcb:w1.cell? ⟨w.heap.size,0,none⟩=some (.pointer (some ⟨L.a,0,none⟩)):=by rw [←hw1];exact (At.new w _ _).cell 0
 have HCB:=Lib.hid hcb
 obtain ⟨L1,hL1⟩:∃L1,L.shut w=L1:=⟨_,rfl⟩
 have H1:Hid (SvAt w1 L1 S):=by rw [←hL1];exact h.shut.keep HFB.out
 have HE1:Hid (L.ext L1 w):=by rw [←hL1];exact L.seal_ext w
 have hnb:(L1.lab w.heap.size).1≠L1.id:=by rw [←hL1];exact SvL.seal_new (Nat.le_refl _)
 have HNB:Hid (w.heap.size∉L1.own w1):=SvL.not_own hnb
 have HNB':=Lib.hid hnb
 have HF1:Hid (Fr (L.own w) w w1):=HFB.out.mono (fun k hk=>by cases hk)
 have HR1:Hid (Rdx w1 L1 A us):=⟨hrd.1.keep HFB.out,fun h0=>far_ext HE1.out (hrd.2 h0) (fun k hk=>hrd.1.blk h0 k hk)⟩
 have HOK:=Lib.hid ok
 have HW:=Lib.hid hW
 have HRA:=Lib.hid hra
 have HKR:=Lib.hid KRED
 have KM:=Lib.hid (made_calls w1 L1 S H1.out)
 have hea:L1.a=L.a:=HE1.out.1
 rw [hea] at KM
 have f14:=H1.out.obj.frozen 14
 have f7:=H1.out.obj.frozen 7
 obtain ⟨-,-,-,-,-,-,-,c7,-,-,-,-,-,-,c14⟩:=H1.out.cells
 rw [hea] at f14 f7 c7 c14
 obtain ⟨L2,h2,he2,hf2⟩:=H1.out.fresh0
 rw [hea] at h2 hf2
 have HH2:=Lib.hid h2
 have HEE2:=Lib.hid he2
 have HFF2:=Lib.hid hf2
 clear h ok hrd hW hra hL1 hea h2 he2 hf2 KRED hnb
 go_enter Tryz.func74,Tryz.ntmps74
 go_upto_region 1 with fail
 clear hw1
 go_wp2_with fail
 refine KM.out.mono ?_
 clear KM
 rintro e w2 ⟨rfl,rfl⟩
 go_upto_region 3 with fail
 go_region
 obtain ⟨w3,hw3⟩:∃w3,((w1.setCell ⟨L.a,14,none⟩ (.bool false)).setCell ⟨L.a,7,none⟩ (.slice none 0 0)).drew=w3:=⟨_,rfl⟩
 rw [hw3] at HH2 HFF2⊢
 have H3:=HH2
 have HF13:=HFF2
 have HE3:Hid (L.ext L2 w):=SvL.ext_trans HE1.out HEE2.out HF1.out.size
 have HF3:Hid (Fr (L.own w) w w3):=SvL.own_then HE1.out HF1.out HF13.out
 have HR3:Hid (Rdx w3 L2 A us):=HR1.out.step HEE2.out HF13.out
 have hcb3:=HF13.out.cellN HNB.out HCB.out
 have HCB3:=Lib.hid hcb3
 have HNB3:Hid ((L2.lab w.heap.size).1≠L2.id):=fun e=>HNB'.out (HEE2.out.2.2 _ (by have :=lt_of_cell HCB.out;exact this) (e.trans HEE2.out.2.1))
 have HO3:=Lib.hid HOK.out.fresh0
 clear hw3 hcb c7 c14 f7 f14 HH2 HFF2
 have hws:=HW.out
 unfold Sv.solveW at hws
 by_cases hb1:budget<1
 ·have hd:decide (budget<1)=true:=decide_eq_true hb1
  rw [hd,Bool.true_or,if_pos rfl] at hws
  have HQ:=Lib.hid hws
  clear hws
  go_wp2_with fail
  go_region
  clear hcb3
  have FF:Hid (SrP Q L w (.returned (.int .i64 0)) w3.drew):=⟨S.fresh0,0,HQ.out,HO3.out,rfl,L2,H3.out.keep (Fr.refl [] w3).drew,HE3.out,HF3.out.then_ ((Fr.refl [] w3).drew.mono (fun k hk=>by cases hk))⟩
  go_wp2_with fail
  go_ret
  exact FF.out
 ·have hd:decide (budget<1)=false:=decide_eq_false hb1
  rw [hd,Bool.false_or] at hws
  have HQ:=Lib.hid hws
  obtain ⟨-,-,c2,-⟩:=H3.out.cells
  rw [HE3.out.1] at c2
  have HC2:=Lib.hid c2
  have hvs:S.fresh0.vars=S.vars:=rfl
  rw [hvs] at c2
  have e2:=Ext.cell c2
  have eb:=Ext.cell hcb3
  have KCO:=Lib.hid (fun u:Ext w3=>contains_ints u.v A c us 113 #[.pointer (some ⟨w.heap.size,0,none⟩)] (offB (S.vars:Int)) enters_sol1 (HR3.out.1.keep u.fr) HRA.out (by omega) (fun W hW x _ hx=>sol1_calls W w.heap.size L.a (S.vars:Int) ((u.fr.then_ hW).cellS HCB3.out) ((u.fr.then_ hW).cellS HC2.out) x hx))
  clear hws hvs
  by_cases hk:1024<us.length
  ·have hki:(1024:Int)<(us.length:Int):=by omega
   have hcc:(1024:Int)≤(c:Int):=by omega
   have hlen:(us.take 1024).length=1024:=by rw [List.length_take];omega
   have KCK:=Lib.hid (fun u:Ext w3=>check_callsCi u.v (S.vars:Int) A c (us.take 1024) (HR3.out.1.keep u.fr).take1024 (Ra.sub HRA.out (fun y hy=>List.mem_of_mem_take hy)))
   have HP:Hid ((us.take 1024).any (offB (S.vars:Int))=true→us.any (offB (S.vars:Int))=true):=fun h5=>by
    rw [List.any_eq_true] at h5⊢
    obtain ⟨y,hy,h6⟩:=h5
    exact ⟨y,List.mem_of_mem_take hy,h6⟩
   unfold chkF at KCK
   rw [hlen] at KCK
   simp only [Nat.lt_irrefl,if_false] at KCK
   obtain ⟨p,hp⟩:∃p,(us.take 1024).any (offB (S.vars:Int))=p:=⟨_,rfl⟩
   rw [hp] at KCK HP
   clear hp hlen hk
   cases p with
   |true=>
    have hq:=HQ.out
    rw [if_pos (HP.out rfl)] at hq
    have HQ:=Lib.hid hq
    simp only [if_true] at KCK
    clear hq HP
    go_wp2_with fail
    refine wp_region_ext (by kernel_rfl) (by kernel_rfl) ?_
    repeat (go_big_quiet_step (first |exact call_ext (KCK.out _) |exact call_ext (KCO.out _)))
    refine wpQuiet_nil ?_
    rintro w4 ⟨u2,hu2⟩
    have HF_w4:Hid (Fr [] w3 w4):=hu2▸u2.fr
    clear hu2 u2
    clear hcb3 c2 e2 eb KCK KCO
    have FF:Hid (SrP Q L w (.returned (.int .i64 0)) w4):=⟨S.fresh0,0,HQ.out,HO3.out,rfl,L2,H3.out.keep HF_w4.out,HE3.out,HF3.out.then_ (HF_w4.out.mono (fun k hk=>by cases hk))⟩
    go_wp2_with fail
    go_ret
    exact FF.out
   |false=>
    simp only [Bool.false_eq_true,if_false] at KCK
    obtain ⟨q,hq5⟩:∃q,us.any (offB (S.vars:Int))=q:=⟨_,rfl⟩
    rw [hq5] at KCO
    have hq:=HQ.out
    rw [hq5] at hq
    have HUQ:=Lib.hid hq5
    cases q with
    |true=>
     rw [if_pos rfl] at hq
     have HQ:=Lib.hid hq
     clear hq HP hq5
     go_wp2_with fail
     refine wp_region_ext (by kernel_rfl) (by kernel_rfl) ?_
     repeat (go_big_quiet_step (first |exact call_ext (KCK.out _) |exact call_ext (KCO.out _)))
     refine wpQuiet_nil ?_
     rintro w4 ⟨u2,hu2⟩
     have HF_w4:Hid (Fr [] w3 w4):=hu2▸u2.fr
     clear hu2 u2
     clear hcb3 c2 e2 eb KCK KCO
     have FF:Hid (SrP Q L w (.returned (.int .i64 0)) w4):=⟨S.fresh0,0,HQ.out,HO3.out,rfl,L2,H3.out.keep HF_w4.out,HE3.out,HF3.out.then_ (HF_w4.out.mono (fun k hk=>by cases hk))⟩
     go_wp2_with fail
     go_ret
     exact FF.out
    |false=>
     rw [if_neg (by simp)] at hq
     have HQ:=Lib.hid hq
     clear hq HP hq5
     go_wp2_with fail
     refine wp_region_ext (by kernel_rfl) (by kernel_rfl) ?_
     repeat (go_big_quiet_step (first |exact call_ext (KCK.out _) |exact call_ext (KCO.out _)))
     refine wpQuiet_nil ?_
     rintro w4 ⟨u2,hu2⟩
     have HF_w4:Hid (Fr [] w3 w4):=hu2▸u2.fr
     clear hu2 u2
     clear hcb3 c2 e2 eb KCK KCO
     have H4:=Lib.hid (H3.out.keep HF_w4.out)
     have HF4:Hid (Fr (L.own w) w w4):=HF3.out.then_ (HF_w4.out.mono (fun k hk=>by cases hk))
     have HR4:=Lib.hid (HR3.out.keep HF_w4.out)
     have hcb4:=HF_w4.out.cellS HCB3.out
     obtain ⟨-,-,-,-,-,-,-,-,-,c9,-,-,-,c13,-⟩:=H4.out.cells
     rw [HE3.out.1] at c9 c13
     have f9:=H4.out.obj.frozen 9
     rw [HE3.out.1] at f9
     obtain ⟨uu,huu⟩:∃uu,S.fresh0.used=uu:=⟨_,rfl⟩
     have huu2:uu<4611686018427387904:=by rw [←huu];exact hus
     obtain ⟨g5,f5⟩:=H4.out.setc 9 (.int .i64 ((uu:Int)+1)) S.fresh0.used1 (by simp [scs,Sv.used1,huu]) ⟨rfl,rfl,rfl,rfl,rfl,rfl,rfl⟩
     rw [HE3.out.1] at g5 f5
     rw [huu] at c9
     have hwu:IntKind.i64.wrap ((uu:Int)+1)=(uu:Int)+1:=IntWalk.i64_in _ (by omega)
     obtain ⟨bd,hbd⟩:∃bd,S.bad=bd:=⟨_,rfl⟩
     have hbd':S.fresh0.bad=bd:=hbd
     rw [hbd'] at c13
     have hq:=HQ.out
     rw [hbd] at hq
     have HNL:Hid (w.heap.size≠L.a):=fun e=>by
      have h5:=H4.out.t0
      rw [HE3.out.1,←e] at h5
      exact HNB3.out (by rw [h5])
     clear hbd hbd' HQ huu hus
     go_upto_region 7 with fail
     obtain ⟨w5,hw5⟩:∃w5,w4.setCell ⟨L.a,9,none⟩ (.int .i64 ((uu:Int)+1))=w5:=⟨_,rfl⟩
     have hcb5:w5.cell? ⟨w.heap.size,0,none⟩=some (.pointer (some ⟨L.a,0,none⟩)):=by
      rw [←hw5]
      exact ((Fr.refl [L.a] w4).setCell (p:=⟨L.a,9,none⟩) (.inl (by simp)) _).cellN (by simpa using HNL.out) hcb4
     have hc13:w5.cell? ⟨L.a,13,none⟩=some (.bool bd):=by
      have h5:=g5.cells.2.2.2.2.2.2.2.2.2.2.2.2.2.1
      rw [HE3.out.1,hw5] at h5
      have h6:=H4.out.cells.2.2.2.2.2.2.2.2.2.2.2.2.2.1
      rw [HE3.out.1,c13] at h6
      have h7:bd=S.fresh0.bad:=by simpa using h6
      rw [h7]
      exact h5
     rw [hw5] at g5 f5⊢
     have H5:=Lib.hid g5
     have HF5:=Lib.hid (SvL.own_then HE3.out HF4.out f5)
     have HR5:=Lib.hid (HR4.out.step (SvL.ext_refl L2 w4) f5)
     have HCB5:=Lib.hid hcb5
     clear hw5 g5 f5 c9 c13 f9 hcb4 hwu
     cases bd with
     |true=>
      rw [if_pos rfl] at hq
      have FF:Hid (SrP Q L w (.returned (.int .i64 2)) w5):=⟨S.fresh0.used1,2,hq,HO3.out.used1,rfl,L2,H5.out,HE3.out,HF5.out⟩
      clear hq
      go_wp2_with fail
      go_ret
      exact FF.out
     |false=>
      rw [if_neg (by simp)] at hq
      have KS:=Lib.hid (search_calls red HKR.out w5 L2 S.fresh0.used1 H5.out HO3.out.used1 A c us HR5.out (fun x hx=>by
       have h5:=HUQ.out
       rw [List.any_eq_false] at h5
       have h6:=h5 x hx
       unfold offB at h6
       simp only [Bool.or_eq_true,decide_eq_true_eq,not_or] at h6
       have h7:=(mem_idx (p:=R64)).1 HRA.out x hx
       have h8:=tv_rng h7
       show -(S.vars:Int)≤x∧x≤(S.vars:Int)
       omega) hul budget _ D C hq)
      rw [HE3.out.1] at KS
      clear hq
      go_wp2_with fail
      refine KS.out.mono ?_
      clear KS
      rintro e w6 ⟨S6,r,hq6,ho6,rfl,L6,h6,he6,hf6⟩
      have H6:=Lib.hid h6
      have HE6:=Lib.hid (SvL.ext_trans HE3.out he6 HF5.out.size)
      have HF6:=Lib.hid (SvL.own_then HE3.out HF5.out hf6)
      have hcb6:=hf6.cellN (SvL.not_own HNB3.out) HCB5.out
      have HQ6:=Lib.hid hq6
      have HO6:=Lib.hid ho6
      have KB:=Lib.hid (back_calls w6 L6 S6 H6.out 0 ho6 0 (by omega))
      rw [HE6.out.1] at KB
      clear h6 he6 hf6 hq6 ho6 hcb5
      go_wp2_with fail
      refine KB.out.mono ?_
      clear KB hcb6
      rintro e w7 ⟨rfl,L7,h7,he7,hf7⟩
      have FF:Hid (SrP Q L w (.returned (.int .i64 r)) w7):=⟨S6.back 0,r,HQ6.out,(HO6.out.back 0).1,rfl,L7,h7,SvL.ext_trans HE6.out he7 HF6.out.size,SvL.own_then HE6.out HF6.out hf7⟩
      clear h7 he7 hf7
      go_wp2_with fail
      go_ret
      exact FF.out
  ·have hki:(us.length:Int)≤(1024:Int):=by omega
   have hcc:(us.length:Int)≤(c:Int):=by omega
   have KCK:=Lib.hid (fun u:Ext w3=>check_callsCi u.v (S.vars:Int) A c us (HR3.out.1.keep u.fr) HRA.out)
   unfold chkF at KCK
   rw [if_neg hk] at KCK
   have HP:Hid (us.any (offB (S.vars:Int))=true→us.any (offB (S.vars:Int))=true):=id
   obtain ⟨p,hp⟩:∃p,us.any (offB (S.vars:Int))=p:=⟨_,rfl⟩
   have HP:Hid (p=true→us.any (offB (S.vars:Int))=true):=fun h5=>hp.trans h5
   rw [hp] at KCK
   clear hp hk
   cases p with
   |true=>
    have hq:=HQ.out
    rw [if_pos (HP.out rfl)] at hq
    have HQ:=Lib.hid hq
    simp only [if_true] at KCK
    clear hq HP
    go_wp2_with fail
    refine wp_region_ext (by kernel_rfl) (by kernel_rfl) ?_
    repeat (go_big_quiet_step (first |exact call_ext (KCK.out _) |exact call_ext (KCO.out _)))
    refine wpQuiet_nil ?_
    rintro w4 ⟨u2,hu2⟩
    have HF_w4:Hid (Fr [] w3 w4):=hu2▸u2.fr
    clear hu2 u2
    clear hcb3 c2 e2 eb KCK KCO
    have FF:Hid (SrP Q L w (.returned (.int .i64 0)) w4):=⟨S.fresh0,0,HQ.out,HO3.out,rfl,L2,H3.out.keep HF_w4.out,HE3.out,HF3.out.then_ (HF_w4.out.mono (fun k hk=>by cases hk))⟩
    go_wp2_with fail
    go_ret
    exact FF.out
   |false=>
    simp only [Bool.false_eq_true,if_false] at KCK
    obtain ⟨q,hq5⟩:∃q,us.any (offB (S.vars:Int))=q:=⟨_,rfl⟩
    rw [hq5] at KCO
    have hq:=HQ.out
    rw [hq5] at hq
    have HUQ:=Lib.hid hq5
    cases q with
    |true=>
     rw [if_pos rfl] at hq
     have HQ:=Lib.hid hq
     clear hq HP hq5
     go_wp2_with fail
     refine wp_region_ext (by kernel_rfl) (by kernel_rfl) ?_
     repeat (go_big_quiet_step (first |exact call_ext (KCK.out _) |exact call_ext (KCO.out _)))
     refine wpQuiet_nil ?_
     rintro w4 ⟨u2,hu2⟩
     have HF_w4:Hid (Fr [] w3 w4):=hu2▸u2.fr
     clear hu2 u2
     clear hcb3 c2 e2 eb KCK KCO
     have FF:Hid (SrP Q L w (.returned (.int .i64 0)) w4):=⟨S.fresh0,0,HQ.out,HO3.out,rfl,L2,H3.out.keep HF_w4.out,HE3.out,HF3.out.then_ (HF_w4.out.mono (fun k hk=>by cases hk))⟩
     go_wp2_with fail
     go_ret
     exact FF.out
    |false=>
     rw [if_neg (by simp)] at hq
     have HQ:=Lib.hid hq
     clear hq HP hq5
     go_wp2_with fail
     refine wp_region_ext (by kernel_rfl) (by kernel_rfl) ?_
     repeat (go_big_quiet_step (first |exact call_ext (KCK.out _) |exact call_ext (KCO.out _)))
     refine wpQuiet_nil ?_
     rintro w4 ⟨u2,hu2⟩
     have HF_w4:Hid (Fr [] w3 w4):=hu2▸u2.fr
     clear hu2 u2
     clear hcb3 c2 e2 eb KCK KCO
     have H4:=Lib.hid (H3.out.keep HF_w4.out)
     have HF4:Hid (Fr (L.own w) w w4):=HF3.out.then_ (HF_w4.out.mono (fun k hk=>by cases hk))
     have HR4:=Lib.hid (HR3.out.keep HF_w4.out)
     have hcb4:=HF_w4.out.cellS HCB3.out
     obtain ⟨-,-,-,-,-,-,-,-,-,c9,-,-,-,c13,-⟩:=H4.out.cells
     rw [HE3.out.1] at c9 c13
     have f9:=H4.out.obj.frozen 9
     rw [HE3.out.1] at f9
     obtain ⟨uu,huu⟩:∃uu,S.fresh0.used=uu:=⟨_,rfl⟩
     have huu2:uu<4611686018427387904:=by rw [←huu];exact hus
     obtain ⟨g5,f5⟩:=H4.out.setc 9 (.int .i64 ((uu:Int)+1)) S.fresh0.used1 (by simp [scs,Sv.used1,huu]) ⟨rfl,rfl,rfl,rfl,rfl,rfl,rfl⟩
     rw [HE3.out.1] at g5 f5
     rw [huu] at c9
     have hwu:IntKind.i64.wrap ((uu:Int)+1)=(uu:Int)+1:=IntWalk.i64_in _ (by omega)
     obtain ⟨bd,hbd⟩:∃bd,S.bad=bd:=⟨_,rfl⟩
     have hbd':S.fresh0.bad=bd:=hbd
     rw [hbd'] at c13
     have hq:=HQ.out
     rw [hbd] at hq
     have HNL:Hid (w.heap.size≠L.a):=fun e=>by
      have h5:=H4.out.t0
      rw [HE3.out.1,←e] at h5
      exact HNB3.out (by rw [h5])
     clear hbd hbd' HQ huu hus
     go_upto_region 7 with fail
     obtain ⟨w5,hw5⟩:∃w5,w4.setCell ⟨L.a,9,none⟩ (.int .i64 ((uu:Int)+1))=w5:=⟨_,rfl⟩
     have hcb5:w5.cell? ⟨w.heap.size,0,none⟩=some (.pointer (some ⟨L.a,0,none⟩)):=by
      rw [←hw5]
      exact ((Fr.refl [L.a] w4).setCell (p:=⟨L.a,9,none⟩) (.inl (by simp)) _).cellN (by simpa using HNL.out) hcb4
     have hc13:w5.cell? ⟨L.a,13,none⟩=some (.bool bd):=by
      have h5:=g5.cells.2.2.2.2.2.2.2.2.2.2.2.2.2.1
      rw [HE3.out.1,hw5] at h5
      have h6:=H4.out.cells.2.2.2.2.2.2.2.2.2.2.2.2.2.1
      rw [HE3.out.1,c13] at h6
      have h7:bd=S.fresh0.bad:=by simpa using h6
      rw [h7]
      exact h5
     rw [hw5] at g5 f5⊢
     have H5:=Lib.hid g5
     have HF5:=Lib.hid (SvL.own_then HE3.out HF4.out f5)
     have HR5:=Lib.hid (HR4.out.step (SvL.ext_refl L2 w4) f5)
     have HCB5:=Lib.hid hcb5
     clear hw5 g5 f5 c9 c13 f9 hcb4 hwu
     cases bd with
     |true=>
      rw [if_pos rfl] at hq
      have FF:Hid (SrP Q L w (.returned (.int .i64 2)) w5):=⟨S.fresh0.used1,2,hq,HO3.out.used1,rfl,L2,H5.out,HE3.out,HF5.out⟩
      clear hq
      go_wp2_with fail
      go_ret
      exact FF.out
     |false=>
      rw [if_neg (by simp)] at hq
      have KS:=Lib.hid (search_calls red HKR.out w5 L2 S.fresh0.used1 H5.out HO3.out.used1 A c us HR5.out (fun x hx=>by
       have h5:=HUQ.out
       rw [List.any_eq_false] at h5
       have h6:=h5 x hx
       unfold offB at h6
       simp only [Bool.or_eq_true,decide_eq_true_eq,not_or] at h6
       have h7:=(mem_idx (p:=R64)).1 HRA.out x hx
       have h8:=tv_rng h7
       show -(S.vars:Int)≤x∧x≤(S.vars:Int)
       omega) hul budget _ D C hq)
      rw [HE3.out.1] at KS
      clear hq
      go_wp2_with fail
      refine KS.out.mono ?_
      clear KS
      rintro e w6 ⟨S6,r,hq6,ho6,rfl,L6,h6,he6,hf6⟩
      have H6:=Lib.hid h6
      have HE6:=Lib.hid (SvL.ext_trans HE3.out he6 HF5.out.size)
      have HF6:=Lib.hid (SvL.own_then HE3.out HF5.out hf6)
      have hcb6:=hf6.cellN (SvL.not_own HNB3.out) HCB5.out
      have HQ6:=Lib.hid hq6
      have HO6:=Lib.hid ho6
      have KB:=Lib.hid (back_calls w6 L6 S6 H6.out 0 ho6 0 (by omega))
      rw [HE6.out.1] at KB
      clear h6 he6 hf6 hq6 ho6 hcb5
      go_wp2_with fail
      refine KB.out.mono ?_
      clear KB hcb6
      rintro e w7 ⟨rfl,L7,h7,he7,hf7⟩
      have FF:Hid (SrP Q L w (.returned (.int .i64 r)) w7):=⟨S6.back 0,r,HQ6.out,(HO6.out.back 0).1,rfl,L7,h7,SvL.ext_trans HE6.out he7 HF6.out.size,SvL.own_then HE6.out HF6.out hf7⟩
      clear h7 he7 hf7
      go_wp2_with fail
      go_ret
      exact FF.out
theorem zc_list (z:Value) (m:Nat):(Builtin.zeroCells #[z] m).toList=List.replicate m z:=by
 apply List.ext_getElem?
 intro j
 simp only [Builtin.zeroCells,Array.toList_map,List.getElem?_map]
 by_cases h:j<m
 ·simp [h,Nat.mod_one]
 ·simp [h]
theorem zc_arr (z:Value) (m:Nat):Builtin.zeroCells #[z] m=(List.replicate m z).toArray:=by
 rw [←zc_list,Array.toArray_toList]
theorem run_append_zeros (w:World) (t ti ty e:TypeId) (z:Value) (bytes:Nat) (ht:Tryz.prog.underlying t=some (.slice e)) (hti:Tryz.prog.underlying ti=some (.int .i64)) (hi:(Tryz.prog.info? e).map (fun i=>(i.zero,i.size,i.bytes))=some (some z,1,bytes)) (hzs:z.cells=#[z]) (h1z:z.oneCell'=true)
  (A:Option Addr) (c n:Nat) (xs:List Value) (hown:w.ownsRow 0 e 1 (.slice A n c) n xs) (m:Nat) (h63:n+m≤maxLen) (hbytes:(n+m)*bytes≤140737488355328) (hm:(m:Int)≤9223372036854775807):
  ∃A' cap w',(Builtin.append_ #[t,ti] ty #[.slice A n c, .int .i64 m]).run Tryz.prog w= .ok (.slice A' (n+m) cap) w'∧
   w'.ownsRow 0 e 1 (.slice A' (n+m) cap) (n+m) (xs++List.replicate m z)∧Fr (blks A) w w'∧(∀k,k∈blks A'→k∈blks A∨w.heap.size≤k):=by
 obtain ⟨i,hi,hz,hsize,hby⟩:=info_parts hi
 have hw:IntKind.i64.wrap (m:Int)=m:=IntWalk.i64_in _ (by omega)
 have hw0:IntKind.i64.wrap 0=0:=by decide
 have hneg:¬((m:Int)<0):=by omega
 have hmb:(m:Int)*(bytes:Int)≤281474976710656:=by
  have :m*bytes≤(n+m)*bytes:=Nat.mul_le_mul_right _ (by omega)
  have h2:((m*bytes:Nat):Int)≤281474976710656:=by omega
  simpa using h2
 have hmb':¬(281474976710656<(m:Int)*(bytes:Int)):=by omega
 have hsmall:n+m≤9223372036854775807:=by simp only [maxLen] at h63;omega
 have hlen:(xs++List.replicate m z).length=(n+m)*1:=by rw [List.length_append,hown.1,List.length_replicate];omega
 have grown:∀(old:Nat),old<n+m→∀(S:List Nat),
   (w.drew.alloc (.cells (xs.toArray++(List.replicate m z).toArray++Builtin.zeroCells #[z] (grownCap w (n+m) old e-(n+m))) e)).ownsRow 0 e 1
    (.slice (some ⟨w.heap.size,0,none⟩) (n+m) (grownCap w (n+m) old e)) (n+m) (xs++List.replicate m z)∧
   Fr S w (w.drew.alloc (.cells (xs.toArray++(List.replicate m z).toArray++Builtin.zeroCells #[z] (grownCap w (n+m) old e-(n+m))) e)):=by
  intro old ho S
  have hge:=grownCap_ge w (n+m) old e
  have hcm:grownCap w (n+m) old e≤maxLen:=grownCap_le_maxLen w (n+m) old e h63
  refine ⟨⟨hlen, .inr ⟨w.heap.size,_,_,rfl,Nat.zero_le _,heap_alloc_new w.drew _,hge,hcm,?_,?_⟩⟩,((Fr.refl S w).drew).alloc _⟩
  ·have hx:=hown.1
   simp only [Array.size_append,List.size_toArray,size_zeroCells,List.length_replicate,hx]
   simp
   omega
  ·simp only [Array.toList_append,List.append_assoc]
   rw [←List.append_assoc,←hlen]
   exact List.take_left
 rcases hown.2 with ⟨hv,rfl⟩ |⟨g,cap,cur,hv,hbg,hg,hnc,hcm,hcs,htake⟩
 ·simp only [Value.slice.injEq,true_and] at hv
  obtain ⟨rfl,rfl⟩:=hv
  have hx:xs=[]:=List.eq_nil_of_length_eq_zero (by simpa using hown.1)
  subst hx
  by_cases hm0:m=0
  ·subst hm0
   refine ⟨none,0,w,?_,World.ownsRow_nil w 0 e 1,Fr.refl _ _,fun k hk=>by simp [blks] at hk⟩
   simp [Builtin.append_,run_underlying ht,run_underlying hti,sizeOf,typeInfo,hi,asInt,asIntOf,hw0]
  ·have hgr:=grown 0 (by omega) (blks none)
   simp only [Nat.zero_add,List.nil_append] at hgr⊢
   refine ⟨_,_,_,?_,hgr.1,hgr.2,fun k hk=> .inr (by simp [blks] at hk;omega)⟩
   have h48':¬(281474976710656<Builtin.nextslicecap m 0*bytes):=by
    rw [nextslicecap_zero (by omega)]
    have :=hbytes
    simp only [Nat.zero_add] at this
    omega
   have h63':¬(9223372036854775807<(m:Int)):=by omega
   simp [Builtin.append_,run_underlying ht,run_underlying hti,sizeOf,typeInfo,zeroValue,hi,hz,asInt,asIntOf,hsize,hby,hw,hneg,hmb',hm0,h63',h48',Question.forced,run_firstCells_none,newRow,grownCap,hzs,zc_arr]
 ·simp only [Value.slice.injEq,true_and] at hv
  obtain ⟨rfl,rfl⟩:=hv
  by_cases hroom:n+m≤c
  ·have hfit:n*1+(List.replicate m z).length≤cur.size:=by rw [hcs,List.length_replicate];omega
   have hst:=run_storeCells_at Tryz.prog g (n*1) e (List.replicate m z) 0 cur w hg (by simpa using hfit) (fun u hu=>by rw [List.mem_replicate] at hu;rw [hu.2];exact h1z)
   simp only [Nat.add_zero] at hst
   refine ⟨some ⟨g,0,none⟩,c,w.setRow g (cur.toList.take (n*1)++List.replicate m z++cur.toList.drop (n*1+(List.replicate m z).length)).toArray,?_,⟨hlen, .inr ⟨g,c,_,rfl,hbg,setRow_heap w g cur _ e _ hg,hroom,hcm,?_,?_⟩⟩,?_,fun k hk=> .inl hk⟩
   ·by_cases hm0:m=0
    ·subst hm0
     simp only [List.replicate_zero] at hst⊢
     have hr0:n≤c:=hroom
     simp [Builtin.append_,run_underlying ht,run_underlying hti,sizeOf,typeInfo,hi,asInt,asIntOf,hw0,hr0,Addr.add_lit]
     simp only [Nat.mul_one] at hst
     simp [hsize,hst]
    ·simp [Builtin.append_,run_underlying ht,run_underlying hti,sizeOf,typeInfo,zeroValue,hi,hz,asInt,asIntOf,hsize,hby,hw,hneg,hmb',hm0,hroom,Addr.add_lit,hzs,zc_list]
     simp only [Nat.mul_one] at hst
     first |exact hst | (rw [hst];simp) |simp [hst]
   ·simp only [List.size_toArray,List.length_append,List.length_take,List.length_drop,Array.length_toList,List.length_replicate]
    omega
   ·rw [htake,←hlen]
    exact List.take_left
   ·exact ⟨rfl,rfl,rfl,by simp,fun k _ hk=>setRow_other w g k _ (fun e=>hk (by simp [blks,e]))⟩
  ·have holds:∀j u,xs[j]? =some u→w.cell? ((⟨g,0,none⟩:Addr).add j)=some u:=hown.cells (g:=g) rfl
   have hgr:=grown c (by omega) (blks (some (⟨g,0,none⟩:Addr)))
   refine ⟨_,_,_,?_,hgr.1,hgr.2,fun k hk=> .inr (by simp [blks] at hk;omega)⟩
   have hm0:m≠0:=by omega
   have hfo:=run_firstCells_some (P:=Tryz.prog) w.drew 1 n ⟨g,0,none⟩ n c xs (by rw [hown.1]) (by simpa using holds)
   have h63':¬(9223372036854775807<((n:Int)+(m:Int))):=by omega
   have h48':¬(281474976710656<Builtin.nextslicecap (n+m) c*bytes):=by
    have :=growslice_fits (need:=n+m) (old:=c) (bytes:=bytes) (by omega) hbytes
    omega
   simp [Builtin.append_,run_underlying ht,run_underlying hti,sizeOf,typeInfo,zeroValue,hi,hz,asInt,asIntOf,hsize,hby,hw,hneg,hmb',hm0,hroom,h63',h48',Question.forced,hfo,newRow,grownCap,hzs,zc_arr]
   try rw [hby] at h48'
   try simp [h48']
theorem SvAt.phrow {w w1:World} {L:SvL} {S:Sv} (h:SvAt w L S) {A':Option Addr} {c':Nat} {F:List Nat} {ls:List Bool} (hi:Bools w1 A' c' ls) (hf:Fr F w w1) (hF:∀k,k∈F→k<w.heap.size→L.lab k=(L.id,5,0))
  (hA:∀k,k∈blks A'→(k<w.heap.size∧L.lab k=(L.id,5,0))∨w.heap.size≤k):
  ∃L',SvAt (w1.setCell ⟨L.a,5,none⟩ (.slice A' ls.length c')) L' { S with phase:=ls }∧L.ext L' w∧Fr (L.own w) w (w1.setCell ⟨L.a,5,none⟩ (.slice A' ls.length c')):=by
 have hf2:Fr (L.a::F) w (w1.setCell ⟨L.a,5,none⟩ (.slice A' ls.length c')):=(hf.mono (fun k hk=> .inl (by simp [hk]))).setCell (.inl (by simp)) _
 have hF2:∀k,k∈L.a::F→k<w.heap.size→∃t,(t=(5,0)∨t=(0,0))∧L.lab k=(L.id,t):=by
  intro k hk hl
  rcases List.mem_cons.1 hk with rfl |hk
  ·exact ⟨_, .inr rfl,h.t0⟩
  ·exact ⟨_, .inl rfl,hF k hk hl⟩
 have o:=h.off (P:=fun t=>t=(5,0)∨t=(0,0)) hf2 hF2
 have o1:=h.off (P:=(· =(5,0))) hf (fun k hk hl=>⟨_,rfl,hF k hk hl⟩)
 have g:=h.tags (5,0)
 have hne:L.a∉blks A':=fun hk=>by
  rcases hA _ hk with ⟨_,h2⟩ |h2
  ·rw [h.t0] at h2;simp at h2
  ·have :=h.obj.lt;omega
 refine ⟨{ L with pA:=A',pC:=c',lab:=L.re w (5,0) },⟨?_,o.tr (by simp),o.hp (by simp),h.hmade,h.ecs,h.ews,o.rcs (by simp),o.rws (by simp),?_,o.rmo (by simp),o.rco (by simp),fun n hn=>o.ech n hn (by simp),fun c hc=>o.ewh c hc (by simp),
  g.t0,g.t1,g.t2,g.t3,g.t4,fun k hk=>SvL.re_part (hA k hk),g.t6,g.t7,g.t8,g.t9⟩,⟨rfl,rfl,fun k hk e=>SvL.re_own hk e⟩,SvL.part_fr hf2 (fun k hk hl=>by obtain ⟨t,_,e⟩:=hF2 k hk hl;rw [e])⟩
 ·have :=(o1.obj (by simp)).set_ 5 (.slice A' ls.length c')
  simpa [scs] using this
 ·unfold Bools at hi⊢
  exact wild_fr hi ((Fr.refl [L.a] w1).setCell (.inl (by simp)) _) (fun k hk hm=>by simp at hm;subst hm;exact hne hk)
theorem SvAt.wgrow {w w1:World} {L:SvL} {S:Sv} (h:SvAt w L S) {A':Option Addr} {c' m:Nat} {F:List Nat} (hi:Wrow w1 A' c' (L.ws++List.replicate m ⟨none,0,[]⟩)) (hf:Fr F w w1) (hF:∀k,k∈F→k<w.heap.size→L.lab k=(L.id,4,0))
  (hA:∀k,k∈blks A'→(k<w.heap.size∧L.lab k=(L.id,4,0))∨w.heap.size≤k):
  ∃L',SvAt (w1.setCell ⟨L.a,4,none⟩ (.slice A' (L.ws.length+m) c')) L' { S with watch:=S.watch++List.replicate m [] }∧L.ext L' w∧Fr (L.own w) w (w1.setCell ⟨L.a,4,none⟩ (.slice A' (L.ws.length+m) c')):=by
 have hf2:Fr (L.a::F) w (w1.setCell ⟨L.a,4,none⟩ (.slice A' (L.ws.length+m) c')):=(hf.mono (fun k hk=> .inl (by simp [hk]))).setCell (.inl (by simp)) _
 have hF2:∀k,k∈L.a::F→k<w.heap.size→∃t,(t=(4,0)∨t=(0,0))∧L.lab k=(L.id,t):=by
  intro k hk hl
  rcases List.mem_cons.1 hk with rfl |hk
  ·exact ⟨_, .inr rfl,h.t0⟩
  ·exact ⟨_, .inl rfl,hF k hk hl⟩
 have o:=h.off (P:=fun t=>t=(4,0)∨t=(0,0)) hf2 hF2
 have o1:=h.off (P:=(· =(4,0))) hf (fun k hk hl=>⟨_,rfl,hF k hk hl⟩)
 have g:=h.tags (4,0)
 have hne:L.a∉blks A':=fun hk=>by
  rcases hA _ hk with ⟨_,h2⟩ |h2
  ·rw [h.t0] at h2;simp at h2
  ·have :=h.obj.lt;omega
 have hget:∀j:Nat,j<L.ws.length+m→(j<L.ws.length∧(L.ws++List.replicate m (⟨none,0,[]⟩:Wl))[j]! =L.ws[j]!)∨(L.ws++List.replicate m (⟨none,0,[]⟩:Wl))[j]! =⟨none,0,[]⟩:=fun j hj=>by
  by_cases e:j<L.ws.length
  ·left
   refine ⟨e,?_⟩
   simp [List.getElem!_eq_getElem?_getD,List.getElem?_append_left e]
  ·right
   rw [List.getElem!_eq_getElem?_getD,List.getElem?_append_right (by omega),List.getElem?_replicate,if_pos (by omega)]
   rfl
 refine ⟨{ L with wA:=A',wC:=c',ws:=L.ws++List.replicate m ⟨none,0,[]⟩,lab:=L.re w (4,0) },⟨?_,o.tr (by simp),o.hp (by simp),h.hmade,h.ecs,?_,o.rcs (by simp),?_,o.rph (by simp),o.rmo (by simp),o.rco (by simp),fun n hn=>o.ech n hn (by simp),fun c hc=> ?_,
  g.t0,g.t1,g.t2,g.t3,fun k hk=>SvL.re_part (hA k hk),g.t5,g.t6,g.t7,g.t8,fun c hc k hk=> ?_⟩,⟨rfl,rfl,fun k hk e=>SvL.re_own hk e⟩,SvL.part_fr hf2 (fun k hk hl=>by obtain ⟨t,_,e⟩:=hF2 k hk hl;rw [e])⟩
 ·have :=(o1.obj (by simp)).set_ 4 (.slice A' (L.ws.length+m) c')
  simpa [scs] using this
 ·simp only [List.map_append,List.map_replicate]
  rw [h.ews]
 ·unfold Wrow at hi⊢
  exact wild_fr hi ((Fr.refl [L.a] w1).setCell (.inl (by simp)) _) (fun k hk hm=>by simp at hm;subst hm;exact hne hk)
 ·simp only [List.length_append,List.length_replicate] at hc
  simp only
  rcases hget c hc with ⟨h1,h2⟩ |h2
  ·rw [h2]
   exact o.ewh c h1 (by simp)
  ·rw [h2]
   exact Ints.nil _
 ·simp only [List.length_append,List.length_replicate] at hc
  simp only at hk
  rcases hget c hc with ⟨h1,h2⟩ |h2
  ·rw [h2] at hk
   exact g.t9 c h1 k hk
  ·rw [h2] at hk
   simp [blks] at hk
namespace Sv
theorem pushes_ok:∀(n:Nat) (v:Int) (H:Hp),HI H→HI (pushes n v H)∧(pushes n v H).at_.length=H.at_.length
 |0,v,H,h=>⟨h,rfl⟩
 |n+1,v,H,h=>by
  have h1:=h.pushC v
  have h2:=pushes_ok n (v+1) _ h1.1
  exact ⟨h2.1,h2.2.trans h1.2⟩
theorem growF_len {H:Hp} {v n:Nat} (h:H.at_.length=v+1) (hb:v+n≤262143):H.growF n=H.growBy n:=by
 unfold Hp.growF
 have e:(growTo H.at_.length n-H.at_.length).toNat=n:=by
  unfold growTo
  rw [h]
  omega
 rw [e]
theorem Ok.grow {S:Sv} (ok:S.Ok 0) (n:Nat) (hb:S.vars+n≤262143):(S.grow n).Ok 0:=by
 obtain ⟨R,hR⟩:=ok.tr
 have hg:=hR.grow n (by omega)
 have hh:HI (S.H.growF n)∧(S.H.growF n).at_.length=S.vars+n+1:=by
  rw [growF_len ok.hl hb]
  refine ⟨ok.hi.grow n,?_⟩
  have :=ok.hl
  simp only [Hp.growBy,List.length_append,List.length_replicate]
  omega
 have hp:=pushes_ok n ((S.vars:Int)+1) _ hh.1
 have hw:∀c:Nat,(S.watch++List.replicate (2*n) ([]:List Nat))[c]! =S.watch[c]! :=fun c=>by
  simp only [List.getElem!_eq_getElem?_getD]
  by_cases e:c<S.watch.length
  ·rw [List.getElem?_append_left e]
  ·rw [List.getElem?_append_right (by omega),List.getElem?_replicate,List.getElem?_eq_none (l:=S.watch) (by omega)]
   split<;>rfl
 have e0:(S.grow n).vars=S.vars+n:=rfl
 have e1:(S.grow n).T=S.T.growF n:=rfl
 have e2:(S.grow n).H=pushes n ((S.vars:Int)+1) (S.H.growF n):=rfl
 have e3:(S.grow n).list=S.list:=rfl
 refine ⟨by rw [e0];exact hb,⟨R,?_⟩,by rw [e2];exact hp.1,by rw [e2,e0];exact hp.2.trans hh.2,?_,?_,by rw [e3];exact ok.ll,fun c k hk=> ?_,?_,fun j x hx=> ?_,fun j=>ok.ln j,fun j=>ok.lb j,?_,fun v=> ?_⟩
 ·rw [e0,e1];exact hg
 ·show (S.phase++List.replicate n false).length=S.vars+n+1
  have :=ok.ph
  simp
  omega
 ·show (S.watch++List.replicate (2*n) []).length=2*(S.vars+n)+2
  have :=ok.wl
  simp
  omega
 ·have e:k∈(S.watch++List.replicate (2*n) ([]:List Nat))[c]! :=hk
  rw [hw] at e
  exact ok.wb c k e
 ·show ((S.watch++List.replicate (2*n) []).map List.length).sum+0≤_
  have :=ok.wt
  simp
  exact this
 ·have :=ok.lr j x hx
  show x≠0∧ -((S.vars+n:Nat):Int)≤x∧x≤((S.vars+n:Nat):Int)
  omega
 ·exact ok.hd
 ·have :=ok.rs v
  rw [hR.reaB] at this
  rw [e1,e3]
  rw [hg.reaB]
  exact this
end Sv
theorem infoInts:(Tryz.prog.info? 22).map (fun i=>(i.zero,i.size,i.bytes))=some (some (.slice none 0 0),1,24):=by kernel_rfl
theorem wpList_append_zeros (w:World) {ops:Array Oper} {rest:List Oper} {o:Oper} {a:Act} {Q:Exit→Act→World→Prop} (hgd:o.guard=none) (s x:Operand) (t ti e:TypeId)
  (ho:o.op= .call { callee:= .builtin .append,args:=#[s,x],argTypes:=#[t,ti] }) (z:Value) (bytes:Nat) (ht:Tryz.prog.underlying t=some (.slice e)) (hti:Tryz.prog.underlying ti=some (.int .i64)) (hi:(Tryz.prog.info? e).map (fun i=>(i.zero,i.size,i.bytes))=some (some z,1,bytes)) (hzs:z.cells=#[z]) (h1z:z.oneCell'=true)
  (A:Option Addr) (c n:Nat) (hs:a.eval s= .slice A n c) (xs:List Value) (hown:w.ownsRow 0 e 1 (.slice A n c) n xs) (m:Nat) (v:Int) (hv:v=m) (hx:a.eval x= .int .i64 v) (h63:n+m≤maxLen) (hbytes:(n+m)*bytes≤140737488355328) (hm:(m:Int)≤9223372036854775807)
  (h:∀A' cap w',w'.ownsRow 0 e 1 (.slice A' (n+m) cap) (n+m) (xs++List.replicate m z)→Fr (blks A) w w'→(∀k,k∈blks A'→k∈blks A∨w.heap.size≤k)→wpList Tryz.prog ops Q rest (a.put o.dst (.slice A' (n+m) cap)) w'):
  wpList Tryz.prog ops Q (o::rest) a w:=by
 subst hv
 refine wpList_plain hgd fun K hK=> ?_
 obtain ⟨A',cap,w',hr,h2,h3,h4⟩:=run_append_zeros w t ti o.type e z bytes ht hti hi hzs h1z A c n xs hown m h63 hbytes hm
 unfold Oper.wp execOp
 simp only [ho,resolve,invoke,builtin,Sem.run_bind,Sem.run_pure,Result.andThen_ok,List.map_toArray,List.map_cons,List.map_nil,hs,hx,hr]
 exact hK _ _ (h A' cap w' h2 h3 h4)
theorem grow_calls (w:World) (L:SvL) (S:Sv) (h:SvAt w L S) (ok:S.Ok 0) (n:Nat) (hb:S.vars+n≤262143):
  Calls Tryz.prog 79 #[.pointer (some ⟨L.a,0,none⟩), .int .i64 n] w (SvP (.tuple #[]) (S.grow n) L w):=by
 have HOK:=Lib.hid ok
 have HAT:=Lib.hid ok.hl
 have HPH:=Lib.hid ok.ph
 have HWL:=Lib.hid ok.wl
 have hcl:0<S.T.cells.length∧S.T.cells.length≤262145:=by
  obtain ⟨R,hR⟩:=ok.tr
  rw [hR.size]
  omega
 obtain ⟨c0,c1,-⟩:=h.cells
 have KT:=Lib.hid (trail_grow w L.tL S.T h.tr hcl.1 hcl.2 (n:Int))
 have HH:=Lib.hid h
 clear h ok
 go_enter Tryz.func79,Tryz.ntmps79
 go_wp2_with fail
 refine KT.out.mono ?_
 clear KT c0 c1
 rintro e w1 ⟨rfl,tL,ht,hte,htf⟩
 obtain ⟨L1,h1,he1,hf1⟩:=HH.out.trail ht hte htf
 have H1:=Lib.hid h1
 have HE1:=Lib.hid he1
 have HF1:=Lib.hid hf1
 have c1:=h1.cells.2.1
 rw [HE1.out.1] at c1
 have KH:=Lib.hid (heap_grow w1 L1.hL S.H h1.hp h1.hmade (n:Int) (by have :=HAT.out;omega))
 clear h1 he1 hf1 ht hte htf HH
 go_wp2_with fail
 refine KH.out.mono ?_
 clear KH c1
 rintro e w2 ⟨rfl,hL,hh,hhe,hhf⟩
 obtain ⟨L2,h2,he2,hf2⟩:=H1.out.heap hh hhe hhf
 obtain ⟨H0,hH0⟩:∃H0,S.H.growF (n:Int)=H0:=⟨_,rfl⟩
 obtain ⟨T0,hT0⟩:∃T0,S.T.growF (n:Int)=T0:=⟨_,rfl⟩
 rw [hH0] at h2
 rw [hT0] at h2
 have H2:=Lib.hid h2
 have HE2:=Lib.hid (SvL.ext_trans HE1.out he2 HF1.out.size)
 have HF2:=Lib.hid (SvL.own_then HE1.out HF1.out hf2)
 have HT0:=Lib.hid hT0
 have HH0:=Lib.hid hH0
 have c5:=h2.cells.2.2.2.2.2.1
 rw [HE2.out.1] at c5
 have HC5:=Lib.hid c5
 have f5:=h2.obj.frozen 5
 rw [HE2.out.1] at f5
 have HF5:=Lib.hid f5
 have HN5:Hid (L.a∉blks L2.pA):=fun hm=>by
  have e1:=H2.out.t5 _ hm
  rw [←HE2.out.1,H2.out.t0] at e1
  simp at e1
 have hpn:S.phase.length+n≤262144:=by have :=HPH.out;omega
 have HPN:=Lib.hid hpn
 clear h2 he2 hf2 hh hhe hhf H1 HE1 HF1 hT0 hH0 hpn f5
 go_upto_region 3 with (at_builtin;(refine wpList_append_zeros _ rfl _ _ 119 3 4 rfl (.bool false) 1 Tryz.underlying119 Tryz.underlying3 infoBool rfl rfl L2.pA L2.pC S.phase.length rfl (S.phase.map Value.bool) H2.out.rph n _ rfl rfl (by have :=HPN.out;unfold maxLen;omega) (by have :=HPN.out;omega) (by omega) ?_;intro A5 cap5 w3 hi5 hf5 hg5;have s5:=hf5.cellN HN5.out HC5.out;have fz5:=(World.frozen?_of_block (hf5.block L.a (lt_of_cell HC5.out) HN5.out)).trans HF5.out))
 --the phases
 obtain ⟨w4,hw4⟩:∃w4,w3.setCell ⟨L.a,5,none⟩ (.slice A5 (S.phase.length+n) cap5)=w4:=⟨_,rfl⟩
 have hi5':Bools w3 A5 cap5 (S.phase++List.replicate n false):=by
  unfold Bools
  rw [List.length_append,List.length_replicate,List.map_append,List.map_replicate]
  exact hi5
 obtain ⟨L4,h4,he4,hf4⟩:=H2.out.phrow hi5' hf5 (fun k hk _=>H2.out.t5 k hk) (fun k hk=>by
  rcases hg5 k hk with h5 |h5
  ·exact .inl ⟨own_lt' H2.out.rph k h5,H2.out.t5 k h5⟩
  ·exact .inr h5)
 rw [HE2.out.1,List.length_append,List.length_replicate,hw4] at h4 hf4
 have H4:=Lib.hid h4
 have HE4:=Lib.hid (SvL.ext_trans HE2.out he4 HF2.out.size)
 have HF4:=Lib.hid (SvL.own_then HE2.out HF2.out hf4)
 have c4:=h4.cells.2.2.2.2.1
 rw [HE4.out.1] at c4
 have HC4:=Lib.hid c4
 have f4:=h4.obj.frozen 4
 rw [HE4.out.1] at f4
 have HFZ4:=Lib.hid f4
 have HN4:Hid (L.a∉blks L4.wA):=fun hm=>by
  have e1:=H4.out.t4 _ hm
  rw [←HE4.out.1,H4.out.t0] at e1
  simp at e1
 have hln:L4.ws.length=S.watch.length:=H4.out.lenw
 have HLN:=Lib.hid hln
 have hw2:IntKind.i64.wrap (2*(n:Int))=2*(n:Int):=IntWalk.i64_in _ (by omega)
 have h2n:2*(n:Int)=((2*n:Nat):Int):=by omega
 have H2N:=Lib.hid h2n
 have hwb:L4.ws.length+2*n≤600000:=by have :=HWL.out;omega
 have HWB:=Lib.hid hwb
 clear h4 he4 hf4 H2 HE2 HF2 hi5 hi5' hf5 hg5 s5 fz5 c5 f4 hln h2n hwb HC5 HF5 HN5
 rw [hw4]
 clear hw4
 go_upto_region 4 with (at_builtin;(refine wpList_append_zeros _ rfl _ _ 28 3 22 rfl (.slice none 0 0) 24 Tryz.underlying28 Tryz.underlying3 infoInts rfl rfl L4.wA L4.wC L4.ws.length rfl (L4.ws.map Wl.val) H4.out.rws (2*n) (2*(n:Int)) H2N.out rfl (by have :=HWB.out;unfold maxLen;omega) (by have :=HWB.out;omega) (by have :=HWB.out;omega) ?_;intro A6 cap6 w5 hi6 hf6 hg6;have s6:=hf6.cellN HN4.out HC4.out;have fz6:=(World.frozen?_of_block (hf6.block L.a (lt_of_cell HC4.out) HN4.out)).trans HFZ4.out))
 --the watch lists
 obtain ⟨w6,hw6⟩:∃w6,w5.setCell ⟨L.a,4,none⟩ (.slice A6 (L4.ws.length+2*n) cap6)=w6:=⟨_,rfl⟩
 have hi6':Wrow w5 A6 cap6 (L4.ws++List.replicate (2*n) ⟨none,0,[]⟩):=by
  unfold Wrow
  rw [List.length_append,List.length_replicate,List.map_append,List.map_replicate]
  exact hi6
 obtain ⟨L6,h6,he6,hf6'⟩:=H4.out.wgrow hi6' hf6 (fun k hk _=>H4.out.t4 k hk) (fun k hk=>by
  rcases hg6 k hk with h5 |h5
  ·exact .inl ⟨own_lt' H4.out.rws k h5,H4.out.t4 k h5⟩
  ·exact .inr h5)
 rw [HE4.out.1,hw6] at h6 hf6'
 have H6:=Lib.hid h6
 have HE6:=Lib.hid (SvL.ext_trans HE4.out he6 HF4.out.size)
 have HF6:=Lib.hid (SvL.own_then HE4.out HF4.out hf6')
 have c2:=h6.cells.2.2.1
 rw [HE6.out.1] at c2
 have hwv:IntKind.i64.wrap ((S.vars:Int)+1)=(S.vars:Int)+1:=IntWalk.i64_in _ (by omega)
 have hwv2:IntKind.i64.wrap ((S.vars:Int)+(n:Int))=(S.vars:Int)+(n:Int):=IntWalk.i64_in _ (by omega)
 have hok0:HI H0∧H0.at_.length=S.vars+n+1:=by
  have h5:=HOK.out.hl
  rw [←HH0.out,Sv.growF_len h5 hb]
  refine ⟨HOK.out.hi.grow n,?_⟩
  simp only [Hp.growBy,List.length_append,List.length_replicate]
  omega
 have HHI:=Lib.hid hok0
 clear h6 he6 hf6' H4 HE4 HF4 hi6 hi6' hf6 hg6 s6 fz6 c4 HC4 HFZ4 HN4 hok0 hw2
 rw [hw6]
 clear hw6
 go_wp2_with fail
 clear c2
 go_loopg [4] n (fun g x4 wr=>∃(k:Nat) (Hk:Hp) (Lk:SvL),k+g=n∧x4= .int .i64 ((S.vars:Int)+1+k)∧Hid (Sv.pushes g ((S.vars:Int)+1+k) Hk=Sv.pushes n ((S.vars:Int)+1) H0)∧Hid (HI Hk∧Hk.at_.length=S.vars+n+1)∧
   Hid (SvAt wr Lk { S with T:=T0,H:=Hk,phase:=S.phase++List.replicate n false,watch:=S.watch++List.replicate (2*n) [] })∧Hid (L.ext Lk w)∧Hid (Fr (L.own w) w wr))
 case atStart=>exact ⟨0,H0,L6,by omega,by go_num,by show _=_;simp,HHI.out,H6.out,HE6.out,HF6.out⟩
 case round=>
  obtain ⟨k,Hk,Lk,hk,rfl,HP,HIK,H7,HE7,HF7⟩:=hrel
  have HK:=Lib.hid hk
  have hkn:k≤n:=by omega
  obtain ⟨-,c1,c2,-⟩:=H7.out.cells
  rw [HE7.out.1] at c1 c2
  clear hk
  by_cases hlt:k<n
  ·obtain ⟨f,rfl⟩:∃f,gk=f+1:=⟨gk-1,by have :=HK.out;omega⟩
   have hd:(S.vars:Int)+1+(k:Int)≤(S.vars:Int)+(n:Int):=by omega
   have KP:=Lib.hid (heap_pushC wr Lk.hL Hk H7.out.hp HIK.out.1 (by have :=HIK.out.2;omega) ((S.vars:Int)+1+k))
   have hwk:IntKind.i64.wrap ((S.vars:Int)+1+(k:Int)+1)=(S.vars:Int)+1+(k:Int)+1:=IntWalk.i64_in _ (by omega)
   have HP2:Hid (Sv.pushes f ((S.vars:Int)+1+((k+1:Nat):Int)) (Sv.pushC Hk ((S.vars:Int)+1+k))=Sv.pushes n ((S.vars:Int)+1) H0):=by
    have h5:=HP.out
    rw [Sv.pushes] at h5
    rw [show (S.vars:Int)+1+((k+1:Nat):Int)=(S.vars:Int)+1+(k:Int)+1 from by omega]
    exact h5
   have HIK2:Hid (HI (Sv.pushC Hk ((S.vars:Int)+1+k))∧(Sv.pushC Hk ((S.vars:Int)+1+k)).at_.length=S.vars+n+1):=by
    have h5:=HIK.out.1.pushC ((S.vars:Int)+1+k)
    exact ⟨h5.1,h5.2.trans HIK.out.2⟩
   go_wp2_with fail
   refine KP.out.mono ?_
   clear KP c1 c2
   rintro e w8 ⟨b,rfl,hL8,hh8,he8,hf8⟩
   obtain ⟨L8,h8,he8',hf8'⟩:=H7.out.heap hh8 he8 hf8
   have H8:=Lib.hid h8
   have HE8:=Lib.hid (SvL.ext_trans HE7.out he8' HF7.out.size)
   have HF8:=Lib.hid (SvL.own_then HE7.out HF7.out hf8')
   clear h8 he8' hf8' hh8 he8 hf8
   go_wp2_with fail
   go_roundg f
   case measure=>omega
   case rel=>exact ⟨k+1,Sv.pushC Hk ((S.vars:Int)+1+k),L8,by have :=HK.out;omega,by go_num,HP2.out,HIK2.out,H8.out,HE8.out,HF8.out⟩
  ·obtain rfl :k=n:=by omega
   have hg0:gk=0:=by have :=HK.out;omega
   subst hg0
   have hHk:Hk=Sv.pushes k ((S.vars:Int)+1) H0:=HP.out
   have hd:¬((S.vars:Int)+1+(k:Int)≤(S.vars:Int)+(k:Int)):=by omega
   have hd':(S.vars:Int)+(k:Int)<(S.vars:Int)+1+(k:Int):=by omega
   have f2:=H7.out.obj.frozen 2
   rw [HE7.out.1] at f2
   obtain ⟨g9,f9⟩:=H7.out.setc 2 (.int .i64 ((S.vars:Int)+(k:Int))) { S with T:=T0,H:=Hk,phase:=S.phase++List.replicate k false,watch:=S.watch++List.replicate (2*k) [],vars:=S.vars+k } (by simp [scs]) ⟨rfl,rfl,rfl,rfl,rfl,rfl,rfl⟩
   rw [HE7.out.1] at g9 f9
   have hS9:({ S with T:=T0,H:=Hk,phase:=S.phase++List.replicate k false,watch:=S.watch++List.replicate (2*k) [],vars:=S.vars+k }:Sv)=S.grow k:=by
    unfold Sv.grow
    rw [hHk,←HT0.out,←HH0.out]
   rw [hS9] at g9
   have FF:Hid (SvP (.tuple #[]) (S.grow k) L w (.returned (.tuple #[])) (wr.setCell ⟨L.a,2,none⟩ (.int .i64 ((S.vars:Int)+(k:Int))))):=⟨rfl,Lk,g9,HE7.out,SvL.own_then HE7.out HF7.out f9⟩
   clear g9 f9 hS9 hHk HP c1
   go_wp2_with fail
   go_end0
   exact FF.out
end Go.Proofs.YtjmmpfjcpdepjaaGreatDoor
