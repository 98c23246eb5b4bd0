/- Parts of a proof. -/
import Derived.Test.YtjmmpfjcpdepjaaGreatDoorGAG
set_option linter.unusedVariables false
set_option linter.unusedSimpArgs false
set_option maxHeartbeats 8000000
set_option maxRecDepth 100000
namespace Go.Proofs.YtjmmpfjcpdepjaaGreatDoor
open Go.RowKit
theorem blame_calls (w:World) (L:SvL) (S:Sv) (h:SvAt w L S) (m:Nat) (ok:S.Ok m) (a:Int) (ha0: -(S.vars:Int)≤a) (ha1:a≤S.vars) (A:Option Addr) (c:Nat) (us:List Int) (hi:Rd w A us) (hra:∀x∈us,-(S.vars:Int)≤x∧x≤S.vars) (hal:us.length≤1099511627776) (hfar:L.far A) (hcore:S.core=[]):
  Calls Tryz.prog 172 #[.pointer (some ⟨L.a,0,none⟩), .int .i64 a, .slice A us.length c] w (SvP (.tuple #[]) (S.blame a us) L w):=by
 have hvl:=ok.vl
 obtain ⟨MET,hMET⟩:∃MET,Sv.blameL S S.T.lits.reverse [tv a] [a]=MET:=⟨_,rfl⟩
 obtain ⟨RC,hRC⟩:∃RC,Sv.coreL MET us S.core=RC:=⟨_,rfl⟩
 have hRES:S.blame a us={ S with core:=RC }:=by
  unfold Sv.blame
  rw [hMET,hRC]
 rw [hRES]
 have FIN:Hid (∀W L',SvAt W L' { S with core:=RC }→L.ext L' w→Fr (L.own w) w W→SvP (.tuple #[]) { S with core:=RC } L w (.returned (.tuple #[])) W):=fun W L' g1 g2 g3=>⟨rfl,L',g1,g2,g3⟩
 have hmm:=@run_makeMap Tryz.prog
 obtain ⟨va,hva⟩:∃va,tv a=va:=⟨_,rfl⟩
 obtain ⟨hmx,hwr⟩:=max_e ha0 ha1 hvl
 have hvr:=tv_le ha0 ha1 hvl
 rw [hva] at hmx hvr hMET
 obtain ⟨w1,hrun1,hm1,hf1⟩:=(Mel.new w).store (v:=va) (by decide) ⟨by omega,by omega⟩
 have HF1:Hid (Fr [] w w1):=((Fr.refl [] w).alloc _).trans hf1 (fun k hk=>by simp at hk;subst hk;exact .inr (Nat.le_refl _))
 obtain ⟨w2,hrun2,hm2,hf2⟩:=(Mel.new w1).store (v:=a) (by decide) ⟨by omega,by omega⟩
 have HF2a:Hid (Fr [] w1 w2):=((Fr.refl [] w1).alloc _).trans hf2 (fun k hk=>by simp at hk;subst hk;exact .inr (Nat.le_refl _))
 have HF2:Hid (Fr [] w w2):=HF1.out.then_ HF2a.out
 have HM1:=Lib.hid (hm1.keep HF2a.out)
 have HM2:=Lib.hid hm2
 have hs1:w.heap.size<w1.heap.size:=hm1.lt
 have HS1:=Lib.hid hs1
 obtain ⟨bm,hbm⟩:∃bm,w1.heap.size=bm:=⟨_,rfl⟩
 obtain ⟨bg,hbg⟩:∃bg,w.heap.size=bg:=⟨_,rfl⟩
 rw [hbm] at hs1 hrun2 HM2
 rw [hbg] at hs1 hrun1 HM1
 have HH:=Lib.hid h
 have HOK:=Lib.hid ok
 have HMET:=Lib.hid hMET
 have HRC:=Lib.hid hRC
 have HBG:=Lib.hid hbg
 have HBM:=Lib.hid hbm
 have HLT:=Lib.hid hs1
 have HI:=Lib.hid hi
 have HRA:=Lib.hid hra
 have HFAR:=Lib.hid hfar
 have HCO:=Lib.hid hcore
 obtain ⟨c0,-,-,c3,-⟩:=h.cells
 have HC0:=Lib.hid c0
 have HC3:=Lib.hid c3
 have HLV:=Lib.hid ok.len_le
 have c0:=HF2.out.cellS HC0.out
 have KL:=Lib.hid (trail_len w2 L.tL S.T (h.tr.fr HF2.out (by simp)))
 have hll:=ok.len_le
 have hlc:=h.lenc
 have hlll:=ok.ll
 have HWR:Hid (∀x,∀n:Nat,∀k,x=S.T.lits[k]! →k<S.T.lits.length→n=n):=fun _ _ _ _ _=>rfl
 clear hf1 hf2 hm1 hm2 c3 h ok hMET hRC hi hra hfar hcore ha0 ha1 hva hRES HWR
 go_enter Tryz.func172,Tryz.ntmps172
 go_wp2_with fail
 refine KL.out.mono ?_
 clear KL
 rintro e w3 ⟨rfl,rfl⟩
 clear hrun1 hrun2 c0 hmx hwr
 have hw1:IntKind.i64.wrap ((S.T.lits.length:Int)-1)=(S.T.lits.length:Int)-1:=IntWalk.i64_in _ (by omega)
 go_wp2_with fail
 clear hw1
 go_loopg [8] S.T.lits.length (fun g x8 wr=>∃(n1 n2:Nat) (g1 met1:List Int),g≤S.T.lits.length∧x8= .int .i64 ((g:Int)-1)∧Hid (Sv.blameL S (S.T.lits.take g).reverse g1 met1=MET)∧Hid (Mel wr bg n1 g1)∧Hid (Mel wr bm n2 met1)∧n1+1048577*g≤300000000000∧n2+g≤262145∧Hid (Fr [] w wr))
 case atStart=>exact ⟨1,1,[va],[a],Nat.le_refl _,rfl,by show _=_;rw [List.take_length];exact HMET.out,HM1.out,HM2.out,by omega,by omega,HF2.out⟩
 case round=>
  obtain ⟨n1,n2,g1,met1,hk,rfl,HB,HG,HT,hn1,hn2,HF⟩:=hrel
  have HN1:=Lib.hid hn1
  have HN2:=Lib.hid hn2
  clear hn1 hn2
  cases gk with
  |zero=>
   have HME:Hid (met1=MET):=by
    have :=HB.out
    show _=_
    simpa [Sv.blameL] using this
   clear HB HN1 HG
   go_wp2_with fail
   have H1:=Lib.hid (HH.out.shut.keep HF.out)
   have HE1:=Lib.hid (L.seal_ext w)
   have HFO:Hid (Fr (L.own w) w wr):=HF.out.mono (fun k hk=>by cases hk)
   have HNB:Hid (((L.shut w).lab bm).1≠(L.shut w).id):=SvL.seal_new (by have :=HLT.out;have :=HBG.out;omega)
   have HR1:=Lib.hid (HI.out.keep HF.out)
   have HFA:Hid ((L.shut w).far A):=fun k hk=>by
    rcases Nat.lt_or_ge k w.heap.size with h1 |h1
    ·rw [SvL.seal_old h1];exact HFAR.out k hk
    ·exact SvL.seal_new h1
   have hme:=HME.out
   subst hme
   have HSC:Hid (({ S with core:=[] }:Sv)=S):=(congrArg (fun l=>({ S with core:=l }:Sv)) HCO.out).symm
   have HRAU:Hid (Ra us):=(mem_idx (p:=R64)).2 fun x hx=>by
    have :=HRA.out x hx
    constructor<;>omega
   have HRC0:Hid (Sv.coreL met1 us []=RC):=by
    have :=HRC.out
    rw [HCO.out] at this
    exact this
   clear HF HI HFAR HMET HM1 HM2 HC0 HC3 HRC HME
   go_loopg [90] us.length (fun g x90 wi=>∃(k:Nat) (c1:List Int) (L1:SvL),k+g=us.length∧x90= .int .i64 k∧Hid (Sv.coreL met1 (us.drop k) c1=RC)∧Hid (SvAt wi L1 { S with core:=c1 })∧Hid (L.ext L1 w)∧Hid (Fr (L.own w) w wi)∧Hid (Mel wi bm n2 met1)∧Hid ((L1.lab bm).1≠L1.id)∧Hid (Rd wi A us)∧Hid (L1.far A)∧c1.length≤k∧Hid (Ra c1))
   case atStart=>exact ⟨0,[],L.shut w,by omega,rfl,HRC0.out,HSC.out.symm▸H1.out,HE1.out,HFO.out,HT.out,HNB.out,HR1.out,HFA.out,Nat.le_refl _,fun j hj=>absurd hj (Nat.not_lt_zero _)⟩
   case round=>
    obtain ⟨k,c1,L1,hk,rfl,HB,H2,HE2,HF2',HT2,HNB2,HR2,HFA2,hcl,HRA2⟩:=hrel
    have HK:=Lib.hid hk
    have hkl:k≤us.length:=by omega
    clear hk
    by_cases hlt:k<us.length
    ·obtain ⟨b,o,x,hA,he,cx,hx1,hx2⟩:=HR2.out.one HRAU.out hlt
     subst hA
     have hdr:us.drop k=x::us.drop (k+1):=by
      rw [List.drop_eq_getElem_cons hlt,←he.out]
      simp only [List.getElem!_eq_getElem?_getD,List.getElem?_eq_getElem hlt,Option.getD_some]
     have HDR:=Lib.hid hdr
     have hlk:=HT2.out.look (v:=x) ⟨hx1,hx2⟩
     clear hdr
     by_cases hm:x∈met1
     ·have hdq:decide (x∈met1)=true:=decide_eq_true hm
      rw [hdq] at hlk
      have HM:=Lib.hid hm
      obtain ⟨-,-,-,-,-,-,-,c7,-⟩:=H2.out.cells
      rw [HE2.out.1] at c7
      simp only at c7
      have HC7:=Lib.hid c7
      have KC:=Lib.hid (scontains_ints wr L1.oA L1.oC c1 x H2.out.rco.rd HRA2.out (by omega))
      obtain ⟨q,hq⟩:∃q,c1.any (x== ·)=q:=⟨_,rfl⟩
      rw [hq] at KC
      have HQ:=Lib.hid hq
      clear hm hdq hq
      go_wp2_with fail
      refine KC.out.mono ?_
      clear KC hlk cx c7
      rintro e w3 ⟨rfl,hf⟩
      have HF3:=Lib.hid hf
      have c7:=HF3.out.cellS HC7.out
      clear hf
      cases q with
      |true=>
       have HB2:Hid (Sv.coreL met1 (us.drop (k+1)) c1=RC):=by
        have :=HB.out
        rw [HDR.out,Sv.coreL,if_neg (by
         rintro ⟨_,h2⟩
         have :=HQ.out
         rw [List.any_eq_true] at this
         obtain ⟨y,hy1,hy2⟩:=this
         exact h2 ((beq_iff_eq.1 hy2)▸hy1))] at this
        exact this
       clear c7
       go_wp2_with fail
       go_roundg (gk-1)
       case measure=>have :=HK.out;omega
       case rel=>exact ⟨k+1,c1,L1,by have :=HK.out;omega,by go_num,HB2.out,H2.out.keep HF3.out,HE2.out,HF2'.out.then_ (HF3.out.mono (fun k hk=>by cases hk)),HT2.out.keep HF3.out,HNB2.out,HR2.out.keep HF3.out,HFA2.out,by omega,HRA2.out⟩
      |false=>
       have HB2:Hid (Sv.coreL met1 (us.drop (k+1)) (c1++[x])=RC):=by
        have :=HB.out
        rw [HDR.out,Sv.coreL,if_pos ⟨HM.out,by
         intro h2
         have :=HQ.out
         rw [List.any_eq_false] at this
         exact this x h2 (beq_self_eq_true x)⟩] at this
        exact this
       have H3:=Lib.hid (H2.out.keep HF3.out)
       have hno7:L.a∉blks L1.oA:=fun hm=>by
        have e1:=H2.out.t7 _ hm
        rw [←HE2.out.1,H2.out.t0] at e1
        simp at e1
       have HN7:=Lib.hid hno7
       have HB4:Hid (Fr [] w3 (w3.alloc (.cells #[.int .i64 x] 3))):=box_fr' _ _
       have HCE:Hid ((w3.alloc (.cells #[.int .i64 x] 3)).cell? ⟨w3.heap.size,0,none⟩=some (.int .i64 x)):=(At.new w3 _ _).cell 0
       have HIW:=Lib.hid (H3.out.rco.keep' HB4.out)
       have HST:Hid (∀w5,Fr (blks L1.oA) (w3.alloc (.cells #[.int .i64 x] 3)) w5→w5.cell? ⟨L.a,7,none⟩=some (.slice L1.oA c1.length L1.oC)∧w5.frozen? ⟨L.a,7,none⟩=false):=fun w5 hf5=>by
        have c7':=HB4.out.cellS (HF3.out.cellS HC7.out)
        have f7:=(H3.out.keep HB4.out).obj.frozen 7
        rw [HE2.out.1] at f7
        exact ⟨hf5.cellN HN7.out c7',(World.frozen?_of_block (hf5.block L.a (lt_of_cell c7') HN7.out)).trans f7⟩
       have hck:c1.length<17592186044416:=by omega
       have HCK:=Lib.hid hck
       clear hno7 hck
       go_wp2_with (at_builtin;(refine wpList_append_int _ rfl _ _ rfl L1.oA L1.oC c1 _ rfl rfl HIW.out ⟨w3.heap.size,0,none⟩ 1 x rfl HCE.out HCK.out ?_;intro g5 cap5 w5 hi5 hf5 hg5 hs5;obtain ⟨s7,f7⟩:=HST.out w5 hf5))
       have hf35:Fr (blks L1.oA) w3 w5:=(HB4.out.mono (fun k hk=>by cases hk)).then_ hf5
       obtain ⟨L6,h6,he6,hf6,hL6⟩:=H3.out.setcore hi5 hf35 (fun k hk hl=>H3.out.t7 k hk) (fun k hk=>by
        simp [blks] at hk
        subst hk
        rcases hg5 with h5 |h5
        ·exact .inl ⟨H3.out.rco.lt _ h5,H3.out.t7 _ h5⟩
        ·right
         rw [h5]
         simp)
       rw [HE2.out.1,List.length_append,List.length_singleton] at h6 hf6
       have H6:=Lib.hid h6
       have hsz3:w.heap.size≤w3.heap.size:=Nat.le_trans HF2'.out.size HF3.out.size
       have HE6:=Lib.hid (SvL.ext_trans HE2.out he6 hsz3)
       have HF6:=Lib.hid (SvL.own_then HE2.out (HF2'.out.then_ (HF3.out.mono (fun k hk=>by cases hk))) hf6)
       have hb3:bm<w3.heap.size:=Nat.lt_of_lt_of_le HT2.out.lt HF3.out.size
       have HT6:=Lib.hid ((HT2.out.keep HF3.out).fr hf6 (SvL.not_own HNB2.out))
       have HNB6:Hid ((L6.lab bm).1≠L6.id):=by
        show _≠_
        rw [hL6]
        simp only
        rw [SvL.re_old hb3]
        exact HNB2.out
       have HR6:=Lib.hid ((HR2.out.keep HF3.out).frF hf6 (fun k hk=>SvL.not_own (HFA2.out k hk)))
       have HFA6:Hid (L6.far (some ⟨b,o,none⟩)):=fun k hk=>by
        rw [hL6]
        simp only
        rw [SvL.re_old ((HR2.out.keep HF3.out).blk (by omega) k hk)]
        exact HFA2.out k hk
       have HRA6:Hid (Ra (c1++[x])):=(mem_idx (p:=R64)).2 fun y hy=>by
        rcases List.mem_append.1 hy with h5 |h5
        ·exact (mem_idx (p:=R64)).1 HRA2.out y h5
        ·simp at h5;rw [h5];exact ⟨hx1,hx2⟩
       clear h6 he6 hf6 hL6 hf35 hi5 hf5 hg5 hs5 hb3 hsz3 s7 f7
       go_roundg (gk-1)
       case measure=>have :=HK.out;omega
       case rel=>exact ⟨k+1,c1++[x],L6,by have :=HK.out;omega,by go_num,HB2.out,H6.out,HE6.out,HF6.out,HT6.out,HNB6.out,HR6.out,HFA6.out,by simp;omega,HRA6.out⟩
     ·have hdq:decide (x∈met1)=false:=decide_eq_false hm
      rw [hdq] at hlk
      have HB2:Hid (Sv.coreL met1 (us.drop (k+1)) c1=RC):=by
       have :=HB.out
       rw [HDR.out,Sv.coreL,if_neg (fun h=>hm h.1)] at this
       exact this
      clear hm hdq
      go_wp2_with fail
      go_roundg (gk-1)
      case measure=>have :=HK.out;omega
      case rel=>exact ⟨k+1,c1,L1,by have :=HK.out;omega,by go_num,HB2.out,H2.out,HE2.out,HF2'.out,HT2.out,HNB2.out,HR2.out,HFA2.out,by omega,HRA2.out⟩
    ·obtain rfl :k=us.length:=by omega
     have HFN:Hid (c1=RC):=by
      have :=HB.out
      rw [List.drop_length] at this
      exact this
     have hfn:=HFN.out
     subst hfn
     have FF:=Lib.hid (FIN.out _ L1 H2.out HE2.out HF2'.out)
     clear HB HK
     go_wp2_with fail
     go_end0
     exact FF.out
  |succ i=>
   have hil:i<S.T.lits.length:=by omega
   obtain ⟨hx1,hx2,hx3,hx4,hx5⟩:=HOK.out.set_lit hil
   obtain ⟨l,hl⟩:∃l,S.T.lits[i]! =l:=⟨_,rfl⟩
   rw [hl] at hx1 hx2 hx3 hx4 hx5
   have HL:=Lib.hid hl
   obtain ⟨v,hv⟩:∃v,tv l=v:=⟨_,rfl⟩
   obtain ⟨hmx,hwr⟩:=max_e hx3 hx4 hvl
   rw [hv] at hmx hx1 hx2
   have HV:=Lib.hid hv
   have hci:((i+1:Nat):Int)-1=(i:Int):=by omega
   have c0:=HF.out.cellS HC0.out
   have KA:=Lib.hid (trail_at wr L.tL S.T (HH.out.tr.fr HF.out (by simp)) (i:Int))
   rw [atB_nat hil,hl] at KA
   have HBR:Hid (Sv.blameL S (l::(S.T.lits.take i).reverse) g1 met1=MET):=by
    have :=HB.out
    rw [rev_take hil,hl] at this
    exact this
   rw [hci]
   clear HB hl hv
   go_wp2_with fail
   refine KA.out.mono ?_
   clear KA
   rintro e w4 ⟨rfl,rfl⟩
   by_cases hg:v∈g1
   ·have hlk:=HG.out.look (v:=v) ⟨by omega,by omega⟩
    have hdq:decide (v∈g1)=true:=decide_eq_true hg
    rw [hdq] at hlk
    have HGM:=Lib.hid hg
    clear hg hdq
    have KV:=Lib.hid (trail_level wr L.tL S.T (HH.out.tr.fr HF.out (by simp)) v)
    obtain ⟨lv,hlv⟩:∃lv,S.T.levB v=lv:=⟨_,rfl⟩
    rw [hlv] at KV
    have HLVV:=Lib.hid hlv
    clear hlv
    go_wp2_with fail
    refine KV.out.mono ?_
    clear KV
    rintro e w5 ⟨rfl,rfl⟩
    clear hlk hmx hwr
    by_cases hz:lv=0
    ·have hd:(lv==0)=true:=by simp [hz]
     have HSK:Hid (Sv.blameL S (S.T.lits.take i).reverse g1 met1=MET):=by
      have :=HBR.out
      rw [Sv.blameL_skip (.inr (by rw [HV.out,HLVV.out];exact hz))] at this
      exact this
     clear hz
     go_wp2_with fail
     go_roundg i
     case measure=>omega
     case rel=>exact ⟨n1,n2,g1,met1,by omega,rfl,HSK.out,HG.out,HT.out,by have :=HN1.out;omega,by have :=HN2.out;omega,HF.out⟩
    ·have hd:(lv==0)=false:=by simp [hz]
     have hrs:=HOK.out.rs v
     have KR:=Lib.hid (trail_reason wr L.tL S.T (HH.out.tr.fr HF.out (by simp)) v)
     obtain ⟨r,hr⟩:∃r:Nat,S.T.reaB v=r:=⟨(S.T.reaB v).toNat,by omega⟩
     rw [hr] at KR hrs
     have HR:=Lib.hid hr
     clear hr
     cases r with
     |zero=>
      obtain ⟨w6,hrun,hm6,hf6⟩:=HT.out.store (v:=l) (by have :=HN2.out;unfold maxLen;omega) ⟨by omega,by omega⟩
      have HF6:Hid (Fr [] wr w6→True):=fun _=>trivial
      have HSK:Hid (Sv.blameL S (S.T.lits.take i).reverse g1 (l::met1)=MET):=by
       have :=HBR.out
       rw [Sv.blameL_met (by rw [HV.out];exact HGM.out) (by rw [HV.out,HLVV.out];exact hz) (by rw [HV.out,HR.out];omega)] at this
       exact this
      have HM6:=Lib.hid hm6
      have HG6:=Lib.hid (HG.out.fr hf6 (by simp;have :=HLT.out;omega))
      have HFF6:Hid (Fr [] w w6):=HF.out.trans hf6 (fun k hk=>by simp at hk;subst hk;right;have :=HLT.out;have :=HBG.out;omega)
      clear hm6 hf6 hz
      go_wp2_with fail
      refine KR.out.mono ?_
      clear KR
      rintro e w5 ⟨rfl,rfl⟩
      go_wp2_with fail
      go_roundg i
      case measure=>omega
      case rel=>exact ⟨n1,n2+1,g1,l::met1,by omega,rfl,HSK.out,HG6.out,HM6.out,by have :=HN1.out;omega,by have :=HN2.out;omega,HFF6.out⟩
     |succ n=>
      have hnl:n<S.list.length:=by omega
      have hw1:IntKind.i64.wrap (((n+1:Nat):Int)-1)=(n:Int):=by rw [IntKind.wrap_i64];omega
      have hd2:decide ((n:Int)<0)=false:=decide_eq_false (by omega)
      obtain ⟨gc,hgc,x0,-,-⟩:=(HH.out.keep HF.out).rcell (n:=n) (by rw [hlc];exact hnl)
      have HROW:=Lib.hid ((HH.out.keep HF.out).ech n (by rw [hlc];exact hnl))
      have hrc:=HH.out.rc_eq (n:=n) (by rw [hlc];exact hnl)
      have hlit:=fun k hk=>HOK.out.lit (n:=n) (k:=k) hk
      have hlb:=HOK.out.lb n
      rw [hrc] at hlit hlb
      obtain ⟨⟨A9,c9,l9,b9,t9⟩,hx9⟩:∃x,L.cs[n]! =x:=⟨_,rfl⟩
      rw [hx9] at x0 HROW hrc hlit hlb
      simp only [Cw.rc] at x0 HROW hrc hlit hlb
      have HLIT:=Lib.hid hlit
      have hnc:n<L.cs.length:=by omega
      have c3:=HF.out.cellS HC3.out
      rw [hgc] at c3
      have HSK:Hid (Sv.blameL S (S.T.lits.take i).reverse (l9.map tv++g1) met1=MET):=by
       have :=HBR.out
       rw [Sv.blameL_go (by rw [HV.out];exact HGM.out) (by rw [HV.out,HLVV.out];exact hz) (by rw [HV.out,HR.out];omega),HV.out,HR.out,show (((n+1:Nat):Int)-1).toNat=n from by omega,hrc] at this
       exact this
      have HROW0:Hid (Ints w A9 c9 l9):=by
       have :=HH.out.ech n hnc
       rw [hx9] at this
       exact this
      clear hrc hlit hx9 hz hgc
      go_wp2_with fail
      refine KR.out.mono ?_
      clear KR
      rintro e w5 ⟨rfl,rfl⟩
      go_wp2_with fail
      clear c0 c3 x0 hw1 hd2 HROW
      go_loopg [78] l9.length (fun g2 x78 wi=>∃(j:Nat),j+g2=l9.length∧x78= .int .i64 j∧Hid (Mel wi bg (n1+j) ((l9.take j).map tv++g1))∧Hid (Mel wi bm n2 met1)∧Hid (Fr [] w wi))
      case atStart=>exact ⟨0,by omega,rfl,HG.out,HT.out,HF.out⟩
      case round=>
       obtain ⟨j,hj,rfl,HGi,HTi,HFi⟩:=hrel
       have HJ:=Lib.hid hj
       have hjl:j≤l9.length:=by omega
       clear hj
       by_cases hlt:j<l9.length
       ·obtain ⟨hy0,hy1,hy2⟩:=HLIT.out j hlt
        obtain ⟨gb,hA9,hgl⟩:=HROW0.out.pos hlt
        subst hA9
        have cy:=(HROW0.out.keep' HFi.out).cell hlt
        obtain ⟨y,hy⟩:∃y,l9[j]! =y:=⟨_,rfl⟩
        rw [hy] at hy0 hy1 hy2 cy
        have hty:=tv_le hy1 hy2 hvl
        obtain ⟨hmx,hwr⟩:=max_e hy1 hy2 hvl
        obtain ⟨ty,htye⟩:∃ty,tv y=ty:=⟨_,rfl⟩
        rw [htye] at hty hmx
        obtain ⟨w6,hrun,hm6,hf6⟩:=HGi.out.store (v:=ty) (by have :=HN1.out;unfold maxLen;omega) ⟨by omega,by omega⟩
        have HM6:Hid (Mel w6 bg (n1+(j+1)) ((l9.take (j+1)).map tv++g1)):=hm6.congr (fun x=>by
         have :=map_take_mem hlt g1 x
         rw [hy,htye] at this
         exact this)
        have HT6:=Lib.hid (HTi.out.fr hf6 (by simp;have :=HLT.out;omega))
        have HFF6:Hid (Fr [] w w6):=HFi.out.trans hf6 (fun k hk=>by simp at hk;subst hk;right;have :=HBG.out;omega)
        clear hm6 hf6 htye hy
        go_wp2_with fail
        go_roundg (gk-1)
        case measure=>have :=HJ.out;omega
        case rel=>exact ⟨j+1,by have :=HJ.out;omega,by go_num,HM6.out,HT6.out,HFF6.out⟩
       ·obtain rfl :j=l9.length:=by omega
        have HGE:Hid (Mel wr bg (n1+l9.length) (l9.map tv++g1)):=by
         have :=HGi.out
         rw [List.take_length] at this
         exact this
        clear HJ HGi
        go_wp2_with fail
        go_roundg i
        case measure=>omega
        case rel=>exact ⟨n1+l9.length,n2,l9.map tv++g1,met1,by omega,rfl,HSK.out,HGE.out,HTi.out,by have :=HN1.out;omega,by have :=HN2.out;omega,HFi.out⟩
   ·have hlk:=HG.out.look (v:=v) ⟨by omega,by omega⟩
    have hdq:decide (v∈g1)=false:=decide_eq_false hg
    rw [hdq] at hlk
    have HSK:Hid (Sv.blameL S (S.T.lits.take i).reverse g1 met1=MET):=by
     have :=HBR.out
     rw [Sv.blameL_skip (.inl (by rw [HV.out];exact hg))] at this
     exact this
    clear hg hdq
    go_wp2_with fail
    go_roundg i
    case measure=>omega
    case rel=>exact ⟨n1,n2,g1,met1,by omega,rfl,HSK.out,HG.out,HT.out,by have :=HN1.out;omega,by have :=HN2.out;omega,HF.out⟩
def Rdx (w:World) (L:SvL) (A:Option Addr) (us:List Int):Prop:=Rd w A us∧(0<us.length→L.far A)
theorem far_ext {w:World} {L L':SvL} {A:Option Addr} (he:L.ext L' w) (hf:L.far A) (hb:∀k,k∈blks A→k<w.heap.size):L'.far A:=fun k hk e=>
 hf k hk (he.2.2 k (hb k hk) (e.trans he.2.1))
theorem Rdx.step {w w':World} {L L':SvL} {A:Option Addr} {us:List Int} (h:Rdx w L A us) (he:L.ext L' w) (hf:Fr (L.own w) w w'):Rdx w' L' A us:=by
 refine ⟨fun h0=> ?_,fun h0=>far_ext he (h.2 h0) (h.1.blk h0)⟩
 exact (h.1.frF hf (fun k hk=>SvL.not_own (h.2 h0 k hk))) h0
theorem Rdx.keep {w w':World} {L:SvL} {A:Option Addr} {us:List Int} (h:Rdx w L A us) (hf:Fr [] w w'):Rdx w' L A us:=⟨h.1.keep hf,h.2⟩
theorem deep_calls (w:World) (L:SvL) (S:Sv) (h:SvAt w L S) (m:Nat) (ok:S.Ok m) (hd:S.T.levels.length<17592186044416):
  Calls Tryz.prog 173 #[.pointer (some ⟨L.tL.a,0,none⟩)] w fun e w'=>(∃x,e= .returned x)∧∃L',SvAt w' L' S.deep∧L.ext L' w∧Fr (L.own w) w w':=by
 obtain ⟨R,hR⟩:=ok.tr
 have hs:=hR.size
 refine (trail_deeper w L.tL S.T h.tr (by omega) hd).mono ?_
 rintro e w' ⟨rfl,tL',h1,h2,h3⟩
 exact ⟨⟨_,rfl⟩,h.trail h1 h2 h3⟩
theorem put_calls (w:World) (L:SvL) (S:Sv) (h:SvAt w L S) (m:Nat) (ok:S.Ok m) (l r:Int) (h0: -(S.vars:Int)≤l) (h1:l≤S.vars):
  Calls Tryz.prog 87 #[.pointer (some ⟨L.tL.a,0,none⟩), .int .i64 l, .int .i64 r] w fun e w'=>(∃x,e= .returned x)∧∃L',SvAt w' L' (S.put l r)∧L.ext L' w∧Fr (L.own w) w w':=by
 have hl:=ok.len_le
 have hv:=ok.vl
 refine (trail_put w L.tL S.T h.tr l r (by omega) (by omega) (by omega)).mono ?_
 rintro e w' ⟨rfl,tL',h1,h2,h3⟩
 exact ⟨⟨_,rfl⟩,h.trail h1 h2 h3⟩
namespace Sv
theorem Ok.deep {S:Sv} {m:Nat} (ok:S.Ok m):S.deep.Ok m:=by
 obtain ⟨R,hR⟩:=ok.tr
 refine ⟨ok.vl,⟨R,?_⟩,ok.hi,ok.hl,ok.ph,ok.wl,ok.ll,ok.wb,ok.wt,ok.lr,ok.ln,ok.lb,ok.hd,ok.rs⟩
 have :=hR.deep
 simpa [Sv.deep,Tr.deepF] using this
theorem deep_levels (S:Sv):S.deep.T.levels.length=S.T.levels.length+1:=by simp [Sv.deep,Tr.deepF]
theorem put_levels (S:Sv) (l r:Int):(S.put l r).T.levels=S.T.levels:=by
 unfold Sv.put
 simp only
 split<;>rfl
theorem Ok.choose {S:Sv} {m:Nat} (ok:S.Ok m):S.choose.1.Ok m∧S.choose.1.vars=S.vars∧S.choose.1.list=S.list∧S.choose.1.T.levels.length≤S.T.levels.length+1:=by
 have hp:=ok.pick
 unfold Sv.choose
 split
 ·exact ⟨hp.1.keep,hp.2.2.1,hp.2.2.2.1,by show S.pick.1.T.levels.length≤_;rw [hp.2.1];omega⟩
 ·refine ⟨hp.1.deep.put ⟨by omega,by omega⟩,hp.2.2.1,hp.2.2.2.1,?_⟩
  rw [put_levels,deep_levels,hp.2.1]
  omega
theorem decideF_stop {S:Sv} {us:List Int} {f:Nat} (h:¬S.T.levels.length<us.length):decideF us f S=S.choose:=by
 cases f with
 |zero=>rfl
 |succ f=>rw [decideF,if_neg h]
theorem Ok.decideF {us:List Int} {m:Nat}:∀(f:Nat) (S:Sv),S.Ok m→(Sv.decideF us f S).1.Ok m∧(Sv.decideF us f S).1.vars=S.vars∧(Sv.decideF us f S).1.list=S.list∧(Sv.decideF us f S).1.T.levels.length≤max S.T.levels.length us.length+1
 |0,S,ok=>by
  have h:=ok.choose
  exact ⟨h.1,h.2.1,h.2.2.1,by have :=h.2.2.2;show S.choose.1.T.levels.length≤_;omega⟩
 |f+1,S,ok=>by
  rw [Sv.decideF]
  split
  ·rename_i hlt
   simp only
   split
   ·exact ⟨ok.setcore _,rfl,rfl,by show S.T.levels.length≤_;omega⟩
   ·split
    ·refine ⟨ok.deep.put ⟨by omega,by omega⟩,rfl,rfl,?_⟩
     rw [put_levels,deep_levels]
     omega
    ·have ih:=Ok.decideF (us:=us) f S.deep ok.deep
     refine ⟨ih.1,ih.2.1,ih.2.2.1,?_⟩
     have :=ih.2.2.2
     rw [deep_levels] at this
     omega
  ·have h:=ok.choose
   exact ⟨h.1,h.2.1,h.2.2.1,by have :=h.2.2.2;omega⟩
theorem Ok.decide_ {S:Sv} {m:Nat} (ok:S.Ok m) (us:List Int):(S.decide_ us).1.Ok m∧(S.decide_ us).1.vars=S.vars∧(S.decide_ us).1.list=S.list∧(S.decide_ us).1.T.levels.length≤max S.T.levels.length us.length+1:=Ok.decideF _ S ok
end Sv
theorem decide_calls (w:World) (L:SvL) (S:Sv) (h:SvAt w L S) (m:Nat) (ok:S.Ok m) (A:Option Addr) (c:Nat) (us:List Int) (hrd:Rdx w L A us) (hus:∀x∈us,-(S.vars:Int)≤x∧x≤S.vars) (hul:us.length≤1099511627776) (hcore:S.core=[]) (hdep:S.T.levels.length≤4398046511104):
  Calls Tryz.prog 140 #[.pointer (some ⟨L.a,0,none⟩), .slice A us.length c] w (SvP (.int .i64 (S.decide_ us).2) (S.decide_ us).1 L w):=by
 obtain ⟨RES,hRES⟩:∃RES,S.decide_ us=RES:=⟨_,rfl⟩
 have HRES:Hid (Sv.decideF us (us.length+1) S=RES):=hRES
 rw [hRES]
 have FIN:Hid (∀(S':Sv) (r:Int),RES=(S',r)→∀W L',SvAt W L' S'→L.ext L' w→Fr (L.own w) w W→SvP (.int .i64 RES.2) RES.1 L w (.returned (.int .i64 r)) W):=fun S' r e W L' g1 g2 g3=>by
  subst e
  exact ⟨rfl,L',g1,g2,g3⟩
 have HH:=Lib.hid h
 have HOK:=Lib.hid ok
 have HRD:=Lib.hid hrd
 have HUS:=Lib.hid hus
 have HCO:=Lib.hid hcore
 have hvl:=ok.vl
 clear hRES h ok hrd hus hcore
 go_enter Tryz.func140,Tryz.ntmps140
 go_wp2_with fail
 go_loopg [] (us.length+1) (fun g wr=>∃(S1:Sv) (L1:SvL),Hid (Sv.decideF us g S1=RES)∧us.length+1≤g+S1.T.levels.length∧S1.T.levels.length≤8796093022208∧Hid (S1.vars=S.vars)∧Hid (S1.core=[])∧Hid (S1.Ok m)∧Hid (SvAt wr L1 S1)∧Hid (L.ext L1 w)∧Hid (Fr (L.own w) w wr))
 case atStart=>exact ⟨S,L,HRES.out,by omega,by omega,rfl,HCO.out,HOK.out,HH.out,SvL.ext_refl _ _,Fr.refl _ _⟩
 case round=>
  obtain ⟨S1,L1,HR1,hg,hdl,HV1,HC1,HO1,H1,HE1,HF1⟩:=hrel
  have HG:=Lib.hid hg
  have hea:L1.a=L.a:=HE1.out.1
  obtain ⟨c0,-⟩:=H1.out.cells
  rw [hea] at c0
  have HEA:=Lib.hid hea
  have HC0:=Lib.hid c0
  have KD:=Lib.hid (trail_depth wr L1.tL S1.T H1.out.tr)
  obtain ⟨d,hd⟩:∃d,S1.T.levels.length=d:=⟨_,rfl⟩
  rw [hd] at KD hdl
  have HD:=Lib.hid hd
  have HRX:=Lib.hid (HRD.out.step HE1.out HF1.out)
  clear hea hg hd
  have hvs:S1.vars=S.vars:=HV1.out
  by_cases hlt:d<us.length
  ·obtain ⟨f,rfl⟩:∃f,gk=f+1:=⟨gk-1,by have :=HG.out;have :=HD.out;omega⟩
   have HRAU:Hid (Ra us):=(mem_idx (p:=R64)).2 fun x hx=>by
    have :=HUS.out x hx
    constructor<;>omega
   obtain ⟨b,o,x,hA,he,cx,hx1,hx2⟩:=HRX.out.1.one HRAU.out hlt
   subst hA
   have hxb:=HUS.out x (by rw [←he.out];exact mem_get hlt)
   obtain ⟨y,hy⟩:∃y,S1.T.valF x=y:=⟨_,rfl⟩
   have KV:=Lib.hid (trail_value wr L1.tL S1.T H1.out.tr x hx1 hx2 HO1.out.small)
   rw [hy] at KV
   have HY:Hid (S1.val us[S1.T.levels.length]! =y):=by
    show _=_
    rw [HD.out,he.out]
    exact hy
   clear hy
   by_cases hy1:y= -1
   ·subst hy1
    have hd1:(((-1:Int))==(-1:Int))=true:=rfl
    have KB:=Lib.hid (blame_calls wr L1 S1 H1.out m HO1.out x (by omega) (by omega) (some ⟨b,o,none⟩) c us HRX.out.1 (fun z hz=>by have :=HUS.out z hz;omega) hul (HRX.out.2 (by omega)) HC1.out)
    rw [HEA.out] at KB
    have HK:Hid (RES=(S1.blame x us,2)):=by
     have :=HR1.out
     rw [Sv.decideF,if_pos (by rw [HD.out];exact hlt)] at this
     simp only at this
     rw [if_pos HY.out,HD.out,he.out] at this
     exact this.symm
    go_wp2_with fail
    refine KD.out.mono ?_
    rintro e w2 ⟨rfl,rfl⟩
    go_wp2_with fail
    refine KD.out.mono ?_
    rintro e w2 ⟨rfl,rfl⟩
    go_wp2_with fail
    refine KV.out.mono ?_
    rintro e w2 ⟨rfl,rfl⟩
    go_wp2_with fail
    refine KB.out.mono ?_
    rintro e w2 ⟨rfl,L2,h2,he2,hf2⟩
    have FF:=Lib.hid (FIN.out _ 2 HK.out w2 L2 h2 (SvL.ext_trans HE1.out he2 HF1.out.size) (SvL.own_then HE1.out HF1.out hf2))
    clear KB KV KD h2 he2 hf2 c0 cx
    go_wp2_with fail
    go_ret
    exact FF.out
   ·by_cases hy0:y=0
    ·subst hy0
     have KDE:=Lib.hid (deep_calls wr L1 S1 H1.out m HO1.out (by rw [HD.out];omega))
     have HK:Hid (RES=(S1.deep.put x 0,0)):=by
      have :=HR1.out
      rw [Sv.decideF,if_pos (by rw [HD.out];exact hlt)] at this
      simp only at this
      rw [if_neg (by rw [HY.out];decide),if_pos HY.out,HD.out,he.out] at this
      exact this.symm
     go_wp2_with fail
     refine KD.out.mono ?_
     rintro e w2 ⟨rfl,rfl⟩
     go_wp2_with fail
     refine KD.out.mono ?_
     rintro e w2 ⟨rfl,rfl⟩
     go_wp2_with fail
     refine KV.out.mono ?_
     rintro e w2 ⟨rfl,rfl⟩
     go_wp2_with fail
     refine KDE.out.mono ?_
     rintro e w2 ⟨⟨x2,rfl⟩,L2,h2,he2,hf2⟩
     have H2:=Lib.hid h2
     have HE2:=Lib.hid (SvL.ext_trans HE1.out he2 HF1.out.size)
     have HF2:=Lib.hid (SvL.own_then HE1.out HF1.out hf2)
     obtain ⟨c0,-⟩:=H2.out.cells
     rw [HE2.out.1] at c0
     have KP:=Lib.hid (put_calls w2 L2 S1.deep H2.out m HO1.out.deep x 0 (by show -(S1.vars:Int)≤x;omega) (by show x≤(S1.vars:Int);omega))
     clear KDE KV KD h2 he2 hf2 cx
     go_wp2_with fail
     refine KP.out.mono ?_
     rintro e w3 ⟨⟨x3,rfl⟩,L3,h3,he3,hf3⟩
     have FF:=Lib.hid (FIN.out _ 0 HK.out w3 L3 h3 (SvL.ext_trans HE2.out he3 HF2.out.size) (SvL.own_then HE2.out HF2.out hf3))
     clear KP h3 he3 hf3 c0
     go_wp2_with fail
     go_ret
     exact FF.out
    ·have hd1:(y==(-1:Int))=false:=by simp [hy1]
     have hd0:(y==(0:Int))=false:=by simp [hy0]
     have KDE:=Lib.hid (deep_calls wr L1 S1 H1.out m HO1.out (by rw [HD.out];omega))
     have HK:Hid (Sv.decideF us f S1.deep=RES):=by
      have :=HR1.out
      rw [Sv.decideF,if_pos (by rw [HD.out];exact hlt)] at this
      simp only at this
      rw [if_neg (by rw [HY.out];exact hy1),if_neg (by rw [HY.out];exact hy0)] at this
      exact this
     go_wp2_with fail
     refine KD.out.mono ?_
     rintro e w2 ⟨rfl,rfl⟩
     go_wp2_with fail
     refine KD.out.mono ?_
     rintro e w2 ⟨rfl,rfl⟩
     go_wp2_with fail
     refine KV.out.mono ?_
     rintro e w2 ⟨rfl,rfl⟩
     go_wp2_with fail
     refine KDE.out.mono ?_
     rintro e w2 ⟨⟨x2,rfl⟩,L2,h2,he2,hf2⟩
     have H2:=Lib.hid h2
     have HE2:=Lib.hid (SvL.ext_trans HE1.out he2 HF1.out.size)
     have HF2:=Lib.hid (SvL.own_then HE1.out HF1.out hf2)
     have hdl2:S1.deep.T.levels.length≤8796093022208:=by rw [Sv.deep_levels,HD.out];omega
     have HDL2:=Lib.hid hdl2
     clear KDE KV KD h2 he2 hf2 cx hdl2
     go_wp2_with fail
     go_roundg f
     case measure=>omega
     case rel=>exact ⟨S1.deep,L2,HK.out,by have :=HG.out;rw [Sv.deep_levels];omega,HDL2.out,HV1.out,HC1.out,HO1.out.deep,H2.out,HE2.out,HF2.out⟩
  ·have HK:Hid (RES=S1.choose):=by
    have :=HR1.out
    rw [Sv.decideF_stop (by rw [HD.out];exact hlt)] at this
    exact this.symm
   have KP:=Lib.hid (pick_calls wr L1 S1 H1.out m HO1.out)
   rw [HEA.out] at KP
   have HPK:=Lib.hid HO1.out.pick
   obtain ⟨PK,hPK⟩:∃PK,S1.pick=PK:=⟨_,rfl⟩
   have hch:S1.choose=if PK.2=0 then (PK.1.keep,1) else (PK.1.deep.put PK.2 0,0):=by
    unfold Sv.choose
    rw [hPK]
   rw [hPK] at KP HPK
   obtain ⟨S2,p⟩:=PK
   simp only at hch KP HPK
   have HCH:=Lib.hid hch
   clear hch hPK
   go_wp2_with fail
   refine KD.out.mono ?_
   rintro e w2 ⟨rfl,rfl⟩
   go_wp2_with fail
   refine KP.out.mono ?_
   rintro e w2 ⟨rfl,L2,h2,he2,hf2⟩
   have H2:=Lib.hid h2
   have HE2:=Lib.hid (SvL.ext_trans HE1.out he2 HF1.out.size)
   have HF2:=Lib.hid (SvL.own_then HE1.out HF1.out hf2)
   have hs2v:S2.vars=S1.vars:=HPK.out.2.2.1
   have hs2l:S2.T.levels.length≤8796093022208:=by rw [HPK.out.2.1,HD.out];exact hdl
   have hpr:=HPK.out.2.2.2.2.2
   obtain ⟨c0,-⟩:=H2.out.cells
   rw [HE2.out.1] at c0
   clear KP KD h2 he2 hf2
   by_cases hp0:p=0
   ·subst hp0
    have HK:Hid (RES=(S2.keep,1)):=by
     have :=HCH.out
     rw [if_pos rfl] at this
     exact HK.out.trans this
    have KK:=Lib.hid (keep_calls w2 L2 S2 H2.out m HPK.out.1)
    rw [HE2.out.1] at KK
    clear hs2v hs2l hpr
    go_wp2_with fail
    refine KK.out.mono ?_
    rintro e w3 ⟨rfl,L3,h3,he3,hf3⟩
    have FF:=Lib.hid (FIN.out _ 1 HK.out w3 L3 h3 (SvL.ext_trans HE2.out he3 HF2.out.size) (SvL.own_then HE2.out HF2.out hf3))
    clear KK h3 he3 hf3 c0
    go_wp2_with fail
    go_ret
    exact FF.out
   ·have hpb:(p==(0:Int))=false:=by simp [hp0]
    have HK:Hid (RES=(S2.deep.put p 0,0)):=by
     have :=HCH.out
     rw [if_neg hp0] at this
     exact HK.out.trans this
    have KDE:=Lib.hid (deep_calls w2 L2 S2 H2.out m HPK.out.1 (by omega))
    have HP1:Hid (-(S2.vars:Int)≤p∧p≤S2.vars):=by
     rw [hs2v]
     exact hpr
    clear hs2v hs2l hpr
    go_wp2_with fail
    refine KDE.out.mono ?_
    rintro e w3 ⟨⟨x3,rfl⟩,L3,h3,he3,hf3⟩
    have H3:=Lib.hid h3
    have HE3:=Lib.hid (SvL.ext_trans HE2.out he3 HF2.out.size)
    have HF3:=Lib.hid (SvL.own_then HE2.out HF2.out hf3)
    obtain ⟨c0,-⟩:=H3.out.cells
    rw [HE3.out.1] at c0
    have KPU:=Lib.hid (put_calls w3 L3 S2.deep H3.out m HPK.out.1.deep p 0 HP1.out.1 HP1.out.2)
    clear KDE h3 he3 hf3
    go_wp2_with fail
    refine KPU.out.mono ?_
    rintro e w4 ⟨⟨x4,rfl⟩,L4,h4,he4,hf4⟩
    have FF:=Lib.hid (FIN.out _ 0 HK.out w4 L4 h4 (SvL.ext_trans HE3.out he4 HF3.out.size) (SvL.own_then HE3.out HF3.out hf4))
    clear KPU h4 he4 hf4 c0
    go_wp2_with fail
    go_ret
    exact FF.out
namespace Sv
def rest (S:Sv):Hp×Nat×List Bool×List Bool×List Int×Nat×Nat×Int×Nat×Bool×Bool×List Int×Nat:=
 (S.H,S.vars,S.phase,S.model,S.core,S.used,S.bump,S.many,S.limit,S.bad,S.has,S.T.levels,S.list.length)
theorem rest_lset (S:Sv) (n:Nat) (l:List Int):(S.lset n l).rest=S.rest:=by simp [rest,lset]
theorem rest_wset (S:Sv) (n:Nat) (l:List Nat):(S.wset n l).rest=S.rest:=rfl
theorem rest_wput (S:Sv) (n k:Nat):(S.wput n k).rest=S.rest:=rfl
theorem rest_put (S:Sv) (l r:Int):(S.put l r).rest=S.rest:=by
 unfold rest
 rw [put_levels]
 rfl
theorem rest_moved (S:Sv) (n:Nat):(S.movedF n).1.rest=S.rest:=by
 unfold movedF movedTo
 split
 ·rw [rest_wput,rest_lset]
 ·rfl
theorem rest_turned (S:Sv) (n:Nat) (off:Int):(S.turned n off).rest=S.rest:=by
 unfold turned
 split
 ·rw [rest_lset]
 ·rfl
theorem rest_visit (S:Sv) (n:Nat) (off:Int):(S.visitF n off).1.rest=S.rest:=by
 unfold visitF
 split
 ·rfl
 ·unfold visitT
  simp only
  split
  ·exact rest_turned S n off
  ·split
   ·rw [rest_moved,rest_turned]
   ·split
    ·exact rest_turned S n off
    ·rw [rest_put,rest_turned]
theorem rest_visits (off:Int):∀(ws keep:List Nat) (S:Sv),(visitsF off ws keep S).1.rest=S.rest
 |[],keep,S=>by rw [visitsF,rest_wset]
 |n::r,keep,S=>by
  rw [visitsF]
  try simp only
  split
  ·rw [rest_visits off r,rest_visit]
  ·rw [rest_wset,rest_visit]
theorem followF_go {S:Sv} {f:Nat} (h:S.head<S.T.lits.length):followF (f+1) S=
  if (visitsF (-(S.T.lits[S.head]!)) (S.wat (lcode (-(S.T.lits[S.head]!)))) [] (S.wset (lcode (-(S.T.lits[S.head]!))) [])).2.isSome=true
  then ((visitsF (-(S.T.lits[S.head]!)) (S.wat (lcode (-(S.T.lits[S.head]!)))) [] (S.wset (lcode (-(S.T.lits[S.head]!))) [])).1,(visitsF (-(S.T.lits[S.head]!)) (S.wat (lcode (-(S.T.lits[S.head]!)))) [] (S.wset (lcode (-(S.T.lits[S.head]!))) [])).2)
  else followF f { (visitsF (-(S.T.lits[S.head]!)) (S.wat (lcode (-(S.T.lits[S.head]!)))) [] (S.wset (lcode (-(S.T.lits[S.head]!))) [])).1 with head:=(visitsF (-(S.T.lits[S.head]!)) (S.wat (lcode (-(S.T.lits[S.head]!)))) [] (S.wset (lcode (-(S.T.lits[S.head]!))) [])).1.head+1 }:=by
 simp only [followF]
 rw [if_pos h]
 generalize visitsF (-(S.T.lits[S.head]!)) (S.wat (lcode (-(S.T.lits[S.head]!)))) [] (S.wset (lcode (-(S.T.lits[S.head]!))) [])=q
 obtain ⟨S1,o⟩:=q
 cases o<;>simp
theorem Ok.followF:∀(f:Nat) (S:Sv),S.Ok 0→(Sv.followF f S).1.Ok 0∧(Sv.followF f S).1.rest=S.rest∧∀n,(Sv.followF f S).2=some n→n<S.list.length
 |0,S,ok=>⟨ok,rfl,fun n h=>by cases h⟩
 |f+1,S,ok=>by
  by_cases h:S.head<S.T.lits.length
  ·rw [followF_go h]
   generalize ho: -(S.T.lits[S.head]!)=off
   have hb:=ok.set_lit h
   have hc:lcode off<S.watch.length:=by
    rw [ok.wl]
    exact code_lt (by omega) (by omega)
   have o2:(S.wset (lcode off) []).Ok (([]:List Nat).length+(S.wat (lcode off)).length):=ok.wset hc (fun n hn=>by cases hn) (by simp)
   have hv:=o2.visits off (S.wat (lcode off)) [] _ (fun n hn=>ok.wb _ n hn) (fun n hn=>by cases hn) (by show _<(S.watch.set _ _).length;rw [List.length_set];exact hc)
   have hr:=rest_visits off (S.wat (lcode off)) [] (S.wset (lcode off) [])
   have hl:=visits_lits off (S.wat (lcode off)) [] (S.wset (lcode off) [])
   rw [rest_wset] at hr
   generalize visitsF off (S.wat (lcode off)) [] (S.wset (lcode off) [])=q at *
   split
   ·exact ⟨hv.1,hr,hv.2.2.2.2⟩
   ·have o:=hv.1
    have hh:q.1.head=S.head:=hv.2.2.1
    have hl2:S.T.lits.length≤q.1.T.lits.length:=hl
    have ok9:({ q.1 with head:=q.1.head+1 }:Sv).Ok 0:=⟨o.vl,o.tr,o.hi,o.hl,o.ph,o.wl,o.ll,o.wb,o.wt,o.lr,o.ln,o.lb,by show q.1.head+1≤q.1.T.lits.length;omega,o.rs⟩
    have ih:=Ok.followF f _ ok9
    have hl3:q.1.list.length=S.list.length:=hv.2.2.2.1
    exact ⟨ih.1,ih.2.1.trans hr,fun n hn=>by have :=ih.2.2 n hn;show n<_;have e:({ q.1 with head:=q.1.head+1 }:Sv).list.length=S.list.length:=hl3;omega⟩
  ·rw [followF_stop h]
   exact ⟨ok,rfl,fun n h=>by cases h⟩
theorem Ok.follow {S:Sv} (ok:S.Ok 0):S.follow.1.Ok 0∧S.follow.1.rest=S.rest∧∀n,S.follow.2=some n→n<S.list.length:=Ok.followF _ S ok
theorem backL_more (level:Int):∀(r:List Int) (S:Sv),(backL level r S).core=S.core∧(backL level r S).used=S.used∧(backL level r S).many=S.many∧(backL level r S).limit=S.limit∧(backL level r S).bad=S.bad∧(backL level r S).T=S.T∧(backL level r S).bump=S.bump
 |[],S=>⟨rfl,rfl,rfl,rfl,rfl,rfl,rfl⟩
 |l::r,S=>by
  rw [backL]
  split
  ·exact ⟨rfl,rfl,rfl,rfl,rfl,rfl,rfl⟩
  ·exact backL_more level r _
theorem back_more (S:Sv) (level:Nat):(S.back level).core=S.core∧(S.back level).used=S.used∧(S.back level).many=S.many∧(S.back level).limit=S.limit∧(S.back level).bad=S.bad∧(S.back level).T.levels.length≤S.T.levels.length∧(S.back level).bump=S.bump:=by
 unfold back
 split
 ·exact ⟨rfl,rfl,rfl,rfl,rfl,Nat.le_refl _,rfl⟩
 ·have h:=backL_more level S.T.lits.reverse S
  refine ⟨h.1,h.2.1,h.2.2.1,h.2.2.2.1,h.2.2.2.2.1,?_,h.2.2.2.2.2.2⟩
  try simp only
  rw [h.2.2.2.2.2.1]
  simp only [Tr.backF]
  try split
  all_goals first |exact Nat.le_refl _ | (simp only [Tr.cutF,List.length_take];omega)
end Sv
theorem second_stop {T:Tr} {f k:Nat} {l:List Int} {lev:Int} (h:¬k<l.length):Sv.second T f k l lev=(l,lev):=by
 cases f with
 |zero=>rfl
 |succ f=>rw [Sv.second,if_neg h]
theorem second_up {T:Tr} {f k:Nat} {l:List Int} {lev:Int} (h:k<l.length) (hv:lev<T.levB (tv l[k]!)):Sv.second T (f+1) k l lev=Sv.second T f (k+1) (swp2 l 1 k) (T.levB (tv l[k]!)):=by
 rw [Sv.second,if_pos h,if_pos hv]
theorem second_on {T:Tr} {f k:Nat} {l:List Int} {lev:Int} (h:k<l.length) (hv:¬lev<T.levB (tv l[k]!)):Sv.second T (f+1) k l lev=Sv.second T f (k+1) l lev:=by
 rw [Sv.second,if_pos h,if_neg hv]
theorem second_calls (w:World) (L:SvL) (S:Sv) (h:SvAt w L S) (m:Nat) (ok:S.Ok m) (A:Option Addr) (c:Nat) (l:List Int) (hi:Ints w A c l) (hA:∀k,k∈blks A→(L.lab k).1≠L.id) (hlr:∀x∈l,-(S.vars:Int)≤x∧x≤S.vars) (hlen:l.length≤17592186044416):
  Calls Tryz.prog 201 #[.pointer (some ⟨L.a,0,none⟩), .slice A l.length c] w fun e w'=>e= .returned (.int .i64 (Sv.second S.T l.length 1 l 0).2)∧Ints w' A c (Sv.second S.T l.length 1 l 0).1∧Fr (blks A) w w':=by
 obtain ⟨RES,hRES⟩:∃RES,Sv.second S.T l.length 1 l 0=RES:=⟨_,rfl⟩
 rw [hRES]
 have FIN:Hid (∀(l1:List Int) (r:Int),(l1,r)=RES→∀W,Ints W A c l1→Fr (blks A) w W→(Ending.returned (.int .i64 r)= .returned (.int .i64 RES.2)∧Ints W A c RES.1∧Fr (blks A) w W)):=fun l1 r e W g1 g2=>by
  subst e
  exact ⟨rfl,g1,g2⟩
 have HRES:=Lib.hid hRES
 have hvl:=ok.vl
 obtain ⟨c0,-⟩:=h.cells
 have HC0:=Lib.hid c0
 have HI:=Lib.hid hi
 have HLR:=Lib.hid hlr
 have HNO:Hid (L.a∉blks A):=fun hm=>hA _ hm (by rw [h.t0])
 have HTR:Hid (∀W,Fr (blks A) w W→TrAt W L.tL S.T):=fun W hW=>h.tr.fr hW (fun k hk hm=>hA _ hm (by rw [h.t1 k hk]))
 clear hRES h ok hi hA hlr c0
 go_enter Tryz.func201,Tryz.ntmps201
 go_wp2_with fail
 go_loopg [5,6] l.length (fun g x5 x6 wr=>∃(k:Nat) (l1:List Int) (lev:Int),k+g=l.length+1∧1≤k∧x5= .int .i64 lev∧x6= .int .i64 k∧Hid (Sv.second S.T g k l1 lev=RES)∧Hid (l1.length=l.length)∧Hid (∀x∈l1,-(S.vars:Int)≤x∧x≤S.vars)∧Hid (Ints wr A c l1)∧Hid (Fr (blks A) w wr))
 case atStart=>exact ⟨1,l,0,by omega,by omega,rfl,rfl,HRES.out,rfl,HLR.out,HI.out,Fr.refl _ _⟩
 case round=>
  obtain ⟨k,l1,lev,hk,hk1,rfl,rfl,HR,HL,HB,HIW,HF⟩:=hrel
  have HK:=Lib.hid hk
  have hkl:k≤l.length+1:=by omega
  clear hk
  by_cases hlt:k<l.length
  ·obtain ⟨f,rfl⟩:∃f,gk=f+1:=⟨gk-1,by have :=HK.out;omega⟩
   have hlt1:k<l1.length:=by rw [HL.out];exact hlt
   have HLT1:=Lib.hid hlt1
   obtain ⟨gb,hA',hgl⟩:=HIW.out.pos hlt1
   subst hA'
   have c0:=HF.out.cellN HNO.out HC0.out
   have cy:=HIW.out.cell hlt1
   obtain ⟨y,hy⟩:∃y,l1[k]! =y:=⟨_,rfl⟩
   have hyb:=HB.out y (by rw [←hy];exact get_mem hlt1)
   rw [hy] at cy
   have HY:=Lib.hid hy
   obtain ⟨hy1,hy2⟩:=hyb
   obtain ⟨hmx,hwr⟩:=max_e hy1 hy2 hvl
   have e0:=Ext.cell c0
   have ey:=Ext.cell cy
   obtain ⟨lv,hlv⟩:∃lv,S.T.levB (tv y)=lv:=⟨_,rfl⟩
   have HLV:=Lib.hid hlv
   have KV:=Lib.hid (fun u:Ext wr=>trail_level u.v L.tL S.T ((HTR.out wr HF.out).fr u.fr (by simp)) (tv y))
   simp only [hlv] at KV
   clear hy hlv hlt1 hgl
   by_cases hgt:lev<lv
   ·have hd:decide (lev<lv)=true:=decide_eq_true hgt
    have HR2:Hid (Sv.second S.T f (k+1) (swp2 l1 1 k) lv=RES):=by
     have :=HR.out
     rw [second_up HLT1.out (by rw [HY.out,HLV.out];exact hgt),HY.out,HLV.out] at this
     exact this
    clear hgt
    go_wp2_with fail
    refine wp_region_ext (by kernel_rfl) (by kernel_rfl) ?_
    repeat (go_big_quiet_step (exact call_same (KV.out _)))
    refine wpQuiet_nil ?_
    rintro w2 ⟨u2,hu2⟩
    have HF_w2:Hid (Fr [] wr w2):=hu2▸u2.fr
    clear hu2 u2
    clear e0 ey c0 cy hmx hwr
    have HFW:=Lib.hid (HF.out.then_ (HF_w2.out.mono (fun k hk=>by cases hk)))
    have HI2:=Lib.hid (HIW.out.keep' HF_w2.out)
    have cy:=HI2.out.cell HLT1.out
    have c1:=HI2.out.cell (i:=1) (by have :=HLT1.out;omega)
    rw [HY.out] at cy
    obtain ⟨z,hz⟩:∃z,l1[1]! =z:=⟨_,rfl⟩
    rw [hz] at c1
    have HZ:=Lib.hid hz
    have f1:=HI2.out.frozen 1
    have fk:=HI2.out.frozen k
    have hl1:1<l.length:=by omega
    have hS1:=(HI2.out.set_ 1 y).drew
    have cA:=hS1.cell (i:=k) (by rw [List.length_set];exact HLT1.out)
    have eA:(l1.set 1 y)[k]! =y:=by
     rw [getB_set]
     split
     ·rfl
     ·exact HY.out
    rw [eA] at cA
    have fA:=hS1.frozen k
    clear hz hS1 eA
    go_upto_region 8 with fail
    go_region
    have HSW:=Lib.hid (((HI2.out.set_ 1 l1[k]!).set_ k l1[1]!).drew)
    rw [HY.out,HZ.out] at HSW
    have HSW2:Hid (Ints ((w2.setCell ⟨gb,1,none⟩ (.int .i64 y)).setCell ⟨gb,k,none⟩ (.int .i64 z)).drew (some ⟨gb,0,none⟩) c (swp2 l1 1 k)):=by
     have :=HSW.out
     unfold swp2
     rw [HY.out,HZ.out]
     exact this
    have HF2:Hid (Fr (blks (some ⟨gb,0,none⟩)) w ((w2.setCell ⟨gb,1,none⟩ (.int .i64 y)).setCell ⟨gb,k,none⟩ (.int .i64 z)).drew):=((HFW.out.setCell (.inl (by simp [blks])) _).setCell (.inl (by simp [blks])) _).drew
    clear cy c1 f1 fk cA fA
    go_wp2_with fail
    go_roundg f
    case measure=>omega
    case rel=>exact ⟨k+1,swp2 l1 1 k,lv,by have :=HK.out;omega,by omega,rfl,by go_num,HR2.out,by rw [swp2_len];exact HL.out,fun x hx=>HB.out x (swp2_mem (by have :=HLT1.out;omega) HLT1.out hx),HSW2.out,HF2.out⟩
   ·have hd:decide (lev<lv)=false:=decide_eq_false hgt
    have HR2:Hid (Sv.second S.T f (k+1) l1 lev=RES):=by
     have :=HR.out
     rw [second_on HLT1.out (by rw [HY.out,HLV.out];exact hgt)] at this
     exact this
    clear hgt
    go_wp2_with fail
    refine wp_region_ext (by kernel_rfl) (by kernel_rfl) ?_
    repeat (go_big_quiet_step (exact call_same (KV.out _)))
    refine wpQuiet_nil ?_
    rintro w2 ⟨u2,hu2⟩
    have HF_w2:Hid (Fr [] wr w2):=hu2▸u2.fr
    clear hu2 u2
    clear e0 ey c0 cy hmx hwr
    have HFW:=Lib.hid (HF.out.then_ (HF_w2.out.mono (fun k hk=>by cases hk)))
    have HI2:=Lib.hid (HIW.out.keep' HF_w2.out)
    go_wp2_with fail
    go_roundg f
    case measure=>omega
    case rel=>exact ⟨k+1,l1,lev,by have :=HK.out;omega,by omega,rfl,by go_num,HR2.out,HL.out,HB.out,HI2.out,HFW.out⟩
  ·have HE:Hid ((l1,lev)=RES):=by
    have :=HR.out
    rw [second_stop (by rw [HL.out];exact hlt)] at this
    exact this
   have FF:=Lib.hid (FIN.out _ _ HE.out wr HIW.out HF.out)
   clear HR HB
   go_wp2_with fail
   go_ret
   exact FF.out
theorem SvAt.heap_same {w w':World} {L:SvL} {S:Sv} (h:SvAt w L S) {H':Hp} (ht:HpAt w' L.hL H') (hf:Fr L.hL.fp w w'):SvAt w' L { S with H:=H' }:=by
 have hF:∀k,k∈L.hL.fp→k<w.heap.size→L.lab k=(L.id,2,0):=fun k hk _=>h.t2 k hk
 have o:=h.off (P:=(· =(2,0))) hf (fun k hk hl=>⟨_,rfl,hF k hk hl⟩)
 exact ⟨o.obj (by decide),o.tr (by decide),ht,h.hmade,h.ecs,h.ews,o.rcs (by decide),o.rws (by decide),o.rph (by decide),o.rmo (by decide),o.rco (by decide),fun n hn=>o.ech n hn (by simp),fun n hn=>o.ewh n hn (by simp),
  h.t0,h.t1,h.t2,h.t3,h.t4,h.t5,h.t6,h.t7,h.t8,h.t9⟩
structure GrL where
 gb:Nat
 bm:Nat
 A:Option Addr
 c:Nat
def GrL.own (X:GrL):List Nat:=X.gb::X.bm::blks X.A
structure GrAt (w:World) (L:SvL) (X:GrL) (n:Nat) (G:Sv.Gr):Prop where
 sv:SvAt w L G.S
 obj:At w X.gb 223 #[.pointer (some ⟨L.a,0,none⟩), .map (some X.bm), .int .i64 G.opn, .slice X.A G.learn.length X.c]
 sn:Mel w X.bm n G.seen
 ln:Ints w X.A X.c G.learn
 f1:(L.lab X.gb).1≠L.id
 f2:(L.lab X.bm).1≠L.id
 f3:∀k,k∈blks X.A→(L.lab k).1≠L.id
 fs:∀k,w.heap.size≤k→(L.lab k).1≠L.id
 d12:X.gb≠X.bm
 d3:∀k,k∈blks X.A→k≠X.gb∧k≠X.bm
theorem GrAt.far {w:World} {L:SvL} {X:GrL} {n:Nat} {G:Sv.Gr} (h:GrAt w L X n G):∀k,k∈X.own→(L.lab k).1≠L.id:=by
 intro k hk
 simp only [GrL.own,List.mem_cons] at hk
 rcases hk with rfl |rfl |hk
 ·exact h.f1
 ·exact h.f2
 ·exact h.f3 k hk
theorem GrAt.keep {w w':World} {L:SvL} {X:GrL} {n:Nat} {G:Sv.Gr} (h:GrAt w L X n G) (hf:Fr [] w w'):GrAt w' L X n G:=
 ⟨h.sv.keep hf,h.obj.keep hf,h.sn.keep hf,h.ln.keep' hf,h.f1,h.f2,h.f3,fun k hk=>h.fs k (Nat.le_trans hf.size hk),h.d12,h.d3⟩
theorem GrAt.seen' {w w':World} {L:SvL} {X:GrL} {n n':Nat} {G:Sv.Gr} {s:List Int} (h:GrAt w L X n G) (hm:Mel w' X.bm n' s) (hf:Fr [X.bm] w w'):GrAt w' L X n' { G with seen:=s }:=
 ⟨h.sv.fr hf (fun k hk _=>by simp at hk;subst hk;exact h.f2),hf.at_ h.obj (by simpa using h.d12),hm,h.ln.fr hf (fun k hk hm=>by simp at hm;exact (h.d3 k hk).2 hm),h.f1,h.f2,h.f3,fun k hk=>h.fs k (Nat.le_trans hf.size hk),h.d12,h.d3⟩
theorem GrAt.heap' {w w':World} {L:SvL} {X:GrL} {n:Nat} {G:Sv.Gr} {H':Hp} (h:GrAt w L X n G) (hp:HpAt w' L.hL H') (hf:Fr L.hL.fp w w'):GrAt w' L X n { G with S:={ G.S with H:=H' } }:=
 have hn:∀k,k∈X.own→k∉L.hL.fp:=fun k hk hm=>h.far k hk (by rw [h.sv.t2 k hm])
 ⟨h.sv.heap_same hp hf,hf.at_ h.obj (hn _ (by simp [GrL.own])),h.sn.fr hf (hn _ (by simp [GrL.own])),h.ln.fr hf (fun k hk=>hn _ (by simp [GrL.own,hk])),h.f1,h.f2,h.f3,fun k hk=>h.fs k (Nat.le_trans hf.size hk),h.d12,h.d3⟩
theorem GrAt.opn' {w:World} {L:SvL} {X:GrL} {n:Nat} {G:Sv.Gr} (h:GrAt w L X n G) (v:Int):GrAt (w.setCell ⟨X.gb,2,none⟩ (.int .i64 v)) L X n { G with opn:=v }:=by
 have hf:Fr [X.gb] w (w.setCell ⟨X.gb,2,none⟩ (.int .i64 v)):=(Fr.refl _ w).setCell (.inl (by simp)) _
 refine ⟨h.sv.fr hf (fun k hk _=>by simp at hk;subst hk;exact h.f1),?_,h.sn.fr hf (by simpa using h.d12.symm),h.ln.fr hf (fun k hk hm=>by simp at hm;exact (h.d3 k hk).1 hm),h.f1,h.f2,h.f3,fun k hk=>h.fs k (Nat.le_trans hf.size hk),h.d12,h.d3⟩
 have :=h.obj.set_ 2 (.int .i64 v)
 simpa using this
theorem GrAt.learn' {w w1:World} {L:SvL} {X:GrL} {n:Nat} {G:Sv.Gr} (h:GrAt w L X n G) {A':Option Addr} {c':Nat} {ls:List Int} (hi:Ints w1 A' c' ls) (hf:Fr (blks X.A) w w1) (hA:∀k,k∈blks A'→k∈blks X.A∨w.heap.size≤k):
  GrAt (w1.setCell ⟨X.gb,3,none⟩ (.slice A' ls.length c')) L ⟨X.gb,X.bm,A',c'⟩ n { G with learn:=ls }:=by
 have hf2:Fr (X.gb::blks X.A) w (w1.setCell ⟨X.gb,3,none⟩ (.slice A' ls.length c')):=(hf.mono (fun k hk=> .inl (by simp [hk]))).setCell (.inl (by simp)) _
 have hF:∀k,k∈X.gb::blks X.A→(L.lab k).1≠L.id:=fun k hk=>h.far k (by simp only [GrL.own,List.mem_cons] at hk⊢;rcases hk with hk |hk<;>simp [hk])
 have h3:∀k,k∈blks A'→k≠X.gb∧k≠X.bm:=fun k hk=>by
  rcases hA k hk with h1 |h1
  ·exact h.d3 k h1
  ·have :=h.obj.lt
   have :=h.sn.lt
   omega
 refine ⟨h.sv.fr hf2 (fun k hk _=>hF k hk),?_,h.sn.fr hf2 (by
  simp only [List.mem_cons,not_or]
  exact ⟨h.d12.symm,fun hk=>(h.d3 _ hk).2 rfl⟩),?_,h.f1,h.f2,fun k hk=> ?_,fun k hk=>h.fs k (Nat.le_trans hf2.size hk),h.d12,h3⟩
 ·have :=(hf.at_ h.obj (fun hk=>(h.d3 _ hk).1 rfl)).set_ 3 (.slice A' ls.length c')
  simpa using this
 ·exact hi.far (p:=⟨X.gb,3,none⟩) (fun hk=>(h3 _ hk).1 rfl) _
 ·rcases hA k hk with h1 |h1
  ·exact h.f3 k h1
  ·exact h.fs k h1
namespace Sv
def raise (S:Sv) (v:Int):Sv:={ S with H:=raiseC S.H v S.bump }
theorem Ok.raise {S:Sv} {m:Nat} (ok:S.Ok m) (v:Int):(S.raise v).Ok m:=by
 have hh:HI (raiseC S.H v S.bump)∧(raiseC S.H v S.bump).at_.length=S.H.at_.length:=by
  unfold raiseC
  split
  ·rename_i hb
   obtain ⟨h1,h2,h3,h4⟩:=hb
   have :=ok.hi.raise h1 h2 h3 h4
   exact ⟨this.1,this.2.2.2.1⟩
  ·exact ⟨ok.hi,rfl⟩
 exact ⟨ok.vl,ok.tr,hh.1,hh.2.trans ok.hl,ok.ph,ok.wl,ok.ll,ok.wb,ok.wt,ok.lr,ok.ln,ok.lb,ok.hd,ok.rs⟩
theorem meet_no {G:Sv.Gr} {l:Int} (h:tv l∈G.seen∨G.S.T.levB (tv l)≤0):meet G l=G:=by
 unfold meet
 simp only
 rw [if_pos h]
theorem meet_open {G:Sv.Gr} {l:Int} (h:¬(tv l∈G.seen∨G.S.T.levB (tv l)≤0)) (h2:G.S.T.levB (tv l)=G.S.T.levels.length):meet G l={ G with S:=G.S.raise (tv l),seen:=tv l::G.seen,opn:=G.opn+1 }:=by
 unfold meet raise
 simp only
 rw [if_neg h,if_pos h2]
theorem meet_low {G:Sv.Gr} {l:Int} (h:¬(tv l∈G.seen∨G.S.T.levB (tv l)≤0)) (h2:¬G.S.T.levB (tv l)=G.S.T.levels.length):meet G l={ G with S:=G.S.raise (tv l),seen:=tv l::G.seen,learn:=G.learn++[l] }:=by
 unfold meet raise
 simp only
 rw [if_neg h,if_neg h2]
theorem Ok.meet {G:Sv.Gr} {m:Nat} (ok:G.S.Ok m) (l:Int):(meet G l).S.Ok m:=by
 by_cases h:tv l∈G.seen∨G.S.T.levB (tv l)≤0
 ·rw [meet_no h];exact ok
 ·by_cases h2:G.S.T.levB (tv l)=G.S.T.levels.length
  ·rw [meet_open h h2];exact ok.raise _
  ·rw [meet_low h h2];exact ok.raise _
theorem meet_same (G:Sv.Gr) (l:Int):(meet G l).S.T=G.S.T∧(meet G l).S.vars=G.S.vars∧(meet G l).S.list=G.S.list∧(meet G l).S.used=G.S.used∧(meet G l).opn≤G.opn+1∧G.opn≤(meet G l).opn∧(meet G l).learn.length≤G.learn.length+1:=by
 by_cases h:tv l∈G.seen∨G.S.T.levB (tv l)≤0
 ·rw [meet_no h];exact ⟨rfl,rfl,rfl,rfl,by omega,by omega,by omega⟩
 ·by_cases h2:G.S.T.levB (tv l)=G.S.T.levels.length
  ·rw [meet_open h h2];exact ⟨rfl,rfl,rfl,rfl,by simp,by simp;omega,by simp⟩
  ·rw [meet_low h h2];exact ⟨rfl,rfl,rfl,rfl,by simp;omega,by simp,by simp⟩
end Sv
def MtP (G':Sv.Gr) (L:SvL) (X:GrL) (n:Nat) (w:World) (e:Ending) (w':World):Prop:=
 e= .returned (.tuple #[])∧∃(X':GrL) (n':Nat),GrAt w' L X' n' G'∧n'≤n+1∧X'.gb=X.gb∧X'.bm=X.bm∧(∀k,k∈blks X'.A→k∈blks X.A∨w.heap.size≤k)∧Fr (X.own++L.hL.fp) w w'
theorem meet_calls (w:World) (L:SvL) (X:GrL) (n:Nat) (G:Sv.Gr) (h:GrAt w L X n G) (m:Nat) (ok:G.S.Ok m) (l:Int) (h0: -(G.S.vars:Int)≤l) (h1:l≤G.S.vars) (hn:n<maxLen) (hle:G.learn.length<17592186044416) (ho: -4611686018427387904≤G.opn) (ho2:G.opn<4611686018427387904):
  Calls Tryz.prog 199 #[.pointer (some ⟨X.gb,0,none⟩), .int .i64 l] w (MtP (Sv.meet G l) L X n w):=by
 have hvl:=ok.vl
 obtain ⟨RES,hRES⟩:∃RES,Sv.meet G l=RES:=⟨_,rfl⟩
 rw [hRES]
 have HRES:=Lib.hid hRES
 obtain ⟨v,hv⟩:∃v,tv l=v:=⟨_,rfl⟩
 obtain ⟨hmx,hwr⟩:=max_e h0 h1 hvl
 have hvr:=tv_le h0 h1 hvl
 rw [hv] at hmx hvr
 have HV:=Lib.hid hv
 have HG:=Lib.hid h
 have HOK:=Lib.hid ok
 have g0:=h.obj.cell 0
 have g1:=h.obj.cell 1
 simp only [List.getElem?_toArray,List.getElem?_cons_succ,List.getElem?_cons_zero] at g0 g1
 obtain ⟨c0,c1,-,-,-,-,-,-,-,-,c10,-⟩:=h.sv.cells
 have HC0:=Lib.hid c0
 have HC1:=Lib.hid c1
 have HC10:=Lib.hid c10
 have HG0:=Lib.hid g0
 have HG1:=Lib.hid g1
 clear hRES hv
 by_cases hs:v∈G.seen
 ·have hlk:=h.sn.look (v:=v) ⟨by omega,by omega⟩
  have hdq:decide (v∈G.seen)=true:=decide_eq_true hs
  rw [hdq] at hlk
  have HR:Hid (RES=G):=by rw [←HRES.out];exact Sv.meet_no (.inl (by rw [HV.out];exact hs))
  have hr:=HR.out.symm
  subst hr
  have FF:Hid (MtP G L X n w (.returned (.tuple #[])) w):=⟨rfl,X,n,HG.out,by omega,rfl,rfl,fun k hk=> .inl hk,Fr.refl _ _⟩
  clear hs hdq h ok
  go_enter Tryz.func199,Tryz.ntmps199
  go_wp2_with fail
  refine bodyPost_ret (results_none rfl _ _ _) rfl ?_
  exact FF.out
 ·have hlk:=h.sn.look (v:=v) ⟨by omega,by omega⟩
  have hdq:decide (v∈G.seen)=false:=decide_eq_false hs
  rw [hdq] at hlk
  have KV:=Lib.hid (trail_level w L.tL G.S.T h.sv.tr v)
  obtain ⟨lv,hlv⟩:∃lv,G.S.T.levB v=lv:=⟨_,rfl⟩
  rw [hlv] at KV
  have HLV:=Lib.hid hlv
  have HS:=Lib.hid hs
  clear hdq hlv hs
  by_cases hz:lv≤0
  ·have hd:decide (lv≤0)=true:=decide_eq_true hz
   have HR:Hid (RES=G):=by rw [←HRES.out];exact Sv.meet_no (.inr (by rw [HV.out,HLV.out];exact hz))
   have hr:=HR.out.symm
   subst hr
   have FF:Hid (MtP G L X n w (.returned (.tuple #[])) w):=⟨rfl,X,n,HG.out,by omega,rfl,rfl,fun k hk=> .inl hk,Fr.refl _ _⟩
   clear hz h ok
   go_enter Tryz.func199,Tryz.ntmps199
   go_wp2_with fail
   refine KV.out.mono ?_
   clear KV
   rintro e w1 ⟨rfl,rfl⟩
   go_wp2_with fail
   refine bodyPost_ret (results_none rfl _ _ _) rfl ?_
   exact FF.out
  ·have hd:decide (lv≤0)=false:=decide_eq_false hz
   have HNO:Hid (¬(tv l∈G.seen∨G.S.T.levB (tv l)≤0)):=by
    rw [HV.out]
    show ¬_
    rintro (h5 |h5)
    ·exact HS.out h5
    ·rw [HLV.out] at h5;exact hz h5
   obtain ⟨w1,hrun1,hm1,hf1⟩:=h.sn.store (v:=v) hn ⟨by omega,by omega⟩
   have HA1:=Lib.hid (h.seen' hm1 hf1)
   have HF1:=Lib.hid hf1
   have HGB:Hid (X.gb∉[X.bm]):=by show ¬_;simpa using h.d12
   have HLA:Hid (L.a∉[X.bm]):=by
    show ¬_
    simp only [List.mem_singleton]
    intro e
    exact h.f2 (by rw [←e,h.sv.t0])
   have HD0:=Lib.hid (hf1.cellN HGB.out HG0.out)
   have HD1:=Lib.hid (hf1.cellN HLA.out HC1.out)
   have HD2:=Lib.hid (hf1.cellN HLA.out HC0.out)
   have HD10:=Lib.hid (hf1.cellN HLA.out HC10.out)
   have KR:=Lib.hid (fun W (hW:Fr [] w1 W)=>heap_raiseC W L.hL G.S.H (HA1.out.sv.hp.fr hW (by simp)) HOK.out.hi v (G.S.bump:Int))
   clear hz h ok hm1 hf1
   go_enter Tryz.func199,Tryz.ntmps199
   go_wp2_with fail
   refine KV.out.mono ?_
   clear KV
   rintro e w2 ⟨rfl,rfl⟩
   clear hlk
   go_upto_region 3 with fail
   clear hrun1 g0 g1 c0 c1 c10 hmx hwr
   refine wp_region_noPanic ?_
   refine wp_region_C (fun w':World=>Fr [] w1 w') 15 (by kernel_rfl) ((Fr.refl [] w1).drew) (fun hT0=> ?_)
   apply TB 15 [(0,[]),(1,[]),(2,[]),(3,[3,4,5,6,15]),(4,[]),(5,[]),(6,[6,15]),(7,[]),(8,[]),(9,[]),(10,[]),(11,[11,12,13,14,15]),(12,[]),(13,[]),(14,[14,15])];kernel_rfl;rfl;· (repeat (apply TBc;rfl;rfl;(· intro w hSw;(try (have hSw:=hSw.resolve_left (List.cons_ne_nil _ _);(have s0:=hSw.cellS HD0.out;have s1:=hSw.cellS HD1.out;have s2:=hSw.cellS HD10.out)));go_simp<;>with_reducible rfl);try simp only [Act.put,q5,q6,q7]));exact TBn
   exact hT0;intro hT0
   refine R2 15 (by kernel_rfl) (by rfl) hT0 fun K hK hSx=> ?_
   (go_simp;refine (KR.out _ hSx).mono ?_;rintro e w5 ⟨rfl,hp5,hf5⟩;dsimp only)
   refine hK.out _ _ (.inl rfl) (fun hT16=> ?_)
   clear hK K
   try simp only [Act.put,q5,q6,q7]
   refine wpAnyC_done (by kernel_rfl) ?_ _
   refine NoPanic.normal ?_
   have HB3:=Lib.hid ((HA1.out.keep hSx).heap' hp5 hf5)
   have HF3:Hid (Fr (X.own++L.hL.fp) w w5):=((HF1.out.mono (fun k hk=> .inl (by simp at hk;simp [GrL.own,hk]))).then_ (hSx.mono (fun k hk=>by cases hk))).then_ (hf5.mono (fun k hk=> .inl (by simp [hk])))
   clear hp5 hf5 KR
   have g0:=HB3.out.obj.cell 0
   simp only [List.getElem?_toArray,List.getElem?_cons_zero] at g0
   obtain ⟨c0,-⟩:=HB3.out.sv.cells
   have e0:=Ext.cell c0
   have eg:=Ext.cell g0
   have KV:=Lib.hid (fun u:Ext w5=>trail_level u.v L.tL G.S.T (HB3.out.sv.tr.fr u.fr (by simp)) v)
   have KD:=Lib.hid (fun u:Ext w5=>trail_depth u.v L.tL G.S.T (HB3.out.sv.tr.fr u.fr (by simp)))
   simp only [HLV.out] at KV
   obtain ⟨d,hde⟩:∃d,G.S.T.levels.length=d:=⟨_,rfl⟩
   simp only [hde] at KD
   have HDE:=Lib.hid hde
   clear hde
   by_cases heq:lv=(d:Int)
   ·have hdd:(lv==(d:Int))=true:=by simp [heq]
    have HR:Hid (RES={ G with S:=G.S.raise v,seen:=v::G.seen,opn:=G.opn+1 }):=by
     rw [←HRES.out,Sv.meet_open HNO.out (by rw [HV.out,HLV.out,HDE.out];exact heq),HV.out]
     rfl
    clear heq
    go_wp2_with fail
    refine wp_region_ext (by kernel_rfl) (by kernel_rfl) ?_
    repeat (go_big_quiet_step (first |exact call_same (KV.out _) |exact call_same (KD.out _)))
    refine wpQuiet_nil ?_
    rintro w6 ⟨u2,hu2⟩
    have HF_w6:Hid (Fr [] w5 w6):=hu2▸u2.fr
    clear hu2 u2
    clear e0 eg g0 c0
    have HB4:=Lib.hid (HB3.out.keep HF_w6.out)
    have HF4:=Lib.hid (HF3.out.then_ (HF_w6.out.mono (fun k hk=>by cases hk)))
    have g2:=HB4.out.obj.cell 2
    have fz:=HB4.out.obj.frozen 2
    simp only [List.getElem?_toArray,List.getElem?_cons_succ,List.getElem?_cons_zero] at g2
    have hw1:IntKind.i64.wrap (G.opn+1)=G.opn+1:=IntWalk.i64_in _ (by omega)
    have FF:Hid (MtP RES L X n w (.returned (.tuple #[])) (w6.setCell ⟨X.gb,2,none⟩ (.int .i64 (G.opn+1)))):=
     ⟨rfl,X,n+1,by rw [HR.out];exact HB4.out.opn' (G.opn+1),Nat.le_refl _,rfl,rfl,fun k hk=> .inl hk,HF4.out.setCell (.inl (by simp [GrL.own])) _⟩
    go_wp2_with fail
    refine bodyPost_ret (results_none rfl _ _ _) rfl ?_
    exact FF.out
   ·have hdd:(lv==(d:Int))=false:=by simp [heq]
    have HR:Hid (RES={ G with S:=G.S.raise v,seen:=v::G.seen,learn:=G.learn++[l] }):=by
     rw [←HRES.out,Sv.meet_low HNO.out (by rw [HV.out,HLV.out,HDE.out];exact heq),HV.out]
     rfl
    clear heq
    go_wp2_with fail
    refine wp_region_ext (by kernel_rfl) (by kernel_rfl) ?_
    repeat (go_big_quiet_step (first |exact call_same (KV.out _) |exact call_same (KD.out _)))
    refine wpQuiet_nil ?_
    rintro w6 ⟨u2,hu2⟩
    have HF_w6:Hid (Fr [] w5 w6):=hu2▸u2.fr
    clear hu2 u2
    clear e0 eg g0 c0
    have HB4:=Lib.hid (HB3.out.keep HF_w6.out)
    have HF4:=Lib.hid (HF3.out.then_ (HF_w6.out.mono (fun k hk=>by cases hk)))
    have g3:=HB4.out.obj.cell 3
    simp only [List.getElem?_toArray,List.getElem?_cons_succ,List.getElem?_cons_zero] at g3
    have HG3:=Lib.hid g3
    have HBX:Hid (Fr [] w6 (w6.alloc (.cells #[.int .i64 l] 3))):=box_fr' _ _
    have HCE:Hid ((w6.alloc (.cells #[.int .i64 l] 3)).cell? ⟨w6.heap.size,0,none⟩=some (.int .i64 l)):=(At.new w6 _ _).cell 0
    have HIW:=Lib.hid (HB4.out.ln.keep' HBX.out)
    have HST:Hid (∀w7,Fr (blks X.A) (w6.alloc (.cells #[.int .i64 l] 3)) w7→w7.cell? ⟨X.gb,3,none⟩=some (.slice X.A G.learn.length X.c)∧w7.frozen? ⟨X.gb,3,none⟩=false):=fun w7 hf7=>by
     have hnn:X.gb∉blks X.A:=fun hk=>(HB4.out.d3 _ hk).1 rfl
     have g3':=HBX.out.cellS HG3.out
     have f3':=(HB4.out.keep HBX.out).obj.frozen 3
     exact ⟨hf7.cellN hnn g3',(World.frozen?_of_block (hf7.block X.gb (lt_of_cell g3') hnn)).trans f3'⟩
    have HCK:Hid (G.learn.length<17592186044416):=hle
    go_wp2_with (at_builtin;(refine wpList_append_int _ rfl _ _ rfl X.A X.c G.learn _ rfl rfl HIW.out ⟨w6.heap.size,0,none⟩ 1 l rfl HCE.out HCK.out ?_;intro g7 cap7 w7 hi7 hf7 hg7 hs7;obtain ⟨s7,f7⟩:=HST.out w7 hf7))
    have hf67:Fr (blks X.A) w6 w7:=(HBX.out.mono (fun k hk=>by cases hk)).then_ hf7
    have hA7:∀k,k∈blks (some (⟨g7,0,none⟩:Addr))→k∈blks X.A∨w6.heap.size≤k:=fun k hk=>by
     simp [blks] at hk
     subst hk
     rcases hg7 with h5 |h5
     ·exact .inl h5
     ·right
      rw [h5]
      simp
    have hB7:=HB4.out.learn' hi7 hf67 hA7
    rw [List.length_append,List.length_singleton] at hB7
    have hz6:w.heap.size≤w6.heap.size:=HF4.out.size
    have FF:=Lib.hid (show MtP RES L X n w (.returned (.tuple #[])) (w7.setCell ⟨X.gb,3,none⟩ (.slice (some ⟨g7,0,none⟩) (G.learn.length+1) cap7)) from
     ⟨rfl,⟨X.gb,X.bm,some ⟨g7,0,none⟩,cap7⟩,n+1,by rw [HR.out];exact hB7,Nat.le_refl _,rfl,rfl,fun k hk=>(hA7 k hk).imp id (fun h5=>Nat.le_trans hz6 h5),(HF4.out.then_ (hf67.mono (fun k hk=> .inl (by simp [GrL.own,hk])))).setCell (.inl (by simp [GrL.own])) _⟩)
    clear hB7 hi7 hf7 hg7 hs7 hf67 hA7 hz6
    go_wp2_with fail
    refine bodyPost_ret (results_none rfl _ _ _) rfl ?_
    exact FF.out
theorem SvAt.act {w:World} {L:SvL} {S:Sv} (h:SvAt w L S) {n:Nat} (hn:n<L.cs.length) {gc:Nat} (hgc:L.cA=some ⟨gc,0,none⟩) (x:Int):
  w.frozen? ⟨gc,n*3+2,none⟩=false∧SvAt (w.setCell ⟨gc,n*3+2,none⟩ (.int .i64 x)) { L with cs:=L.cs.set n { L.cs[n]! with act:=x } } { S with list:=S.list.set n { S.rc n with act:=x } }∧
   Fr [gc] w (w.setCell ⟨gc,n*3+2,none⟩ (.int .i64 x))∧(L.lab gc).1=L.id:=by
 have r:=h.rcs
 unfold Recs at r
 rw [hgc] at r
 have hlab:L.lab gc=(L.id,3,0):=h.t3 gc (by rw [hgc];simp [blks])
 have hf:Fr [gc] w (w.setCell ⟨gc,n*3+2,none⟩ (.int .i64 x)):=(Fr.refl _ w).setCell (.inl (by simp)) _
 have o:=h.off (P:=(· =(3,0))) hf (fun k hk hl=>⟨_,rfl,by simp at hk;subst hk;exact hlab⟩)
 have hst:=(World.ownsRow.stored r (n*3+2) (.int .i64 x)).1
 have hrc:=h.rc_eq hn
 have hget:∀j:Nat,(L.cs.set n { L.cs[n]! with act:=x })[j]! =if n=j∧n<L.cs.length then { L.cs[n]! with act:=x } else L.cs[j]! :=fun j=>getB_set _ _ _ _
 have hA:∀j:Nat,((L.cs.set n { L.cs[n]! with act:=x })[j]!).A=(L.cs[j]!).A∧((L.cs.set n { L.cs[n]! with act:=x })[j]!).c=(L.cs[j]!).c∧((L.cs.set n { L.cs[n]! with act:=x })[j]!).lits=(L.cs[j]!).lits:=fun j=>by
  rw [hget]
  split
  ·rename_i e
   rw [e.1]
   exact ⟨rfl,rfl,rfl⟩
  ·exact ⟨rfl,rfl,rfl⟩
 refine ⟨World.ownsRow.frozenAt r _,⟨?_,o.tr (by decide),o.hp (by decide),h.hmade,?_,h.ews,?_,o.rws (by decide),o.rph (by decide),o.rmo (by decide),o.rco (by decide),fun j hj=> ?_,fun c hc=>o.ewh c hc (by simp),
  h.t0,h.t1,h.t2,h.t3,h.t4,h.t5,h.t6,h.t7,fun j hj k hk=> ?_,h.t9⟩,hf,by rw [hlab]⟩
 ·have :=o.obj (by decide)
  simp only [scs,List.length_set] at this⊢
  exact this
 ·simp only
  rw [←h.ecs,List.map_set]
  congr 1
  rw [hrc]
  rfl
 ·unfold Recs
  obtain ⟨g0,g1,g2⟩:=flatC_get L.cs n hn
  have e:(flatC L.cs).set (n*3+2) (.int .i64 x)=flatC (L.cs.set n { L.cs[n]! with act:=x }):=by
   rw [←flatC_set L.cs n _ hn]
   simp only
   rw [set_idem g0,set_idem g1]
  simp only [List.length_set]
  rw [←e,hgc]
  exact hst
 ·simp only [List.length_set] at hj
  obtain ⟨e1,e2,e3⟩:=hA j
  simp only
  rw [e1,e2,e3]
  exact o.ech j hj (by simp)
 ·simp only [List.length_set] at hj
  simp only at hk
  rw [(hA j).1] at hk
  exact h.t8 j hj k hk
theorem GrAt.act {w:World} {L:SvL} {X:GrL} {nm:Nat} {G:Sv.Gr} (h:GrAt w L X nm G) {n:Nat} (hn:n<L.cs.length) {gc:Nat} (hgc:L.cA=some ⟨gc,0,none⟩) (x:Int):
  GrAt (w.setCell ⟨gc,n*3+2,none⟩ (.int .i64 x)).drew { L with cs:=L.cs.set n { L.cs[n]! with act:=x } } X nm { G with S:={ G.S with list:=G.S.list.set n { G.S.rc n with act:=x } } }:=by
 obtain ⟨h1,h2,h3,h4⟩:=h.sv.act hn hgc x
 have hn:∀k,k∈X.own→k∉[gc]:=fun k hk hm=>h.far k hk (by simp at hm;rw [hm];exact h4)
 have h5:=h2.keep (Fr.refl [] _).drew
 have h6:=h3.drew
 exact ⟨h5,h6.at_ h.obj (hn _ (by simp [GrL.own])),h.sn.fr h6 (hn _ (by simp [GrL.own])),h.ln.fr h6 (fun k hk=>hn _ (by simp [GrL.own,hk])),h.f1,h.f2,h.f3,fun k hk=>h.fs k (Nat.le_trans h6.size hk),h.d12,h.d3⟩
theorem GrAt.new {w:World} {L:SvL} {S:Sv} (h:SvAt w L S):
  GrAt (((w.alloc (.map #[] 0)).alloc (.cells #[.int .i64 0] 3)).alloc (.cells #[.pointer (some ⟨L.a,0,none⟩), .map (some w.heap.size), .int .i64 0, .slice (some ⟨w.heap.size+1,0,none⟩) 1 1] 223)) (L.shut w)
   ⟨w.heap.size+1+1,w.heap.size,some ⟨w.heap.size+1,0,none⟩,1⟩ 0 ⟨S,[],0,[0]⟩:=by
 have hf1:Fr [] w (w.alloc (.map #[] 0)):=box_fr' _ _
 have hf2:Fr [] (w.alloc (.map #[] 0)) ((w.alloc (.map #[] 0)).alloc (.cells #[.int .i64 0] 3)):=box_fr' _ _
 have hf3:Fr [] ((w.alloc (.map #[] 0)).alloc (.cells #[.int .i64 0] 3)) (((w.alloc (.map #[] 0)).alloc (.cells #[.int .i64 0] 3)).alloc (.cells #[.pointer (some ⟨L.a,0,none⟩), .map (some w.heap.size), .int .i64 0, .slice (some ⟨w.heap.size+1,0,none⟩) 1 1] 223)):=box_fr' _ _
 have hnew:∀k,w.heap.size≤k→((L.shut w).lab k).1≠(L.shut w).id:=fun k hk=>SvL.seal_new hk
 refine ⟨h.shut.keep ((hf1.then_ hf2).then_ hf3),?_,(Mel.new w).keep (hf2.then_ hf3),?_,hnew _ (by simp only;omega),hnew _ (Nat.le_refl _),fun k hk=>hnew k (by simp [blks] at hk;omega),fun k hk=>hnew k (Nat.le_trans ((hf1.then_ hf2).then_ hf3).size hk),by simp only;omega,fun k hk=>by simp [blks] at hk;subst hk;simp⟩
 ·have :=At.new ((w.alloc (.map #[] 0)).alloc (.cells #[.int .i64 0] 3)) 223 #[.pointer (some ⟨L.a,0,none⟩), .map (some w.heap.size), .int .i64 0, .slice (some ⟨w.heap.size+1,0,none⟩) 1 1]
  rwa [show ((w.alloc (.map #[] 0)).alloc (.cells #[.int .i64 0] 3)).heap.size=w.heap.size+1+1 from by simp] at this
 ·have :Ints ((w.alloc (.map #[] 0)).alloc (.cells #[.int .i64 0] 3)) (some ⟨(w.alloc (.map #[] 0)).heap.size,0,none⟩) 1 [0]:=World.ownsRow_lit (w.alloc (.map #[] 0)) #[.int .i64 0] 1 (Nat.zero_le _) (by simp [maxLen]) (by simp)
  rw [show (w.alloc (.map #[] 0)).heap.size=w.heap.size+1 from by simp] at this
  exact this.keep' hf3
theorem GrAt.lset {w:World} {L:SvL} {X:GrL} {n:Nat} {G:Sv.Gr} (h:GrAt w L X n G) {ga:Nat} (hA:X.A=some ⟨ga,0,none⟩) (v:Int):GrAt (w.setCell ⟨ga,0,none⟩ (.int .i64 v)) L X n { G with learn:=G.learn.set 0 v }:=by
 have hga:ga∈blks X.A:=by rw [hA];simp [blks]
 have hf:Fr [ga] w (w.setCell ⟨ga,0,none⟩ (.int .i64 v)):=(Fr.refl _ w).setCell (.inl (by simp)) _
 have hd:=h.d3 ga hga
 have hl:=h.ln
 rw [hA] at hl
 refine ⟨h.sv.fr hf (fun k hk _=>by simp at hk;subst hk;exact h.f3 _ hga),?_,h.sn.fr hf (by simpa using hd.2.symm),?_,h.f1,h.f2,h.f3,fun k hk=>h.fs k (Nat.le_trans hf.size hk),h.d12,h.d3⟩
 ·have :=hf.at_ h.obj (by simpa using hd.1.symm)
  simpa using this
 ·rw [hA]
  exact hl.set_ 0 v
theorem GrAt.own_fr {w wr w':World} {L L1:SvL} {X:GrL} {n:Nat} {G:Sv.Gr} (h:GrAt wr L1 X n G) (he:L.ext L1 w) (hF:Fr (L.own w) w wr) (hX:∀k,k∈X.own→w.heap.size≤k) (hf:Fr (X.own++L1.hL.fp) wr w'):Fr (L.own w) w w':=
 hF.trans hf fun k hk=>by
  rcases Nat.lt_or_ge k w.heap.size with hl |hl
  ·left
   rw [SvL.mem_own]
   refine ⟨hl,?_⟩
   rcases List.mem_append.1 hk with h1 |h1
   ·have :=hX k h1
    omega
   ·exact he.2.2 k hl (by rw [h.sv.t2 k h1];exact he.2.1)
  ·exact .inr hl
theorem second_len (T:Tr):∀(f k:Nat) (l:List Int) (lev:Int),(Sv.second T f k l lev).1.length=l.length
 |0,k,l,lev=>rfl
 |f+1,k,l,lev=>by
  rw [Sv.second]
  split
  ·split
   ·rw [second_len T f,swp2_len]
   ·rw [second_len T f]
  ·rfl
namespace Sv
def learn1 (G:Gr) (n skip:Int):Gr:=if 0≤n then meets skip (G.S.rc n.toNat).lits { G with S:=G.S.acted n.toNat } else G
def learn2 (f:Nat) (G1:Gr) (rest:List Int):Option (Gr×Int):=
 match rest.dropWhile (fun x=>decide (tv x∉G1.seen)) with
 |[]=>none
 |x::r=>if G1.opn-1=0 then some ({ G1 with opn:=G1.opn-1 },x) else learnL f { G1 with opn:=G1.opn-1 } (G1.S.T.reaB (tv x)-1) x r
theorem learnL_eq (f:Nat) (G:Gr) (n skip:Int) (rest:List Int):learnL (f+1) G n skip rest=learn2 f (learn1 G n skip) rest:=by
 rw [learnL]
 show _=learn2 f (learn1 G n skip) rest
 unfold learn2 learn1
 simp only
 cases List.dropWhile _ rest<;>rfl
theorem learnL_zero (G:Gr) (n skip:Int) (rest:List Int):learnL 0 G n skip rest=none:=rfl
theorem learn2_nil (f:Nat) (G:Gr):learn2 f G []=none:=rfl
theorem learn2_skip {f:Nat} {G:Gr} {x:Int} {r:List Int} (h:tv x∉G.seen):learn2 f G (x::r)=learn2 f G r:=by
 unfold learn2
 rw [List.dropWhile_cons,if_pos (by simpa using h)]
theorem learn2_end {f:Nat} {G:Gr} {x:Int} {r:List Int} (h:tv x∈G.seen) (ho:G.opn-1=0):learn2 f G (x::r)=some ({ G with opn:=G.opn-1 },x):=by
 unfold learn2
 rw [List.dropWhile_cons,if_neg (by simpa using h)]
 simp only
 rw [if_pos ho]
theorem learn2_go {f:Nat} {G:Gr} {x:Int} {r:List Int} (h:tv x∈G.seen) (ho:¬G.opn-1=0):learn2 f G (x::r)=learnL f { G with opn:=G.opn-1 } (G.S.T.reaB (tv x)-1) x r:=by
 unfold learn2
 rw [List.dropWhile_cons,if_neg (by simpa using h)]
 simp only
 rw [if_neg ho]
structure Near (S:Sv) (m:Nat) (G:Gr):Prop where
 T:G.S.T=S.T
 vars:G.S.vars=S.vars
 used:G.S.used=S.used
 len:G.S.list.length=S.list.length
 ok:G.S.Ok m
 lr:∀x∈G.learn,-(S.vars:Int)≤x∧x≤S.vars
 l0:0<G.learn.length
theorem Near.meet {S:Sv} {m:Nat} {G:Gr} (h:Near S m G) {l:Int} (hl: -(S.vars:Int)≤l∧l≤S.vars):Near S m (meet G l):=by
 have hs:=meet_same G l
 refine ⟨hs.1.trans h.T,hs.2.1.trans h.vars,hs.2.2.2.1.trans h.used,by rw [hs.2.2.1];exact h.len,h.ok.meet l,?_,?_⟩
 ·by_cases h1:tv l∈G.seen∨G.S.T.levB (tv l)≤0
  ·rw [meet_no h1];exact h.lr
  ·by_cases h2:G.S.T.levB (tv l)=G.S.T.levels.length
   ·rw [meet_open h1 h2];exact h.lr
   ·rw [meet_low h1 h2]
    intro x hx
    rcases List.mem_append.1 hx with hx |hx
    ·exact h.lr x hx
    ·simp at hx;rw [hx];exact hl
 ·by_cases h1:tv l∈G.seen∨G.S.T.levB (tv l)≤0
  ·rw [meet_no h1];exact h.l0
  ·by_cases h2:G.S.T.levB (tv l)=G.S.T.levels.length
   ·rw [meet_open h1 h2];exact h.l0
   ·rw [meet_low h1 h2];simp
theorem rc_acted (S:Sv) (n j:Nat):((S.acted n).rc j).lits=(S.rc j).lits∧(S.acted n).list.length=S.list.length:=by
 have :(S.acted n).rc j=if n=j∧n<S.list.length then { S.rc n with act:=S.used } else S.rc j:=getB_set _ _ _ _
 rw [this]
 constructor
 ·split
  ·rename_i e;rw [e.1]
  ·rfl
 ·simp [acted]
theorem Ok.acted {S:Sv} {m:Nat} (ok:S.Ok m) (n:Nat):(S.acted n).Ok m:=by
 have e:=fun j=>(rc_acted S n j).1
 have el:=(rc_acted S n n).2
 exact ⟨ok.vl,ok.tr,ok.hi,ok.hl,ok.ph,ok.wl,by rw [el];exact ok.ll,fun c k hk=>by rw [el];exact ok.wb c k hk,by rw [el];exact ok.wt,fun j x hx=>by rw [e] at hx;exact ok.lr j x hx,fun j=>by rw [e];exact ok.ln j,fun j=>by rw [e];exact ok.lb j,ok.hd,fun v=>by rw [el];exact ok.rs v⟩
theorem Near.acted {S:Sv} {m:Nat} {G:Gr} (h:Near S m G) (n:Nat):Near S m { G with S:=G.S.acted n }:=
 ⟨h.T,h.vars,h.used,(rc_acted G.S n n).2.trans h.len,h.ok.acted n,h.lr,h.l0⟩
theorem Near.opn {S:Sv} {m:Nat} {G:Gr} (h:Near S m G) (v:Int):Near S m { G with opn:=v }:=⟨h.T,h.vars,h.used,h.len,h.ok,h.lr,h.l0⟩
end Sv
end Go.Proofs.YtjmmpfjcpdepjaaGreatDoor
