/- Parts of a proof. -/
import Derived.Test.YtjmmpfjcpdepjaaGreatDoorGAL
import Derived.Laws.MakeOwn
set_option linter.unusedVariables false
set_option linter.unusedSimpArgs false
set_option maxHeartbeats 8000000
namespace Go.Proofs.YtjmmpfjcpdepjaaGreatDoor
open Go.RowKit
def ukB (C:Pc) (l:List Int):Bool:= !(chkF (C.lat.length:Int) l==0)
theorem uck1 (W:World) (g:Nat) (A:Option Addr) (n c:Nat) (hc:W.cell? ⟨g,2,none⟩=some (.slice A n c)) (C:Pc) (hn:n=C.lat.length) (h:Ls) (hk:OkL W h):
  Calls Tryz.prog 26 #[h.val, .pointer (some ⟨g,0,none⟩)] W fun e w'=>e= .returned (.bool (ukB C h.l))∧Fr [] W w':=by
 subst hn
 obtain ⟨B,d,l⟩:=h
 have KL:=Lib.hid (check_callsCi W (C.lat.length:Int) B d l hk.1 hk.2.1)
 show Calls Tryz.prog 26 #[.slice B l.length d, .pointer (some ⟨g,0,none⟩)] W fun e w'=>e= .returned (.bool (ukB C l))∧Fr [] W w'
 obtain ⟨k,hkk⟩:∃k,chkF (C.lat.length:Int) l=k:=⟨_,rfl⟩
 rw [hkk] at KL
 have hu:ukB C l=(k !=0):=by unfold ukB;rw [hkk];rfl
 rw [hu]
 clear hk hkk hu
 go_enter Tryz.func26,Tryz.ntmps26
 go_wp2_with fail
 refine KL.out.mono ?_
 rintro e w2 ⟨rfl,hf⟩
 have HF:=Lib.hid hf
 clear hf
 go_wp2_with fail
 go_ret
 exact ⟨rfl,HF.out⟩
theorem enters_uck1:∀args w,(callFunc 26 args).run Tryz.prog w= .ok (.enter 26 args) w:=enters_of Tryz.func26 (by kernel_rfl) rfl
open Classical in
noncomputable def unI (q:Qn):Int:=
 if ¬Valid q.C then 9
 else if q.bad<0∨(q.C.bads.length:Int)≤q.bad∨q.dep<0∨80≤q.dep∨q.bud<0∨1099511627776<q.bud then 4
 else if 64<(q.am.length:Int)∨64<(q.ls.length:Int)∨256<(q.ks.length:Int) then 3
 else if (q.am.any fun h=>strB q.C.mx h.l)=true∨(q.ls.any fun h=>strB q.C.mx h.l)=true then 23
 else if (q.ks.any fun h=>ukB q.C h.l)=true then 23 else 0
set_option maxRecDepth 100000 in
theorem ucheck_calls (w:World) (H:Qh) (q:Qn) (h:QuAt w H q):
  Calls Tryz.prog 7 #[qval H q] w fun e w'=>e= .returned (.int .i64 (unI q))∧Fr [] w w':=by
 obtain ⟨w1,hw1⟩:∃W,w.alloc (.cells (qvs H q) 30)=W:=⟨_,rfl⟩
 obtain ⟨w2,hw2⟩:∃W,w1.alloc (.cells (cvs H.H q.C) 27)=W:=⟨_,rfl⟩
 have hf1:Fr [] w w1:=hw1▸box_fr _ _
 have hf2:Fr [] w1 w2:=hw2▸box_fr _ _
 have HF2:=Lib.hid (hf1.then_ hf2)
 have hq1:At w1 w.heap.size 30 (qvs H q):=hw1▸At.new _ _ _
 have HQ2:=Lib.hid (hq1.keep hf2)
 have HC2:Hid (At w2 w1.heap.size 27 (cvs H.H q.C)):=hw2▸At.new _ _ _
 have HH:=Lib.hid (h.keep HF2.out)
 have hsz:w1.heap.size=w.heap.size+1:=by rw [←hw1];simp
 obtain ⟨r,hr⟩:∃r,unI q=r:=⟨_,rfl⟩
 rw [hr]
 have HR:=Lib.hid hr
 have KC:=Lib.hid (check_calls w2 H.H q.C HH.out.c)
 have KST:=Lib.hid (fun W=>strange_gets W H.H q.C)
 obtain ⟨⟨mx,ins,lat,outs,bads,invs,ands,nms⟩,am,ls,ks,bad,dep,bud⟩:=q
 obtain ⟨⟨iA,iC,lA,lC,oA,oC,bA,bC,vA,vC,gA,gC,nA,nC⟩,aA,aC,mA,mC,kA,kC⟩:=H
 simp only [qval,qvs,cval,cvs] at *
 have p0:=hq1.cell 0
 have p1:=hq1.cell 1
 have p2:=hq1.cell 2
 have p3:=hq1.cell 3
 have p4:=hq1.cell 4
 have p5:=hq1.cell 5
 have p6:=hq1.cell 6
 have p7:=hq1.cell 7
 have q0:=HQ2.out.cell 0
 have q1:=HQ2.out.cell 1
 have q2:=HQ2.out.cell 2
 have q3:=HQ2.out.cell 3
 have q4:=HQ2.out.cell 4
 have q5:=HQ2.out.cell 5
 have q6:=HQ2.out.cell 6
 have q7:=HQ2.out.cell 7
 have q8:=HQ2.out.cell 8
 have q9:=HQ2.out.cell 9
 have q10:=HQ2.out.cell 10
 have q11:=HQ2.out.cell 11
 have q12:=HQ2.out.cell 12
 have q13:=HQ2.out.cell 13
 have c0:=HC2.out.cell 0
 have c1:=HC2.out.cell 1
 have c2:=HC2.out.cell 2
 have c3:=HC2.out.cell 3
 have c4:=HC2.out.cell 4
 have c5:=HC2.out.cell 5
 have c6:=HC2.out.cell 6
 have c7:=HC2.out.cell 7
 simp at p0 p1 p2 p3 p4 p5 p6 p7
 simp at q0 q1 q2 q3 q4 q5 q6 q7 q8 q9 q10 q11 q12 q13 c0 c1 c2 c3 c4 c5 c6 c7
 rw [hsz] at c0 c1 c2 c3 c4 c5 c6 c7
 have HS:=Lib.hid hsz
 clear h hr hf1 hf2 hq1
 go_enter Tryz.func7,Tryz.ntmps7
 go_upto_region 2 with fail
 go_wp2_with fail
 refine KC.out.mono ?_
 clear KC p0 p1 p2 p3 p4 p5 p6 p7 q0 q1 q2 q3 q4 q5 q6 q7 q8 q9 q10 q11 q12 q13 c0 c1 c2 c3 c4 c5 c6 c7 hw1 hw2
 rintro e w3 ⟨hc,hf3⟩
 have HF3:=Lib.hid (HF2.out.then_ hf3)
 have HQ3:=Lib.hid (HQ2.out.keep hf3)
 have HC3:=Lib.hid (HC2.out.keep hf3)
 have HH3:=Lib.hid (HH.out.keep hf3)
 have HVD:Hid ((e= .returned (.int .i64 0)∧Valid ⟨mx,ins,lat,outs,bads,invs,ands,nms⟩)∨(e= .returned (.int .i64 9)∧¬Valid ⟨mx,ins,lat,outs,bads,invs,ands,nms⟩)):=hc
 clear hc hf3 HQ2 HC2 HH
 rcases HVD.out with ⟨rfl,hv⟩ |⟨rfl,hv⟩
 ·have HV:=Lib.hid hv
  clear hv HVD
  have q8:=HQ3.out.cell 8
  have q9:=HQ3.out.cell 9
  have q10:=HQ3.out.cell 10
  have q11:=HQ3.out.cell 11
  have q12:=HQ3.out.cell 12
  have q13:=HQ3.out.cell 13
  have c4:=HC3.out.cell 4
  simp at q8 q9 q10 q11 q12 q13 c4
  rw [hsz] at c4
  by_cases h1:bad<0
  ·have d1:decide (bad<0)=true:=decide_eq_true (by omega)
   have hrv:r=4:=by rw [←HR.out];unfold unI;rw [if_neg (fun h=>h HV.out),if_pos (by simp only;omega)]
   subst hrv
   clear h1
   go_wp2_with fail
   go_ret
   exact ⟨rfl,HF3.out⟩
  ·have d1:decide (bad<0)=false:=decide_eq_false (by omega)
   by_cases h2:(bads.length:Int)≤bad
   ·have d2:decide ((bads.length:Int)≤bad)=true:=decide_eq_true (by omega)
    have hrv:r=4:=by rw [←HR.out];unfold unI;rw [if_neg (fun h=>h HV.out),if_pos (by simp only;omega)]
    subst hrv
    clear h2
    go_wp2_with fail
    go_ret
    exact ⟨rfl,HF3.out⟩
   ·have d2:decide ((bads.length:Int)≤bad)=false:=decide_eq_false (by omega)
    by_cases h3:dep<0
    ·have d3:decide (dep<0)=true:=decide_eq_true (by omega)
     have hrv:r=4:=by rw [←HR.out];unfold unI;rw [if_neg (fun h=>h HV.out),if_pos (by simp only;omega)]
     subst hrv
     clear h3
     go_wp2_with fail
     go_ret
     exact ⟨rfl,HF3.out⟩
    ·have d3:decide (dep<0)=false:=decide_eq_false (by omega)
     by_cases h4:80≤dep
     ·have d4:decide (80≤dep)=true:=decide_eq_true (by omega)
      have hrv:r=4:=by rw [←HR.out];unfold unI;rw [if_neg (fun h=>h HV.out),if_pos (by simp only;omega)]
      subst hrv
      clear h4
      go_wp2_with fail
      go_ret
      exact ⟨rfl,HF3.out⟩
     ·have d4:decide (80≤dep)=false:=decide_eq_false (by omega)
      by_cases h5:bud<0
      ·have d5:decide (bud<0)=true:=decide_eq_true (by omega)
       have hrv:r=4:=by rw [←HR.out];unfold unI;rw [if_neg (fun h=>h HV.out),if_pos (by simp only;omega)]
       subst hrv
       clear h5
       go_wp2_with fail
       go_ret
       exact ⟨rfl,HF3.out⟩
      ·have d5:decide (bud<0)=false:=decide_eq_false (by omega)
       by_cases h6:1099511627776<bud
       ·have d6:decide (1099511627776<bud)=true:=decide_eq_true (by omega)
        have hrv:r=4:=by rw [←HR.out];unfold unI;rw [if_neg (fun h=>h HV.out),if_pos (by simp only;omega)]
        subst hrv
        clear h6
        go_wp2_with fail
        go_ret
        exact ⟨rfl,HF3.out⟩
       ·have d6:decide (1099511627776<bud)=false:=decide_eq_false (by omega)
        by_cases h7:64<(am.length:Int)
        ·have d7:decide (64<(am.length:Int))=true:=decide_eq_true (by omega)
         have hrv:r=3:=by rw [←HR.out];unfold unI;rw [if_neg (fun h=>h HV.out),if_neg (by simp only;omega),if_pos (by simp only;omega)]
         subst hrv
         clear h7
         go_wp2_with fail
         go_ret
         exact ⟨rfl,HF3.out⟩
        ·have d7:decide (64<(am.length:Int))=false:=decide_eq_false (by omega)
         by_cases h8:64<(ls.length:Int)
         ·have d8:decide (64<(ls.length:Int))=true:=decide_eq_true (by omega)
          have hrv:r=3:=by rw [←HR.out];unfold unI;rw [if_neg (fun h=>h HV.out),if_neg (by simp only;omega),if_pos (by simp only;omega)]
          subst hrv
          clear h8
          go_wp2_with fail
          go_ret
          exact ⟨rfl,HF3.out⟩
         ·have d8:decide (64<(ls.length:Int))=false:=decide_eq_false (by omega)
          by_cases h9:256<(ks.length:Int)
          ·have d9:decide (256<(ks.length:Int))=true:=decide_eq_true (by omega)
           have hrv:r=3:=by rw [←HR.out];unfold unI;rw [if_neg (fun h=>h HV.out),if_neg (by simp only;omega),if_pos (by simp only;omega)]
           subst hrv
           clear h9
           go_wp2_with fail
           go_ret
           exact ⟨rfl,HF3.out⟩
          ·have d9:decide (256<(ks.length:Int))=false:=decide_eq_false (by omega)
           have HI:Hid (unI ⟨⟨mx,ins,lat,outs,bads,invs,ands,nms⟩,am,ls,ks,bad,dep,bud⟩=if (am.any fun h=>strB mx h.l)=true∨(ls.any fun h=>strB mx h.l)=true then 23 else if (ks.any fun h=>ukB ⟨mx,ins,lat,outs,bads,invs,ands,nms⟩ h.l)=true then 23 else 0):=by
            show _=_
            unfold unI
            rw [if_neg (fun h=>h HV.out),if_neg (by simp only;omega),if_neg (by simp only;omega)]
           rw [HR.out] at HI
           have hm0:=HV.out.m0
           have hm1:=HV.out.m1
           simp only at hm0 hm1
           have KA:Hid (∀(l:List Ls) (A:Option Addr) (c:Nat),RdL w3 A l→l.length≤17592186044416→∀(W:World) (g:Nat),W.cell? ⟨g,0,none⟩=some (.int .i64 mx)→Fr [] w3 W→Calls Tryz.prog 24 #[.slice A l.length c, .func (.func 52) #[] #[.pointer (some ⟨g,0,none⟩)]] W fun e w'=>e= .returned (.bool (l.any fun h=>strB mx h.l))∧Fr [] W w'):=
            fun l A c hl hn W g hg hW=>contains_lists W A c l 52 #[.pointer (some ⟨g,0,none⟩)] (strB mx) enters_strange1 (hl.keep hW) hn (fun W' hW' h _ ok=>strange1 W' g mx (hW'.cellS hg) hm0 hm1 h ok)
           have KB:Hid (∀W,Fr [] w3 W→Calls Tryz.prog 24 #[.slice kA ks.length kC, .func (.func 26) #[] #[.pointer (some ⟨w.heap.size+1,0,none⟩)]] W fun e w'=>e= .returned (.bool (ks.any fun h=>ukB ⟨mx,ins,lat,outs,bads,invs,ands,nms⟩ h.l))∧Fr [] W w'):=by
            have c2:=HC3.out.cell 2
            simp at c2
            rw [hsz] at c2
            have hkl:=HH3.out.kL
            simp only at hkl
            exact fun W hW=>contains_lists W kA kC ks 26 #[.pointer (some ⟨w.heap.size+1,0,none⟩)] (ukB ⟨mx,ins,lat,outs,bads,invs,ands,nms⟩) enters_uck1 (HH3.out.k.keep hW) (by omega) (fun W' hW' h _ ok=>uck1 W' _ _ _ _ ((hW.then_ hW').cellS c2) ⟨mx,ins,lat,outs,bads,invs,ands,nms⟩ rfl h ok)
           obtain ⟨a1,ha1⟩:∃b,(am.any fun h=>strB mx h.l)=b:=⟨_,rfl⟩
           obtain ⟨a2,ha2⟩:∃b,(ls.any fun h=>strB mx h.l)=b:=⟨_,rfl⟩
           obtain ⟨a3,ha3⟩:∃b,(ks.any fun h=>ukB ⟨mx,ins,lat,outs,bads,invs,ands,nms⟩ h.l)=b:=⟨_,rfl⟩
           have KA1:=KA.out am aA aC HH3.out.a (by have :=HH3.out.aL;simp only at this;omega)
           have KA2:=KA.out ls mA mC HH3.out.l (by have :=HH3.out.lL;simp only at this;omega)
           rw [ha1] at KA1 HI
           rw [ha2] at KA2 HI
           rw [ha3] at HI KB
           have KA1:=Lib.hid KA1
           have KA2:=Lib.hid KA2
           have c0:=HC3.out.cell 0
           have c1:=HC3.out.cell 1
           have c2:=HC3.out.cell 2
           have c3:=HC3.out.cell 3
           have c5:=HC3.out.cell 5
           have c6:=HC3.out.cell 6
           have c7:=HC3.out.cell 7
           simp at c0 c1 c2 c3 c5 c6 c7
           rw [hsz] at c0 c1 c2 c3 c5 c6 c7
           have HD0:=Lib.hid c0
           have HD1:=Lib.hid c1
           have HD2:=Lib.hid c2
           have HD3:=Lib.hid c3
           have HD4:=Lib.hid c4
           have HD5:=Lib.hid c5
           have HD6:=Lib.hid c6
           have HD7:=Lib.hid c7
           have HD8:=Lib.hid q8
           have HD9:=Lib.hid q9
           have HD10:=Lib.hid q10
           clear KA ha1 ha2 ha3 hm0 hm1 c0 c1 c2 c3 c5 c6 c7
           go_upto_region 8 with fail
           clear c4 q8 q9 q10 q11 q12 q13
           cases a1 with
           |true=>
            have hrv:r=23:=by rw [HI.out];rfl
            subst hrv
            refine wp_region_noPanic ?_
            refine wp_region_C (fun w':World=>Fr [] w3 w') 4 (by kernel_rfl) ((Fr.refl [] w3).drew) (fun hT0=> ?_)
            apply TB 3 [(0,[]),(1,[1,4]),(2,[2,3,4])];kernel_rfl;rfl;· (repeat (apply TBc;rfl;rfl;(· intro w hSw;(try (have hSw:=hSw.resolve_left (List.cons_ne_nil _ _);(have s0:=hSw.cellS HD0.out;have s1:=hSw.cellS HD1.out;have s2:=hSw.cellS HD2.out;have s3:=hSw.cellS HD3.out;have s4:=hSw.cellS HD4.out;have s5:=hSw.cellS HD5.out;have s6:=hSw.cellS HD6.out;have s7:=hSw.cellS HD7.out;have s8:=hSw.cellS HD8.out;have s9:=hSw.cellS HD9.out)));go_simp<;>with_reducible rfl);try simp only [Act.put,q5,q6,q7]));exact TBn
            exact hT0;intro hT0
            refine R2 3 (by kernel_rfl) (by rfl) hT0 fun K hK hSx=> ?_
            (go_simp;refine (KST.out _).mono ?_;rintro e w5 ⟨g5,rfl,hg5,hfr5⟩;dsimp only)
            refine hK.out _ _ (.inr ?_) (fun hT4=> ?_)
            ·first |exact hSx.then_ hf8 |exact hSx.then_ hfr7 |exact hSx.then_ hf6 |exact hSx.then_ hfr5 |exact hSx
            clear hK K
            try simp only [Act.put,q5,q6,q7]
            refine R2 4 (by kernel_rfl) (by rfl) hT4 fun K hK hSx=> ?_
            (go_simp;refine (KA1.out _ _ hg5 hSx).mono ?_;rintro e w6 ⟨rfl,hf6⟩;dsimp only)
            refine hK.out _ _ (.inl rfl) (fun hT5=> ?_)
            clear hK K
            try simp only [Act.put,q5,q6,q7]
            apply TB 1 [(5,[])];kernel_rfl;rfl;· (repeat (apply TBc;rfl;rfl;(· intro w hSw;go_simp<;>with_reducible rfl);try simp only [Act.put,q5,q6,q7]));exact TBn
            exact hT5;intro hT5
            refine wpAnyC_ready (rs:=[6,8]) (by kernel_rfl) (by simp) ?_
            refine ReadyC.cons (o:= ?otr8u7) ?hotr8u7 ?hsteptr8u7 ?_
            case hotr8u7=>rfl
            case hsteptr8u7=>
             intro K hK
             go_simp
             refine hK.out _ _ (.inl rfl) (fun hT7=> ?_)
             clear hK K
             try simp only [Act.put,q5,q6,q7]
             refine wpAnyC_ready (rs:=[7,8]) (by kernel_rfl) (by simp) ?_
             refine ReadyC.cons (o:= ?otr8u8) ?hotr8u8 ?hsteptr8u8 ?_
             case hotr8u8=>rfl
             case hsteptr8u8=>
              intro K hK
              go_simp
              refine hK.out _ _ (.inl rfl) (fun hT8=> ?_)
              clear hK K
              try simp only [Act.put,q5,q6,q7]
              refine R1 (i:=8) (o:= ?otr8u9) (by kernel_rfl) (by rfl) ?_
              intro K hK
              go_simp
              refine hK.out _ _ (.inl rfl) (fun hT9=> ?_)
              clear hK K
              try simp only [Act.put,q5,q6,q7]
              refine R1 (i:=9) (o:= ?otr8u10) (by kernel_rfl) (by rfl) ?_
              intro K hK
              go_simp
              refine hK.out _ _ (.inl rfl) (fun hT10=> ?_)
              clear hK K
              try simp only [Act.put,q5,q6,q7]
              refine R1 (i:=10) (o:= ?otr8u11) (by kernel_rfl) (by rfl) ?_
              intro K hK
              go_simp
              refine hK.out _ _ (.inl rfl) (fun hT11=> ?_)
              clear hK K
              try simp only [Act.put,q5,q6,q7]
              apply TB 1 [(11,[])];kernel_rfl;rfl;· (repeat (apply TBc;rfl;rfl;(· intro w hSw;go_simp<;>with_reducible rfl);try simp only [Act.put,q5,q6,q7]));exact TBn
              exact hT11;intro hT11
              refine R1 (i:=12) (o:= ?otr8u13) (by kernel_rfl) (by rfl) ?_
              intro K hK
              go_simp
              refine hK.out _ _ (.inl rfl) (fun hT13=> ?_)
              clear hK K
              try simp only [Act.put,q5,q6,q7]
              refine wpAnyC_done (by kernel_rfl) ?_ _
              refine NoPanic.normal ?_
              have HFW:=Lib.hid (hSx.then_ hf6)
              clear hSx hf6
              go_wp2_with fail
              go_ret
              exact ⟨rfl,HF3.out.then_ HFW.out⟩
             refine ReadyC.cons (o:= ?otr8u14) ?hotr8u14 ?hsteptr8u14 ?_
             case hotr8u14=>rfl
             case hsteptr8u14=>
              intro K hK
              go_simp
              refine hK.out _ _ (.inl rfl) (fun hT8=> ?_)
              clear hK K
              try simp only [Act.put,q5,q6,q7]
              refine wpAnyC_ready (rs:=[7,9]) (by kernel_rfl) (by simp) ?_
              refine ReadyC.cons (o:= ?otr8u15) ?hotr8u15 ?hsteptr8u15 ?_
              case hotr8u15=>rfl
              case hsteptr8u15=>
               intro K hK
               go_simp
               refine hK.out _ _ (.inl rfl) (fun hT9=> ?_)
               clear hK K
               try simp only [Act.put,q5,q6,q7]
               refine R1 (i:=9) (o:= ?otr8u16) (by kernel_rfl) (by rfl) ?_
               intro K hK
               go_simp
               refine hK.out _ _ (.inl rfl) (fun hT10=> ?_)
               clear hK K
               try simp only [Act.put,q5,q6,q7]
               refine R1 (i:=10) (o:= ?otr8u17) (by kernel_rfl) (by rfl) ?_
               intro K hK
               go_simp
               refine hK.out _ _ (.inl rfl) (fun hT11=> ?_)
               clear hK K
               try simp only [Act.put,q5,q6,q7]
               apply TB 1 [(11,[])];kernel_rfl;rfl;· (repeat (apply TBc;rfl;rfl;(· intro w hSw;go_simp<;>with_reducible rfl);try simp only [Act.put,q5,q6,q7]));exact TBn
               exact hT11;intro hT11
               refine R1 (i:=12) (o:= ?otr8u19) (by kernel_rfl) (by rfl) ?_
               intro K hK
               go_simp
               refine hK.out _ _ (.inl rfl) (fun hT13=> ?_)
               clear hK K
               try simp only [Act.put,q5,q6,q7]
               refine wpAnyC_done (by kernel_rfl) ?_ _
               refine NoPanic.normal ?_
               have HFW:=Lib.hid (hSx.then_ hf6)
               clear hSx hf6
               go_wp2_with fail
               go_ret
               exact ⟨rfl,HF3.out.then_ HFW.out⟩
              refine ReadyC.cons (o:= ?otr8u20) ?hotr8u20 ?hsteptr8u20 ?_
              case hotr8u20=>rfl
              case hsteptr8u20=>
               intro K hK
               go_simp
               refine hK.out _ _ (.inl rfl) (fun hT9=> ?_)
               clear hK K
               try simp only [Act.put,q5,q6,q7]
               refine R1 (i:=7) (o:= ?otr8u21) (by kernel_rfl) (by rfl) ?_
               intro K hK
               go_simp
               refine hK.out _ _ (.inl rfl) (fun hT10=> ?_)
               clear hK K
               try simp only [Act.put,q5,q6,q7]
               refine R1 (i:=10) (o:= ?otr8u22) (by kernel_rfl) (by rfl) ?_
               intro K hK
               go_simp
               refine hK.out _ _ (.inl rfl) (fun hT11=> ?_)
               clear hK K
               try simp only [Act.put,q5,q6,q7]
               apply TB 1 [(11,[])];kernel_rfl;rfl;· (repeat (apply TBc;rfl;rfl;(· intro w hSw;go_simp<;>with_reducible rfl);try simp only [Act.put,q5,q6,q7]));exact TBn
               exact hT11;intro hT11
               refine R1 (i:=12) (o:= ?otr8u24) (by kernel_rfl) (by rfl) ?_
               intro K hK
               go_simp
               refine hK.out _ _ (.inl rfl) (fun hT13=> ?_)
               clear hK K
               try simp only [Act.put,q5,q6,q7]
               refine wpAnyC_done (by kernel_rfl) ?_ _
               refine NoPanic.normal ?_
               have HFW:=Lib.hid (hSx.then_ hf6)
               clear hSx hf6
               go_wp2_with fail
               go_ret
               exact ⟨rfl,HF3.out.then_ HFW.out⟩
              exact ReadyC.nil
             exact ReadyC.nil
            refine ReadyC.cons (o:= ?otr8u25) ?hotr8u25 ?hsteptr8u25 ?_
            case hotr8u25=>rfl
            case hsteptr8u25=>
             intro K hK
             go_simp
             refine hK.out _ _ (.inl rfl) (fun hT7=> ?_)
             clear hK K
             try simp only [Act.put,q5,q6,q7]
             refine wpAnyC_ready (rs:=[6,9]) (by kernel_rfl) (by simp) ?_
             refine ReadyC.cons (o:= ?otr8u26) ?hotr8u26 ?hsteptr8u26 ?_
             case hotr8u26=>rfl
             case hsteptr8u26=>
              intro K hK
              go_simp
              refine hK.out _ _ (.inl rfl) (fun hT8=> ?_)
              clear hK K
              try simp only [Act.put,q5,q6,q7]
              refine wpAnyC_ready (rs:=[7,9]) (by kernel_rfl) (by simp) ?_
              refine ReadyC.cons (o:= ?otr8u27) ?hotr8u27 ?hsteptr8u27 ?_
              case hotr8u27=>rfl
              case hsteptr8u27=>
               intro K hK
               go_simp
               refine hK.out _ _ (.inl rfl) (fun hT9=> ?_)
               clear hK K
               try simp only [Act.put,q5,q6,q7]
               refine R1 (i:=9) (o:= ?otr8u28) (by kernel_rfl) (by rfl) ?_
               intro K hK
               go_simp
               refine hK.out _ _ (.inl rfl) (fun hT10=> ?_)
               clear hK K
               try simp only [Act.put,q5,q6,q7]
               refine R1 (i:=10) (o:= ?otr8u29) (by kernel_rfl) (by rfl) ?_
               intro K hK
               go_simp
               refine hK.out _ _ (.inl rfl) (fun hT11=> ?_)
               clear hK K
               try simp only [Act.put,q5,q6,q7]
               apply TB 1 [(11,[])];kernel_rfl;rfl;· (repeat (apply TBc;rfl;rfl;(· intro w hSw;go_simp<;>with_reducible rfl);try simp only [Act.put,q5,q6,q7]));exact TBn
               exact hT11;intro hT11
               refine R1 (i:=12) (o:= ?otr8u31) (by kernel_rfl) (by rfl) ?_
               intro K hK
               go_simp
               refine hK.out _ _ (.inl rfl) (fun hT13=> ?_)
               clear hK K
               try simp only [Act.put,q5,q6,q7]
               refine wpAnyC_done (by kernel_rfl) ?_ _
               refine NoPanic.normal ?_
               have HFW:=Lib.hid (hSx.then_ hf6)
               clear hSx hf6
               go_wp2_with fail
               go_ret
               exact ⟨rfl,HF3.out.then_ HFW.out⟩
              refine ReadyC.cons (o:= ?otr8u32) ?hotr8u32 ?hsteptr8u32 ?_
              case hotr8u32=>rfl
              case hsteptr8u32=>
               intro K hK
               go_simp
               refine hK.out _ _ (.inl rfl) (fun hT9=> ?_)
               clear hK K
               try simp only [Act.put,q5,q6,q7]
               refine R1 (i:=7) (o:= ?otr8u33) (by kernel_rfl) (by rfl) ?_
               intro K hK
               go_simp
               refine hK.out _ _ (.inl rfl) (fun hT10=> ?_)
               clear hK K
               try simp only [Act.put,q5,q6,q7]
               refine R1 (i:=10) (o:= ?otr8u34) (by kernel_rfl) (by rfl) ?_
               intro K hK
               go_simp
               refine hK.out _ _ (.inl rfl) (fun hT11=> ?_)
               clear hK K
               try simp only [Act.put,q5,q6,q7]
               apply TB 1 [(11,[])];kernel_rfl;rfl;· (repeat (apply TBc;rfl;rfl;(· intro w hSw;go_simp<;>with_reducible rfl);try simp only [Act.put,q5,q6,q7]));exact TBn
               exact hT11;intro hT11
               refine R1 (i:=12) (o:= ?otr8u36) (by kernel_rfl) (by rfl) ?_
               intro K hK
               go_simp
               refine hK.out _ _ (.inl rfl) (fun hT13=> ?_)
               clear hK K
               try simp only [Act.put,q5,q6,q7]
               refine wpAnyC_done (by kernel_rfl) ?_ _
               refine NoPanic.normal ?_
               have HFW:=Lib.hid (hSx.then_ hf6)
               clear hSx hf6
               go_wp2_with fail
               go_ret
               exact ⟨rfl,HF3.out.then_ HFW.out⟩
              exact ReadyC.nil
             refine ReadyC.cons (o:= ?otr8u37) ?hotr8u37 ?hsteptr8u37 ?_
             case hotr8u37=>rfl
             case hsteptr8u37=>
              intro K hK
              go_simp
              refine hK.out _ _ (.inl rfl) (fun hT8=> ?_)
              clear hK K
              try simp only [Act.put,q5,q6,q7]
              refine R1 (i:=6) (o:= ?otr8u38) (by kernel_rfl) (by rfl) ?_
              intro K hK
              go_simp
              refine hK.out _ _ (.inl rfl) (fun hT9=> ?_)
              clear hK K
              try simp only [Act.put,q5,q6,q7]
              refine R1 (i:=7) (o:= ?otr8u39) (by kernel_rfl) (by rfl) ?_
              intro K hK
              go_simp
              refine hK.out _ _ (.inl rfl) (fun hT10=> ?_)
              clear hK K
              try simp only [Act.put,q5,q6,q7]
              refine R1 (i:=10) (o:= ?otr8u40) (by kernel_rfl) (by rfl) ?_
              intro K hK
              go_simp
              refine hK.out _ _ (.inl rfl) (fun hT11=> ?_)
              clear hK K
              try simp only [Act.put,q5,q6,q7]
              apply TB 1 [(11,[])];kernel_rfl;rfl;· (repeat (apply TBc;rfl;rfl;(· intro w hSw;go_simp<;>with_reducible rfl);try simp only [Act.put,q5,q6,q7]));exact TBn
              exact hT11;intro hT11
              refine R1 (i:=12) (o:= ?otr8u42) (by kernel_rfl) (by rfl) ?_
              intro K hK
              go_simp
              refine hK.out _ _ (.inl rfl) (fun hT13=> ?_)
              clear hK K
              try simp only [Act.put,q5,q6,q7]
              refine wpAnyC_done (by kernel_rfl) ?_ _
              refine NoPanic.normal ?_
              have HFW:=Lib.hid (hSx.then_ hf6)
              clear hSx hf6
              go_wp2_with fail
              go_ret
              exact ⟨rfl,HF3.out.then_ HFW.out⟩
             exact ReadyC.nil
            exact ReadyC.nil
           |false=>
            refine wp_region_noPanic ?_
            refine wp_region_C (fun w':World=>Fr [] w3 w') 10 (by kernel_rfl) ((Fr.refl [] w3).drew) (fun hT0=> ?_)
            apply TB 3 [(0,[]),(1,[1,4,5,10]),(2,[2,3,4,5,10])];kernel_rfl;rfl;· (repeat (apply TBc;rfl;rfl;(· intro w hSw;(try (have hSw:=hSw.resolve_left (List.cons_ne_nil _ _);(have s0:=hSw.cellS HD0.out;have s1:=hSw.cellS HD1.out;have s2:=hSw.cellS HD2.out;have s3:=hSw.cellS HD3.out;have s4:=hSw.cellS HD4.out;have s5:=hSw.cellS HD5.out;have s6:=hSw.cellS HD6.out;have s7:=hSw.cellS HD7.out;have s8:=hSw.cellS HD8.out;have s9:=hSw.cellS HD9.out)));go_simp<;>with_reducible rfl);try simp only [Act.put,q5,q6,q7]));exact TBn
            exact hT0;intro hT0
            refine R2 3 (by kernel_rfl) (by rfl) hT0 fun K hK hSx=> ?_
            (go_simp;refine (KST.out _).mono ?_;rintro e w5 ⟨g5,rfl,hg5,hfr5⟩;dsimp only)
            refine hK.out _ _ (.inr ?_) (fun hT4=> ?_)
            ·first |exact hSx.then_ hf8 |exact hSx.then_ hfr7 |exact hSx.then_ hf6 |exact hSx.then_ hfr5 |exact hSx
            clear hK K
            try simp only [Act.put,q5,q6,q7]
            refine R2 4 (by kernel_rfl) (by rfl) hT4 fun K hK hSx=> ?_
            (go_simp;refine (KA1.out _ _ hg5 hSx).mono ?_;rintro e w6 ⟨rfl,hf6⟩;dsimp only)
            refine hK.out _ _ (.inr ?_) (fun hT5=> ?_)
            ·first |exact hSx.then_ hf8 |exact hSx.then_ hfr7 |exact hSx.then_ hf6 |exact hSx.then_ hfr5 |exact hSx
            clear hK K
            try simp only [Act.put,q5,q6,q7]
            apply TB 4 [(5,[]),(6,[]),(7,[7,10]),(8,[8,9,10])];kernel_rfl;rfl;· (repeat (apply TBc;rfl;rfl;(· intro w hSw;(try (have hSw:=hSw.resolve_left (List.cons_ne_nil _ _);(have s0:=hSw.cellS HD0.out;have s1:=hSw.cellS HD1.out;have s2:=hSw.cellS HD2.out;have s3:=hSw.cellS HD3.out;have s4:=hSw.cellS HD4.out;have s5:=hSw.cellS HD5.out;have s6:=hSw.cellS HD6.out;have s7:=hSw.cellS HD7.out;have s8:=hSw.cellS HD8.out;have s9:=hSw.cellS HD9.out)));go_simp<;>with_reducible rfl);try simp only [Act.put,q5,q6,q7]));exact TBn
            exact hT5;intro hT5
            refine R2 9 (by kernel_rfl) (by rfl) hT5 fun K hK hSx=> ?_
            (go_simp;refine (KST.out _).mono ?_;rintro e w7 ⟨g7,rfl,hg7,hfr7⟩;dsimp only)
            refine hK.out _ _ (.inr ?_) (fun hT10=> ?_)
            ·first |exact hSx.then_ hf8 |exact hSx.then_ hfr7 |exact hSx.then_ hf6 |exact hSx.then_ hfr5 |exact hSx
            clear hK K
            try simp only [Act.put,q5,q6,q7]
            refine R2 10 (by kernel_rfl) (by rfl) hT10 fun K hK hSx=> ?_
            (go_simp;refine (KA2.out _ _ hg7 hSx).mono ?_;rintro e w8 ⟨rfl,hf8⟩;dsimp only)
            refine hK.out _ _ (.inl rfl) (fun hT11=> ?_)
            clear hK K
            try simp only [Act.put,q5,q6,q7]
            apply TB 1 [(11,[])];kernel_rfl;rfl;· (repeat (apply TBc;rfl;rfl;(· intro w hSw;go_simp<;>with_reducible rfl);try simp only [Act.put,q5,q6,q7]));exact TBn
            exact hT11;intro hT11
            refine R1 (i:=12) (o:= ?ofr8u13) (by kernel_rfl) (by rfl) ?_
            intro K hK
            go_simp
            refine hK.out _ _ (.inl rfl) (fun hT13=> ?_)
            clear hK K
            try simp only [Act.put,q5,q6,q7]
            refine wpAnyC_done (by kernel_rfl) ?_ _
            refine NoPanic.normal ?_
            have HFW:=Lib.hid (hSx.then_ hf8)
            clear hSx hf8
            cases a2 with
            |true=>
             have hrv:r=23:=by rw [HI.out];simp
             subst hrv
             go_wp2_with fail
             go_ret
             exact ⟨rfl,HF3.out.then_ HFW.out⟩
            |false=>
             have q10:=HFW.out.cellS HD10.out
             have KB8:=Lib.hid (KB.out _ HFW.out)
             cases a3 with
             |true=>
              have hrv:r=23:=by rw [HI.out];simp
              subst hrv
              go_wp2_with fail
              refine KB8.out.mono ?_
              rintro e w9 ⟨rfl,hf9⟩
              have HF9:=Lib.hid (HFW.out.then_ hf9)
              clear hf9
              go_wp2_with fail
              go_ret
              exact ⟨rfl,HF3.out.then_ HF9.out⟩
             |false=>
              have hrv:r=0:=by rw [HI.out];simp
              subst hrv
              go_wp2_with fail
              refine KB8.out.mono ?_
              rintro e w9 ⟨rfl,hf9⟩
              have HF9:=Lib.hid (HFW.out.then_ hf9)
              clear hf9
              go_wp2_with fail
              go_ret
              exact ⟨rfl,HF3.out.then_ HF9.out⟩
 ·have hr9:r=9:=by rw [←HR.out];unfold unI;rw [if_pos hv]
  subst hr9
  clear hv HVD
  go_wp2_with fail
  go_ret
  exact ⟨rfl,HF3.out⟩
theorem valid_known {C:Pc} (h:Valid C) {v:Int} (hk:knownB C v=true):v≤C.mx:=by
 simp only [knownB,Bool.or_eq_true,decide_eq_true_eq,List.any_eq_true,hit,Bool.and_eq_true] at hk
 have h0:=h.m0
 rcases hk with ((rfl |⟨x,hx,_,rfl⟩) |⟨x,hx,_,rfl⟩) |⟨x,hx,_,rfl⟩
 ·exact h0
 ·have :=valid_own h x (by simp [ownL,hx]);omega
 ·have :=valid_own h x.a (by simp only [ownL,List.mem_append,List.mem_map];exact .inl (.inr ⟨x,hx,rfl⟩));omega
 ·have :=valid_own h x.a (by simp only [ownL,List.mem_append,List.mem_map];exact .inr ⟨x,hx,rfl⟩);omega
theorem valid_lit {C:Pc} (h:Valid C) {l:Int} (hk:litB C l=true):0≤l∧l≤2*C.mx+1:=by
 simp only [litB,Bool.and_eq_true,decide_eq_true_eq] at hk
 have :=valid_known h hk.2
 omega
theorem valid_next {C:Pc} (h:Valid C) (j:Nat) (hj:j<C.lat.length):0≤(C.lat[j]!).b∧(C.lat[j]!).b≤2*C.mx+1:=by
 have h2:=h.lat j hj
 simp only [latB,Bool.and_eq_true] at h2
 exact valid_lit h h2.2
theorem litT_rng {b l:Int} (hb:0≤b∧b≤262144) (hl:0≤l∧l≤4097): -1000000≤litT b l∧litT b l≤1000000:=by
 unfold litT
 split<;>omega
theorem laU_rng {C:Pc} (hv:Valid C) {f n:Int} (hf:0≤f∧f≤81) (hn:n≠0∧ -(C.lat.length:Int)≤n∧n≤C.lat.length): -1000000≤laU C f n∧laU C f n≤1000000:=by
 have hb:=baU_rng hv.m0 hv.m1 hf
 have hm:=hv.m1
 have key:∀j:Nat,j<C.lat.length→ -1000000≤litT (baU C f) (C.lat[j]!).a∧litT (baU C f) (C.lat[j]!).a≤1000000:=fun j hj=>litT_rng (by omega) (by have :=valid_lat hv j hj;omega)
 unfold laU
 split
 ·have :=key (-n-1).toNat (by omega)
  omega
 ·have :=key (n-1).toNat (by omega)
  omega
def lnk1 (C:Pc) (f:Int) (i:Nat):List (List Int):=[[laU C (f+1) ((i:Int)+1),-(litT (baU C f) (C.lat[i]!).b)],[-(laU C (f+1) ((i:Int)+1)),litT (baU C f) (C.lat[i]!).b]]
def lnkU (C:Pc) (f:Int) (k:Nat):List (List Int):=(List.range k).flatMap (lnk1 C f)
theorem lnkU_next (C:Pc) (f:Int) (k:Nat):lnkU C f (k+1)=lnkU C f k++lnk1 C f k:=by
 unfold lnkU
 rw [List.range_succ,List.flatMap_append]
 simp
theorem lnkU_len (C:Pc) (f:Int) (k:Nat):(lnkU C f k).length=2*k:=by
 induction k with
 |zero=>simp [lnkU]
 |succ k ih=>
  rw [lnkU_next,List.length_append,ih]
  simp [lnk1]
  omega
theorem ra2U {x y:Int} (h:R64 x) (h2:R64 y):Ra [x,y]:=fun j hj=>by
 have :j=0∨j=1:=by simp at hj;omega
 rcases this with rfl |rfl
 ·exact h
 ·exact h2
theorem uLink_calls (w:World) (H:Hd) (C:Pc) (h:CiAt w H C) (hv:Valid C) (f:Int) (hf:0≤f∧f≤79):
  Calls Tryz.prog 35 #[cval H C, .int .i64 f] w fun e w'=>∃A c hs,e= .returned (.slice A hs.length c)∧NwLs w' w.heap.size A c hs∧hs.map (·.l)=lnkU C f C.lat.length∧Fr [] w w':=by
 have HX:=Lib.hid (Cx.start w H C)
 have KR:=Lib.hid (uright_calls _ H C (h.keep HX.out.fr) hv f (by omega))
 have KL:=Lib.hid (fun W (hW:Fr [] w W) n hn=>ulatch_calls W H C (h.keep hW) hv (f+1) (by omega) n hn)
 have KB:=Lib.hid (fun W=>ubase_calls W H C hv.m0 hv.m1 f (by omega))
 have hb:=baU_rng hv.m0 hv.m1 (f:=f) (by omega)
 have KT:=Lib.hid (fun W x (hx:0≤x∧x≤4097)=>lit_calls W (baU C f) x (by omega) hx)
 have HLT:=Lib.hid (fun x (hx:0≤x∧x≤4097)=>litT_rng (b:=baU C f) (l:=x) (by omega) hx)
 have HLA:=Lib.hid (fun n hn=>laU_rng hv (f:=f+1) (n:=n) (by omega) hn)
 have HNX:=Lib.hid (fun j hj=>valid_next hv j hj)
 have hmx:=hv.m1
 have hl64:=hv.l
 have HH:=Lib.hid h
 have HLR:=Lib.hid h.lr
 have hwf:IntKind.i64.wrap (f+1)=f+1:=IntWalk.i64_in _ (by omega)
 clear h hb hv
 obtain ⟨mx,ins,lat,outs,bads,invs,ands,nms⟩:=C
 obtain ⟨iA,iC,lA,lC,oA,oC,bA,bC,vA,vC,gA,gC,nA,nC⟩:=H
 simp only [cval,cvs] at *
 obtain ⟨c0,c1,c2,c3,c4,c5,c6,c7⟩:=HX.out.cells
 simp only at c0 c1 c2 c3 c4 c5 c6 c7
 go_enter Tryz.func35,Tryz.ntmps35
 go_wp2_with fail
 refine KR.out.mono ?_
 rintro e w1 ⟨rfl,hf1⟩
 have HX1:=Lib.hid (HX.out.keep hf1)
 obtain ⟨e0,e1,e2,e3,e4,e5,e6,e7⟩:=HX1.out.cells
 simp only at e0 e1 e2 e3 e4 e5 e6 e7
 clear hf1 c0 c1 c2 c3 c4 c5 c6 c7 KR
 go_wp2_with fail
 go_loopg [5,17] lat.length (fun g x5 x17 wr=>∃(k:Nat) (A':Option Addr) (c':Nat) (hs:List Ls),k+g=lat.length∧x5= .slice A' hs.length c'∧x17= .int .i64 k∧Hid (NwLs wr (w.heap.size+1) A' c' hs)∧Hid (hs.map (·.l)=lnkU ⟨mx,ins,lat,outs,bads,invs,ands,nms⟩ f k)∧Hid (Cx w wr ⟨iA,iC,lA,lC,oA,oC,bA,bC,vA,vC,gA,gC,nA,nC⟩ ⟨mx,ins,lat,outs,bads,invs,ands,nms⟩))
 case atStart=>exact ⟨0,none,0,[],by omega,rfl,rfl,NwLs.nil _ _,rfl,HX1.out⟩
 case round=>
  obtain ⟨k,A',c',hs,hk,rfl,rfl,HN,HE,HXR⟩:=hrel
  have HK:=Lib.hid hk
  have hkn:k≤lat.length:=by omega
  have hsl:hs.length=2*k:=by
   have :=lnkU_len ⟨mx,ins,lat,outs,bads,invs,ands,nms⟩ f k
   rw [←HE.out,List.length_map] at this
   exact this
  obtain ⟨d0,d1,d2,d3,d4,d5,d6,d7⟩:=HXR.out.cells
  simp only at d0 d1 d2 d3 d4 d5 d6 d7
  clear hk HX1 e0 e1 e2 e3 e4 e5 e6 e7
  by_cases hlt:k<lat.length
  ·obtain ⟨b,o,x,y,z,hA,he,cx,cy,cz,hx,hy,hz⟩:=(HH.out.keep HXR.out.fr).l.one HLR.out hlt
   simp only at hA he
   subst hA
   have hyr:=HNX.out k hlt
   try simp only at hyr
   rw [he.out] at hyr
   try simp only at hyr
   have HLE:=Lib.hid (lnkU_next ⟨mx,ins,lat,outs,bads,invs,ands,nms⟩ f k)
   obtain ⟨u,hu⟩:∃u,litT (baU ⟨mx,ins,lat,outs,bads,invs,ands,nms⟩ f) y=u:=⟨_,rfl⟩
   obtain ⟨v,hvv⟩:∃v,laU ⟨mx,ins,lat,outs,bads,invs,ands,nms⟩ (f+1) ((k:Int)+1)=v:=⟨_,rfl⟩
   have hf1:lnk1 ⟨mx,ins,lat,outs,bads,invs,ands,nms⟩ f k=[[v,-u],[-v,u]]:=by
    unfold lnk1
    rw [hvv]
    simp only [he.out]
    rw [hu]
   have HF1:=Lib.hid hf1
   have hur:=HLT.out y (by omega)
   have hvr:=HLA.out ((k:Int)+1) (by show _∧ -(lat.length:Int)≤_∧_≤(lat.length:Int);omega)
   rw [hu] at hur
   rw [hvv] at hvr
   have KTY:=fun W=>KT.out W y (by omega)
   simp only [hu] at KTY
   have KTY:=Lib.hid KTY
   clear hf1
   go_upto_region 7 with fail
   obtain ⟨wx,hwx⟩:∃W,wr.alloc (.cells #[.int .i64 x, .int .i64 y, .int .i64 z] 63)=W:=⟨_,rfl⟩
   have hxa:At wx wr.heap.size 63 #[.int .i64 x, .int .i64 y, .int .i64 z]:=hwx▸At.new _ _ _
   have HFX:Hid (Fr [] wr wx):=hwx▸box_fr' _ _
   have f1:=hxa.cell 1
   simp at f1
   have HXX:=Lib.hid (HXR.out.keep HFX.out)
   obtain ⟨e0,e1,e2,e3,e4,e5,e6,e7⟩:=HXX.out.ext
   simp only at e0 e1 e2 e3 e4 e5 e6 e7
   have g1:=Ext.cell f1
   have KLN:=fun u:Ext wx=>KL.out u.v (HXX.out.fr.then_ u.fr) ((k:Int)+1) (by show _∧ -(lat.length:Int)≤_∧_≤(lat.length:Int);omega)
   simp only [hvv] at KLN
   have KLN:=Lib.hid KLN
   have hw1:IntKind.i64.wrap ((k:Int)+1)=(k:Int)+1:=IntWalk.i64_in _ (by omega)
   have hw2:IntKind.i64.wrap (-u)= -u:=IntWalk.i64_in _ (by omega)
   have hw3:IntKind.i64.wrap (-v)= -v:=IntWalk.i64_in _ (by omega)
   rw [hwx]
   clear hwx hxa d0 d1 d2 d3 d4 d5 d6 d7 cx cy cz hu hvv f1
   refine wp_region_ext (by kernel_rfl) (by kernel_rfl) ?_
   repeat (go_big_quiet_step (first |exact call_ext (KLN.out _) |exact call_ext (KB.out _) |exact call_same (KTY.out _)))
   refine wpQuiet_nil ?_
   rintro w3 ⟨u2,hu2⟩
   have HF_w3:Hid (Fr [] wx w3):=hu2▸u2.fr
   clear hu2 u2
   have HF3:=Lib.hid (HFX.out.then_ HF_w3.out)
   clear e0 e1 e2 e3 e4 e5 e6 e7 g1 KLN KTY HF_w3
   obtain ⟨wb,hwb⟩:∃W,((w3.alloc (.cells #[.int .i64 v, .int .i64 (-u)] 3)).alloc (.cells #[.int .i64 (-v), .int .i64 u] 3)).alloc (.cells #[.slice (some ⟨w3.heap.size,0,none⟩) 2 2, .slice (some ⟨w3.heap.size+1,0,none⟩) 2 2] 22)=W:=⟨_,rfl⟩
   have HL1:Hid (Ints wb (some ⟨w3.heap.size,0,none⟩) 2 [v,-u]):=hwb▸((row_new w3 [v,-u] (by simp [maxLen])).alloc _).alloc _
   have HL2:Hid (Ints wb (some ⟨w3.heap.size+1,0,none⟩) 2 [-v,u]):=by
    have :=row_new (w3.alloc (.cells #[.int .i64 v, .int .i64 (-u)] 3)) [-v,u] (by simp [maxLen])
    rw [show (w3.alloc (.cells #[.int .i64 v, .int .i64 (-u)] 3)).heap.size=w3.heap.size+1 by simp] at this
    exact hwb▸this.alloc _
   have HFB:Hid (Fr [] w3 wb):=hwb▸(((box_fr' _ _).then_ (box_fr' _ _)).then_ (box_fr' _ _))
   have hat:At wb (w3.heap.size+2) 22 #[.slice (some ⟨w3.heap.size,0,none⟩) 2 2, .slice (some ⟨w3.heap.size+1,0,none⟩) 2 2]:=by
    have :=At.new ((w3.alloc (.cells #[.int .i64 v, .int .i64 (-u)] 3)).alloc (.cells #[.int .i64 (-v), .int .i64 u] 3)) 22 #[.slice (some ⟨w3.heap.size,0,none⟩) 2 2, .slice (some ⟨w3.heap.size+1,0,none⟩) 2 2]
    rw [show ((w3.alloc (.cells #[.int .i64 v, .int .i64 (-u)] 3)).alloc (.cells #[.int .i64 (-v), .int .i64 u] 3)).heap.size=w3.heap.size+2 by simp] at this
    exact hwb▸this
   have HAT:=Lib.hid hat
   clear hat
   have HUR:=Lib.hid hur
   have HVR:=Lib.hid hvr
   have HWS:Hid (w.heap.size+1≤w3.heap.size):=(Nat.le_trans HXR.out.bx.lt HF3.out.size:w.heap.size+1≤w3.heap.size)
   go_wp2_with (at_builtin;(refine wpList_append_listsU _ rfl _ _ rfl A' c' hs hs.length rfl rfl (HN.out.keep (HF3.out.then_ HFB.out)).row ⟨w3.heap.size+2,0,none⟩ 2 2 [⟨some ⟨w3.heap.size,0,none⟩,2,[v,-u]⟩,⟨some ⟨w3.heap.size+1,0,none⟩,2,[-v,u]⟩] rfl rfl (fun j hj=>by (have :j=0∨j=1:=by simp at hj;omega);rcases this with rfl |rfl;(rw [addr_add,HAT.out.cell];rfl);(rw [addr_add,HAT.out.cell];rfl)) (by simp;omega) ?_;intro A4 c4 w4 hi4 hf4 hg4 hs4;have HN4:=Lib.hid ((HN.out.keep HF3.out).more HFB.out (fun h hh=>by (have hh2:=hh;simp only [List.mem_cons,List.not_mem_nil,or_false] at hh2);rcases hh2 with rfl |rfl;(exact ⟨HL1.out,ra2U ⟨by have :=HVR.out;omega,by have :=HVR.out;omega⟩ ⟨by have :=HUR.out;omega,by have :=HUR.out;omega⟩,by simp,fun k hk=>by simp [blks] at hk;subst hk;exact HWS.out⟩);(exact ⟨HL2.out,ra2U ⟨by have :=HVR.out;omega,by have :=HVR.out;omega⟩ ⟨by have :=HUR.out;omega,by have :=HUR.out;omega⟩,by simp,fun k hk=>by simp [blks] at hk;subst hk;have :=HWS.out;omega⟩)) hf4 hi4 hg4 (Nat.le_trans HWS.out HFB.out.size));have HX4:Hid (Cx w w4 ⟨iA,iC,some ⟨b,o,none⟩,lC,oA,oC,bA,bC,vA,vC,gA,gC,nA,nC⟩ ⟨mx,ins,lat,outs,bads,invs,ands,nms⟩):=⟨((HXR.out.fr.then_ HF3.out).then_ HFB.out).trans hf4 (fun k hk=> .inr (by have :=HN.out.new k hk;omega)),hf4.at_ ((HXR.out.bx.keep HF3.out).keep HFB.out) (fun hm=>by have :=HN.out.new _ hm;omega)⟩;clear hi4 hf4 hg4 hs4))
   clear hwb
   go_roundg (gk-1)
   case measure=>have :=HK.out;omega
   case rel=>exact ⟨k+1,A4,c4,hs++[(⟨some ⟨w3.heap.size,0,none⟩,2,[v,-u]⟩:Ls),(⟨some ⟨w3.heap.size+1,0,none⟩,2,[-v,u]⟩:Ls)],by have :=HK.out;omega,by rw [List.length_append,hsl];rfl,by go_num,HN4.out,(by rw [List.map_append,HE.out,HLE.out,HF1.out];rfl :_=_),HX4.out⟩
  ·obtain rfl :k=lat.length:=by omega
   clear HK
   go_wp2_with fail
   go_ret
   exact ⟨A',c',hs,rfl,HN.out.low (by omega),HE.out,HXR.out.fr⟩
theorem run_make_cap (W:World) (n:Nat) (h1:n≤1099511627776):
  (Instr.makeSlice 22 (.int .i64 0) (.int .i64 (n:Int))).run Tryz.prog W= .ok (.slice (some ⟨W.heap.size,0,none⟩) 0 n) (W.alloc (.cells (madeCells #[.int .i64 0] n) 3)):=by
 obtain ⟨i0,hi,hz0,hz1,hz2⟩:=info_parts infoInt
 have hr:=run_make (P:=Tryz.prog) W 22 3 i0 (.int .i64 0) Tryz.underlying22 hi hz0 .i64 .i64 0 n (by omega) (by omega) (by rw [hz2];omega) (by omega)
 simp only [Int.toNat_natCast] at hr⊢
 rw [hz1,Nat.mul_one] at hr
 exact hr
theorem made_cap (W:World) (n:Nat) (h:n≤maxLen):Ints (W.alloc (.cells (madeCells #[.int .i64 0] n) 3)) (some ⟨W.heap.size,0,none⟩) n []:=by
 have :=(made_ints W n h).take_ 0
 simpa using this
theorem tright_calls (w:World) (H:Hd) (C:Pc) (h:CiAt w H C) (hv:Valid C) (b:Int) (hb:0≤b∧b≤262144):
  Calls Tryz.prog 109 #[cval H C, .int .i64 b] w fun e w'=>e= .returned (.int .i64 0)∧Fr [] w w':=by
 have HX:=Lib.hid (Cx.start w H C)
 have KC:Hid (Calls Tryz.prog 23 #[cval H C] (w.alloc (.cells (cvs H C) 27)) fun e w'=>e= .returned (.int .i64 0)∧Fr [] (w.alloc (.cells (cvs H C) 27)) w'):=(check_calls _ H C (h.keep HX.out.fr)).mono fun e w' ⟨h1,h2⟩=>by
  rcases h1 with ⟨h3,_⟩ |⟨_,h3⟩
  ·exact ⟨h3,h2⟩
  ·exact absurd hv h3
 have d0:decide (b<0)=false:=decide_eq_false (by omega)
 have d1:decide (262144<b)=false:=decide_eq_false (by omega)
 clear h hv
 obtain ⟨mx,ins,lat,outs,bads,invs,ands,nms⟩:=C
 obtain ⟨iA,iC,lA,lC,oA,oC,bA,bC,vA,vC,gA,gC,nA,nC⟩:=H
 simp only [cval,cvs] at *
 obtain ⟨c0,c1,c2,c3,c4,c5,c6,c7⟩:=HX.out.cells
 simp only at c0 c1 c2 c3 c4 c5 c6 c7
 go_enter Tryz.func109,Tryz.ntmps109
 go_wp2_with fail
 refine KC.out.mono ?_
 rintro e w1 ⟨rfl,hf1⟩
 have HF:=Lib.hid (HX.out.fr.then_ hf1)
 clear hf1
 go_wp2_with fail
 go_ret
 exact ⟨rfl,HF.out⟩
theorem map_next {α β:Type} [Inhabited α] (f:α→β) {l:List α} {k:Nat} (h:k<l.length):(l.take (k+1)).map f=(l.take k).map f++[f l[k]!]:=by
 rw [List.take_add_one,List.getElem?_eq_getElem h,Option.toList_some,List.map_append]
 simp only [List.getElem!_eq_getElem?_getD,List.getElem?_eq_getElem h,Option.getD_some,List.map_cons,List.map_nil]
theorem tclause_calls (w:World) (b:Int) (hb:0≤b∧b≤262144) (A:Option Addr) (c:Nat) (l:List Int) (h:Rd w A l) (hr:∀x∈l,0≤x∧x≤4097) (hl:l.length≤1048576):
  Calls Tryz.prog 72 #[.int .i64 b, .slice A l.length c] w fun e w'=>∃A' c',e= .returned (.slice A' l.length c')∧Ints w' A' c' (l.map (litT b))∧(∀k,k∈blks A'→w.heap.size≤k)∧Fr [] w w':=by
 have KA:=Lib.hid (atT_calls w b hb)
 have KL:=Lib.hid (fun W x (hx:0≤x∧x≤4097)=>litT_calls W b x (by omega) (by omega))
 have HH:=Lib.hid h
 have HR:=Lib.hid hr
 have HRA:Hid (Ra l):=(mem_idx (p:=R64)).2 fun x hx=>by
  have :=hr x hx
  exact ⟨by omega,by omega⟩
 have HM:=Lib.hid (made_cap w l.length (by unfold maxLen;omega))
 have hmk:=run_make_cap w l.length (by omega)
 have HMF:Hid (Fr [] w (w.alloc (.cells (madeCells #[.int .i64 0] l.length) 3))):=box_fr' _ _
 obtain ⟨w1,hw1⟩:∃W,w.alloc (.cells (madeCells #[.int .i64 0] l.length) 3)=W:=⟨_,rfl⟩
 rw [hw1] at HM HMF hmk
 clear h hr
 go_enter Tryz.func72,Tryz.ntmps72
 go_wp2_with fail
 refine KA.out.mono ?_
 rintro e w0 ⟨rfl,rfl⟩
 go_wp2_with fail
 clear KA hmk hw1
 go_loopg [6,16] l.length (fun g x6 x16 wr=>∃(k:Nat) (A':Option Addr) (c':Nat) (ys:List Int),k+g=l.length∧x6= .slice A' ys.length c'∧x16= .int .i64 k∧Hid (Ints wr A' c' ys)∧Hid (ys=(l.take k).map (litT b))∧Hid (∀j,j∈blks A'→w.heap.size≤j)∧Hid (Fr [] w wr))
 case atStart=>exact ⟨0,_,_,[],by omega,rfl,rfl,HM.out,by show _=_;simp,fun j hj=>by simp [blks] at hj;omega,HMF.out⟩
 case round=>
  obtain ⟨k,A',c',ys,hk,rfl,rfl,HI,HY,HN,HF⟩:=hrel
  have HK:=Lib.hid hk
  have hkn:k≤l.length:=by omega
  have hyl:ys.length≤k:=by
   rw [HY.out,List.length_map,List.length_take]
   omega
  clear hk
  by_cases hlt:k<l.length
  ·obtain ⟨ab,o,x,hA,he,cx,hx1,hx2⟩:=(HH.out.keep HF.out).one HRA.out hlt
   subst hA
   have HNX:=Lib.hid (map_next (litT b) hlt)
   rw [he.out] at HNX
   have hxr:=HR.out x (by rw [←he.out];exact mem_get hlt)
   have KLX:=Lib.hid (KL.out wr x hxr)
   have hmn:min x 4097=x:=by omega
   obtain ⟨t,ht⟩:∃t,litT b x=t:=⟨_,rfl⟩
   rw [ht] at KLX HNX
   clear ht
   go_wp2_with fail
   refine KLX.out.mono ?_
   rintro e w3 ⟨rfl,rfl⟩
   obtain ⟨wb,hwb⟩:∃W,wr.alloc (.cells #[.int .i64 t] 3)=W:=⟨_,rfl⟩
   have HFB:Hid (Fr [] wr wb):=hwb▸box_fr' _ _
   have hcell:wb.cell? ⟨wr.heap.size,0,none⟩=some (.int .i64 t):=by
    rw [←hwb]
    exact (At.new wr 3 #[.int .i64 t]).cell 0
   go_wp2_with (at_builtin;(refine wpList_append_int _ rfl _ _ rfl A' c' ys ys.length rfl rfl (HI.out.fr HFB.out (fun _ _ hm=>by cases hm)) ⟨wr.heap.size,0,none⟩ 1 t rfl hcell (by omega) ?_;intro g cap w4 hrow hfr hg hs3;have HR4:=Lib.hid hrow;have HF4:Hid (Fr [] w w4):=(HF.out.then_ HFB.out).trans hfr (fun x hx=> .inr (HN.out x hx));have HG4:Hid (w.heap.size≤g):=(by rcases hg with h1 |h1;(exact HN.out g h1);(have :=HF.out.size;have :=HFB.out.size;omega):w.heap.size≤g);clear hcell hrow hfr hg hs3))
   clear hwb
   go_roundg (gk-1)
   case measure=>have :=HK.out;omega
   case rel=>exact ⟨k+1,some ⟨g,0,none⟩,cap,ys++[t],by have :=HK.out;omega,by simp,by go_num,HR4.out,(by rw [HNX.out,HY.out]:ys++[t]=(l.take (k+1)).map (litT b)),fun j hj=>by simp [blks] at hj;subst hj;exact HG4.out,HF4.out⟩
  ·obtain rfl :k=l.length:=by omega
   have hy:ys=l.map (litT b):=by rw [HY.out,List.take_length]
   have hyl2:ys.length=l.length:=by rw [hy,List.length_map]
   have HY2:=Lib.hid hy
   rw [hyl2]
   clear HK hy HY
   go_wp2_with fail
   go_ret
   exact ⟨A',c',rfl,by rw [←HY2.out];exact HI.out,HN.out,HF.out⟩
namespace Bools
variable {w w':World} {A:Option Addr} {c:Nat} {bs:List Bool}
theorem cellB {g:Nat} (h:Bools w (some ⟨g,0,none⟩) c bs) {i:Nat} (hi:i<bs.length):w.cell? ⟨g,i,none⟩=some (.bool (bs[i]!)):=by
 rw [World.ownsRow.cellAt h i (by omega)]
 simp only [List.getElem?_map,List.getElem?_eq_getElem hi,Option.map_some,List.getElem!_eq_getElem?_getD,Option.getD_some]
theorem frozenB {g:Nat} (h:Bools w (some ⟨g,0,none⟩) c bs) (i:Nat):w.frozen? ⟨g,i,none⟩=false:=World.ownsRow.frozenAt h i
theorem setB {g:Nat} (h:Bools w (some ⟨g,0,none⟩) c bs) (i:Nat) (x:Bool):Bools (w.setCell ⟨g,i,none⟩ (.bool x)) (some ⟨g,0,none⟩) c (bs.set i x):=by
 have :=(World.ownsRow.stored h i (.bool x)).1
 unfold Bools
 rw [List.length_set,List.map_set]
 exact this
theorem frB {S:List Nat} (h:Bools w A c bs) (hf:Fr S w w') (hd:∀k,k∈blks A→k∉S):Bools w' A c bs:=hf.own h (fun k hk=>hd k ((blks_own k).1 hk))
end Bools
def dfl (xs:List Int) (bs:List Bool):List Bool:=xs.foldl (fun b x=>b.set (x/2).toNat true) bs
theorem dfl_len (xs:List Int):∀bs,(dfl xs bs).length=bs.length:=by
 induction xs with
 |nil=>intro bs;rfl
 |cons x r ih=>intro bs;show (dfl r _).length=_;rw [ih,List.length_set]
theorem dfl_app (xs ys:List Int) (bs:List Bool):dfl (xs++ys) bs=dfl ys (dfl xs bs):=by unfold dfl;rw [List.foldl_append]
theorem dfl_next {xs:List Int} {k:Nat} (h:k<xs.length) (bs:List Bool):dfl (xs.take (k+1)) bs=(dfl (xs.take k) bs).set (xs[k]! /2).toNat true:=by
 rw [List.take_add_one,List.getElem?_eq_getElem h,Option.toList_some,dfl_app]
 simp only [List.getElem!_eq_getElem?_getD,List.getElem?_eq_getElem h,Option.getD_some]
 rfl
def dfU (C:Pc):List Bool:=dfl (ownL C) (List.replicate (C.mx+1).toNat false)
theorem dfU_len (C:Pc):(dfU C).length=(C.mx+1).toNat:=by unfold dfU;rw [dfl_len,List.length_replicate]
structure Dg (w wr:World) (g n:Nat) (bs:List Bool):Prop where
 row:Bools wr (some ⟨g,0,none⟩) n bs
 len:bs.length=n
 new:w.heap.size<g
namespace Dg
variable {w wr wx:World} {g n:Nat} {bs:List Bool}
theorem keep (h:Dg w wr g n bs) (hf:Fr [] wr wx):Dg w wx g n bs:=⟨h.row.frB hf (fun _ _ hm=>by cases hm),h.len,h.new⟩
theorem set_ (h:Dg w wr g n bs) (i:Nat):Dg w (wr.setCell ⟨g,i,none⟩ (.bool true)) g n (bs.set i true):=⟨h.row.setB i true,by rw [List.length_set];exact h.len,h.new⟩
end Dg
theorem Cx.put {w wr:World} {H:Hd} {C:Pc} (h:Cx w wr H C) {g:Nat} (hg:w.heap.size<g) (i:Nat) (v:Value):Cx w (wr.setCell ⟨g,i,none⟩ v) H C:=
 ⟨h.fr.setCell (.inr (by show w.heap.size≤g;omega)) v,h.bx.far (by show w.heap.size≠g;omega) v⟩
theorem tdefined_calls (w:World) (H:Hd) (C:Pc) (h:CiAt w H C) (hv:Valid C):
  Calls Tryz.prog 110 #[cval H C] w fun e w'=>∃g,e= .returned (.slice (some ⟨g,0,none⟩) (dfU C).length (dfU C).length)∧Bools w' (some ⟨g,0,none⟩) (dfU C).length (dfU C)∧w.heap.size≤g∧Fr [] w w':=by
 have HX:=Lib.hid (Cx.start w H C)
 have hm0:=hv.m0
 have hm1:=hv.m1
 obtain ⟨n,hn⟩:∃n:Nat,C.mx+1=n:=⟨(C.mx+1).toNat,by omega⟩
 have HVO:=Lib.hid (valid_own hv)
 have hdl:=dfU_len C
 rw [hn,Int.toNat_natCast] at hdl
 rw [hdl]
 have HDU:Hid (dfU C=dfl (C.ands.map (fun x=>x.a)) (dfl (C.lat.map (fun x=>x.a)) (dfl C.ins (List.replicate n false)))):=by
  show _=_
  unfold dfU ownL
  rw [hn,Int.toNat_natCast,dfl_app,dfl_app]
 have HII:=Lib.hid (fun x (hx:x∈C.ins)=>valid_own hv x (by simp [ownL,hx]))
 have HIL:=Lib.hid (fun x (hx:x∈C.lat.map (fun x=>x.a))=>valid_own hv x (by unfold ownL;simp only [List.mem_append];exact .inl (.inr hx)))
 have HIA:=Lib.hid (fun x (hx:x∈C.ands.map (fun x=>x.a))=>valid_own hv x (by unfold ownL;simp only [List.mem_append];exact .inr hx))
 have hw1:IntKind.i64.wrap (C.mx+1)=(n:Int):=by rw [hn];exact IntWalk.i64_in _ (by omega)
 have KV:=Lib.hid (fun W l (h0:0≤l) (h1:l≤9223372036854775807)=>lvar_nn W l h0 h1)
 have HH:=Lib.hid h
 have HIR:=Lib.hid h.ir
 have HLR:=Lib.hid h.lr
 have HGR:=Lib.hid h.gr
 have HLL:=Lib.hid h.gL
 have hil:=h.iL
 have hll:=h.lL
 have hgl:=h.gL
 clear h hv hdl
 obtain ⟨mx,ins,lat,outs,bads,invs,ands,nms⟩:=C
 obtain ⟨iA,iC,lA,lC,oA,oC,bA,bC,vA,vC,gA,gC,nA,nC⟩:=H
 simp only [cval,cvs] at *
 have hnm:mx+1=(n:Int):=hn
 have hmk:=fun W=>run_make_bool W (n:Int) (by omega) (by omega)
 simp only [Int.toNat_natCast] at hmk
 obtain ⟨wq,hwq⟩:∃W,w.alloc (.cells #[.int .i64 mx, .slice iA ins.length iC, .slice lA lat.length lC, .slice oA outs.length oC, .slice bA bads.length bC, .slice vA invs.length vC, .slice gA ands.length gC, .slice nA nms.length nC] 27)=W:=⟨_,rfl⟩
 have HXQ:Hid (Cx w wq ⟨iA,iC,lA,lC,oA,oC,bA,bC,vA,vC,gA,gC,nA,nC⟩ ⟨mx,ins,lat,outs,bads,invs,ands,nms⟩):=hwq▸HX.out
 obtain ⟨c0,c1,c2,c3,c4,c5,c6,c7⟩:=HXQ.out.cells
 try simp only at c0 c1 c2 c3 c4 c5 c6 c7
 obtain ⟨w1,hw⟩:∃W,wq.alloc (.cells (madeCells #[.bool false] n) 4)=W:=⟨_,rfl⟩
 have HF1:Hid (Fr [] wq w1):=hw▸box_fr' _ _
 have HX1:=Lib.hid (HXQ.out.keep HF1.out)
 have HD1:Hid (Dg w w1 wq.heap.size n (List.replicate n false)):=⟨hw▸made_bools wq n (by unfold maxLen;omega),by simp,HXQ.out.bx.lt⟩
 obtain ⟨g,hg⟩:∃g,wq.heap.size=g:=⟨_,rfl⟩
 rw [hg] at HD1
 obtain ⟨d0,d1,d2,d3,d4,d5,d6,d7⟩:=HX1.out.cells
 try simp only at d0 d1 d2 d3 d4 d5 d6 d7
 have hmk1:=hmk wq
 rw [hg,hw] at hmk1
 clear HX hmk hn
 go_enter Tryz.func110,Tryz.ntmps110
 go_wp2_with fail
 clear hmk1 hw hwq hg hw1 c0 c1 c2 c3 c4 c5 c6 c7 d0 d1 d2 d3 d4 d5 d6 d7
 go_loopg [17] ins.length (fun gk x17 wr=>∃k:Nat,k+gk=ins.length∧x17= .int .i64 k∧Hid (Cx w wr ⟨iA,iC,lA,lC,oA,oC,bA,bC,vA,vC,gA,gC,nA,nC⟩ ⟨mx,ins,lat,outs,bads,invs,ands,nms⟩)∧Hid (Dg w wr g n (dfl (ins.take k) (List.replicate n false))))
 case atStart=>exact ⟨0,by omega,rfl,HX1.out,HD1.out⟩
 case round=>
  obtain ⟨k,hk,rfl,HXR,HD⟩:=hrel
  have HK:=Lib.hid hk
  have hkn:k≤ins.length:=by omega
  clear hk HX1 HD1
  by_cases hlt:k<ins.length
  ·obtain ⟨b,o,x,hA,he,cx,hx1,hx2⟩:=(HH.out.keep HXR.out.fr).i.one HIR.out hlt
   try simp only at hA he
   subst hA
   have HNX:=Lib.hid (dfl_next hlt (List.replicate n false))
   rw [he.out] at HNX
   have hxr:=HII.out x (by rw [←he.out];exact mem_get hlt)
   try simp only at hxr
   have HXX:=HXR
   have HDX:=HD
   obtain ⟨v,hv2⟩:∃v:Nat,x/2=(v:Int):=⟨(x/2).toNat,by omega⟩
   have hvn:v<n:=by omega
   have hvn2:(v:Int)<(n:Int):=by omega
   rw [hv2,Int.toNat_natCast] at HNX
   have KVX:=KV.out wr x (by omega) (by omega)
   rw [hv2] at KVX
   have KVX:=Lib.hid KVX
   have cb:=HDX.out.row.cellB (i:=v) (by rw [HDX.out.len];exact hvn)
   have cf:=HDX.out.row.frozenB v
   have HX4:=Lib.hid (HXX.out.put HDX.out.new v (.bool true))
   have HD4:=Lib.hid (HDX.out.set_ v)
   have HLN:=Lib.hid HDX.out.len
   clear hv2
   go_wp2_with fail
   refine KVX.out.mono ?_
   rintro e w3 ⟨rfl,rfl⟩
   go_wp2_with fail
   go_roundg (gk-1)
   case measure=>have :=HK.out;omega
   case rel=>exact ⟨k+1,by have :=HK.out;omega,by go_num,HX4.out,by rw [HNX.out];exact HD4.out⟩
  ·obtain rfl :k=ins.length:=by omega
   obtain ⟨w2,hw2⟩:∃x,x=wr:=⟨_,rfl⟩
   rw [List.take_length] at HD
   obtain ⟨B1,hB1⟩:∃B,dfl ins (List.replicate n false)=B:=⟨_,rfl⟩
   rw [hB1] at HD HDU
   obtain ⟨d0,d1,d2,d3,d4,d5,d6,d7⟩:=HXR.out.cells
   try simp only at d0 d1 d2 d3 d4 d5 d6 d7
   clear HK hB1 hw2
   go_wp2_with fail
   clear d0 d1 d2 d3 d4 d5 d6 d7
   go_loopg [29] lat.length (fun gk xi wr=>∃k:Nat,k+gk=lat.length∧xi= .int .i64 k∧Hid (Cx w wr ⟨iA,iC,lA,lC,oA,oC,bA,bC,vA,vC,gA,gC,nA,nC⟩ ⟨mx,ins,lat,outs,bads,invs,ands,nms⟩)∧Hid (Dg w wr g n (dfl ((lat.map (fun x=>x.a)).take k) B1)))
   case atStart=>exact ⟨0,by omega,rfl,HXR.out,HD.out⟩
   case round=>
    obtain ⟨k,hk,rfl,HXR,HD⟩:=hrel
    have HK:=Lib.hid hk
    have hkn:k≤lat.length:=by omega
    clear hk
    by_cases hlt:k<lat.length
    ·obtain ⟨b,o,x,y,z,hA,he,cx,cy,cz,hx,hy,hz⟩:=(HH.out.keep HXR.out.fr).l.one HLR.out hlt
     try simp only at hA he
     subst hA
     have hml:k<(lat.map (fun x:T3=>x.a)).length:=by rw [List.length_map];exact hlt
     have hge:(lat.map (fun x:T3=>x.a))[k]! =x:=by
      rw [List.getElem!_eq_getElem?_getD,List.getElem?_map,List.getElem?_eq_getElem hlt]
      have :=he.out
      rw [List.getElem!_eq_getElem?_getD,List.getElem?_eq_getElem hlt] at this
      simp only [Option.getD_some] at this
      simp [this]
     have HNX:=Lib.hid (dfl_next hml B1)
     rw [hge] at HNX
     have hxr:=HIL.out x (by rw [←hge];exact mem_get hml)
     try simp only at hxr
     obtain ⟨wx,hwx⟩:∃W,wr.alloc (.cells #[.int .i64 x, .int .i64 y, .int .i64 z] 63)=W:=⟨_,rfl⟩
     have hxa:At wx wr.heap.size 63 #[.int .i64 x, .int .i64 y, .int .i64 z]:=hwx▸At.new _ _ _
     have HFX:Hid (Fr [] wr wx):=hwx▸box_fr' _ _
     have f0:=hxa.cell 0
     simp at f0
     have HXX:=Lib.hid (HXR.out.keep HFX.out)
     have HDX:=Lib.hid (HD.out.keep HFX.out)
     clear hge hml hxa
     obtain ⟨v,hv2⟩:∃v:Nat,x/2=(v:Int):=⟨(x/2).toNat,by omega⟩
     have hvn:v<n:=by omega
     have hvn2:(v:Int)<(n:Int):=by omega
     rw [hv2,Int.toNat_natCast] at HNX
     have KVX:=KV.out wx x (by omega) (by omega)
     rw [hv2] at KVX
     have KVX:=Lib.hid KVX
     have cb:=HDX.out.row.cellB (i:=v) (by rw [HDX.out.len];exact hvn)
     have cf:=HDX.out.row.frozenB v
     have HX4:=Lib.hid (HXX.out.put HDX.out.new v (.bool true))
     have HD4:=Lib.hid (HDX.out.set_ v)
     have HLN:=Lib.hid HDX.out.len
     clear hv2
     go_wp2_with fail
     refine KVX.out.mono ?_
     rintro e w3 ⟨rfl,rfl⟩
     go_wp2_with fail
     go_roundg (gk-1)
     case measure=>have :=HK.out;omega
     case rel=>exact ⟨k+1,by have :=HK.out;omega,by go_num,HX4.out,by rw [HNX.out];exact HD4.out⟩
    ·obtain rfl :k=lat.length:=by omega
     have HD:Hid (Dg w wr g n (dfl (lat.map (fun x=>x.a)) B1)):=by
      have :=HD.out
      rw [List.take_of_length_le (by rw [List.length_map];exact Nat.le_refl _)] at this
      exact this
     clear HK
     obtain ⟨B2,hB2⟩:∃B,dfl (lat.map (fun x=>x.a)) B1=B:=⟨_,rfl⟩
     try simp only at HDU
     rw [hB2] at HD HDU
     obtain ⟨d0,d1,d2,d3,d4,d5,d6,d7⟩:=HXR.out.cells
     try simp only at d0 d1 d2 d3 d4 d5 d6 d7
     clear hB2
     go_wp2_with fail
     clear d0 d1 d2 d3 d4 d5 d6 d7
     go_loopg [42] ands.length (fun gk xi wr=>∃k:Nat,k+gk=ands.length∧xi= .int .i64 k∧Hid (Cx w wr ⟨iA,iC,lA,lC,oA,oC,bA,bC,vA,vC,gA,gC,nA,nC⟩ ⟨mx,ins,lat,outs,bads,invs,ands,nms⟩)∧Hid (Dg w wr g n (dfl ((ands.map (fun x=>x.a)).take k) B2)))
     case atStart=>exact ⟨0,by omega,rfl,HXR.out,HD.out⟩
     case round=>
      obtain ⟨k,hk,rfl,HXR,HD⟩:=hrel
      have HK:=Lib.hid hk
      have hkn:k≤ands.length:=by omega
      clear hk
      by_cases hlt:k<ands.length
      ·obtain ⟨b,o,x,y,z,hA,he,cx,cy,cz,hx,hy,hz⟩:=(HH.out.keep HXR.out.fr).g.one HGR.out hlt
       try simp only at hA he
       subst hA
       have hml:k<(ands.map (fun x:T3=>x.a)).length:=by rw [List.length_map];exact hlt
       have hge:(ands.map (fun x:T3=>x.a))[k]! =x:=by
        rw [List.getElem!_eq_getElem?_getD,List.getElem?_map,List.getElem?_eq_getElem hlt]
        have :=he.out
        rw [List.getElem!_eq_getElem?_getD,List.getElem?_eq_getElem hlt] at this
        simp only [Option.getD_some] at this
        simp [this]
       have HNX:=Lib.hid (dfl_next hml B2)
       rw [hge] at HNX
       have hxr:=HIA.out x (by rw [←hge];exact mem_get hml)
       try simp only at hxr
       obtain ⟨wx,hwx⟩:∃W,wr.alloc (.cells #[.int .i64 x, .int .i64 y, .int .i64 z] 93)=W:=⟨_,rfl⟩
       have hxa:At wx wr.heap.size 93 #[.int .i64 x, .int .i64 y, .int .i64 z]:=hwx▸At.new _ _ _
       have HFX:Hid (Fr [] wr wx):=hwx▸box_fr' _ _
       have f0:=hxa.cell 0
       simp at f0
       have HXX:=Lib.hid (HXR.out.keep HFX.out)
       have HDX:=Lib.hid (HD.out.keep HFX.out)
       clear hge hml hxa
       obtain ⟨v,hv2⟩:∃v:Nat,x/2=(v:Int):=⟨(x/2).toNat,by omega⟩
       have hvn:v<n:=by omega
       have hvn2:(v:Int)<(n:Int):=by omega
       rw [hv2,Int.toNat_natCast] at HNX
       have KVX:=KV.out wx x (by omega) (by omega)
       rw [hv2] at KVX
       have KVX:=Lib.hid KVX
       have cb:=HDX.out.row.cellB (i:=v) (by rw [HDX.out.len];exact hvn)
       have cf:=HDX.out.row.frozenB v
       have HX4:=Lib.hid (HXX.out.put HDX.out.new v (.bool true))
       have HD4:=Lib.hid (HDX.out.set_ v)
       have HLN:=Lib.hid HDX.out.len
       clear hv2
       go_wp2_with fail
       refine KVX.out.mono ?_
       rintro e w3 ⟨rfl,rfl⟩
       go_wp2_with fail
       go_roundg (gk-1)
       case measure=>have :=HK.out;omega
       case rel=>exact ⟨k+1,by have :=HK.out;omega,by go_num,HX4.out,by rw [HNX.out];exact HD4.out⟩
      ·obtain rfl :k=ands.length:=by omega
       have HD:Hid (Dg w wr g n (dfl (ands.map (fun x=>x.a)) B2)):=by
        have :=HD.out
        rw [List.take_of_length_le (by rw [List.length_map];exact Nat.le_refl _)] at this
        exact this
       clear HK
       go_wp2_with fail
       go_ret
       exact ⟨g,rfl,by rw [HDU.out];exact HD.out.row,by have :=HD.out.new;omega,HXR.out.fr⟩
theorem wpList_pushU (wb:World) {ops:Array Oper} {rest:List Oper} {o:Oper} {a:Act} {Q:Exit→Act→World→Prop} (hgd:o.guard=none) (s x:Operand)
  (ho:o.op= .call { callee:= .builtin .append,args:=#[s,x],argTypes:=#[28,28] }) {w3:World} {B:Nat} (A:Option Addr) (c:Nat) (hs:List Ls) (HN:NwLs w3 B A c hs) (hwb:Fr [] w3 wb) (hB:B≤wb.heap.size) (n:Nat) (hsv:a.eval s= .slice A n c) (hn:n=hs.length)
  (ad:Addr) (m d:Nat) (ms:List Ls) (hx:a.eval x= .slice (some ad) m d) (hm:m=ms.length) (hr:∀j:Nat,j<ms.length→wb.cell? (ad.add j)=some (ms[j]!).val)
  (hms:∀h∈ms,Ints wb h.A h.c h.l∧Ra h.l∧h.l.length≤1048576∧∀k,k∈blks h.A→B≤k) (hlen:hs.length+ms.length≤4194304)
  (h:∀A' cap w',NwLs w' B A' cap (hs++ms)→Fr (blks A) wb w'→wpList Tryz.prog ops Q rest (a.put o.dst (.slice A' (n+m) cap)) w'):
  wpList Tryz.prog ops Q (o::rest) a wb:=
 wpList_append_listsU wb hgd s x ho A c hs n hsv hn (HN.keep hwb).row ad m d ms hx hm hr hlen fun A' cap w' h1 h2 h3 h4=>h A' cap w' (HN.more hwb hms h2 h1 h3 hB) h2
theorem Cx.push {w wb w':World} {H:Hd} {C:Pc} {A:Option Addr} (h:Cx w wb H C) (hf:Fr (blks A) wb w') (hn:∀k∈blks A,w.heap.size<k):Cx w w' H C:=
 ⟨h.fr.trans hf (fun k hk=> .inr (Nat.le_of_lt (hn k hk))),hf.at_ h.bx (fun hm=>by have :=hn _ hm;omega)⟩
theorem NwLs.lt {w:World} {B:Nat} {A:Option Addr} {c:Nat} {hs:List Ls} (k:NwLs w B A c hs) {n:Nat} (h:n<B):∀j∈blks A,n<j:=fun j hj=>Nat.lt_of_lt_of_le h (k.new j hj)
theorem NwLs.len_le {w:World} {B:Nat} {A:Option Addr} {c:Nat} {hs:List Ls} (k:NwLs w B A c hs) {L:List (List Int)} (h:hs.map (·.l)=L):hs.length=L.length:=by rw [←h,List.length_map]
theorem valid_gl {C:Pc} (hv:Valid C):C.ands.length≤2048:=by
 have key:∀j:Nat,j<C.ands.length→2*((j:Int)+1)≤(C.ands[j]!).a:=by
  intro j
  induction j with
  |zero=>
   intro h
   have :=valid_own hv (C.ands[0]!).a (by unfold ownL;simp only [List.mem_append,List.mem_map];exact .inr ⟨_,mem_get h,rfl⟩)
   omega
  |succ j ih=>
   intro h
   have h1:=ih (by omega)
   have h2:=hv.ands (j+1) h
   simp only [andB,prv,Nat.add_sub_cancel,Bool.and_eq_true] at h2
   rw [if_neg (by omega)] at h2
   simp only [decide_eq_true_eq] at h2
   have h3:=valid_own hv (C.ands[j+1]!).a (by unfold ownL;simp only [List.mem_append,List.mem_map];exact .inr ⟨_,mem_get h,rfl⟩)
   have h4:=valid_own hv (C.ands[j]!).a (by unfold ownL;simp only [List.mem_append,List.mem_map];exact .inr ⟨_,mem_get (by omega),rfl⟩)
   omega
 by_cases h:C.ands.length=0
 ·omega
 ·have h1:=key (C.ands.length-1) (by omega)
  have h2:=valid_own hv (C.ands[C.ands.length-1]!).a (by unfold ownL;simp only [List.mem_append,List.mem_map];exact .inr ⟨_,mem_get (by omega),rfl⟩)
  have :=hv.m1
  omega
theorem valid_and {C:Pc} (h:Valid C) (j:Nat) (hj:j<C.ands.length):(0≤(C.ands[j]!).a∧(C.ands[j]!).a≤2*C.mx+1)∧(0≤(C.ands[j]!).b∧(C.ands[j]!).b≤2*C.mx+1)∧(0≤(C.ands[j]!).c∧(C.ands[j]!).c≤2*C.mx+1):=by
 have h2:=h.ands j hj
 simp only [andB,Bool.and_eq_true] at h2
 have h3:=valid_own h (C.ands[j]!).a (by unfold ownL;simp only [List.mem_append,List.mem_map];exact .inr ⟨_,mem_get hj,rfl⟩)
 exact ⟨by omega,valid_lit h h2.1.2,valid_lit h h2.2⟩
theorem ra3U {x y z:Int} (h:R64 x) (h2:R64 y) (h3:R64 z):Ra [x,y,z]:=fun j hj=>by
 have :j=0∨j=1∨j=2:=by simp at hj;omega
 rcases this with rfl |rfl |rfl
 ·exact h
 ·exact h2
 ·exact h3
def und1 (b:Int) (bs:List Bool) (i:Nat):List (List Int):=if bs[i]! =true then [] else [[-(b+i+1)]]
def undU (b:Int) (bs:List Bool) (k:Nat):List (List Int):=(List.range k).flatMap (und1 b bs)
theorem undU_next (b:Int) (bs:List Bool) (k:Nat):undU b bs (k+1)=undU b bs k++und1 b bs k:=by
 unfold undU
 rw [List.range_succ,List.flatMap_append]
 simp
theorem undU_len (b:Int) (bs:List Bool) (k:Nat):(undU b bs k).length≤k:=by
 induction k with
 |zero=>simp [undU]
 |succ k ih=>
  rw [undU_next,List.length_append]
  have :(und1 b bs k).length≤1:=by unfold und1;split<;>simp
  omega
def gat1 (b:Int) (x:T3):List (List Int):=[[-(litT b x.a),litT b x.b],[-(litT b x.a),litT b x.c],[litT b x.a,-(litT b x.b),-(litT b x.c)]]
def gatU (b:Int) (xs:List T3) (k:Nat):List (List Int):=(xs.take k).flatMap (gat1 b)
theorem gatU_next (b:Int) (xs:List T3) (k:Nat) (h:k<xs.length):gatU b xs (k+1)=gatU b xs k++gat1 b xs[k]! :=by
 unfold gatU
 rw [take_snoc _ _ h,List.flatMap_append]
 simp
theorem gatU_len (b:Int) (xs:List T3) (k:Nat) (h:k≤xs.length):(gatU b xs k).length=3*k:=by
 induction k with
 |zero=>simp [gatU]
 |succ k ih=>
  rw [gatU_next b xs k (by omega),List.length_append,ih (by omega)]
  simp [gat1]
  omega
def gatesU (C:Pc) (b:Int):List (List Int):=undU b (dfU C) (dfU C).length++gatU b C.ands C.ands.length
theorem tgates_calls (w:World) (H:Hd) (C:Pc) (h:CiAt w H C) (hv:Valid C) (b:Int) (hb:0≤b∧b≤262144):
  Calls Tryz.prog 69 #[cval H C, .int .i64 b] w fun e w'=>∃A c hs,e= .returned (.tuple #[.slice A hs.length c, .int .i64 0])∧NwLs w' w.heap.size A c hs∧hs.map (·.l)=gatesU C b∧Fr [] w w':=by
 have HX:=Lib.hid (Cx.start w H C)
 have KR:=Lib.hid (tright_calls _ H C (h.keep HX.out.fr) hv b hb)
 have KD:=Lib.hid (fun W (hW:Fr [] w W)=>tdefined_calls W H C (h.keep hW) hv)
 have KO:=Lib.hid (fun W v (hv:0≤v∧v≤1000000)=>ofT_calls W b v (by omega) hv)
 have KT:=Lib.hid (fun W x (hx:0≤x∧x≤4097)=>litT_calls W b x (by omega) (by omega))
 have HLT:=Lib.hid (fun x (hx:0≤x∧x≤4097)=>litT_rng (b:=b) (l:=x) (by omega) hx)
 have HNX:=Lib.hid (fun j hj=>valid_and hv j hj)
 have hdl:=dfU_len C
 have hm0:=hv.m0
 have hmx:=hv.m1
 have hgl:=valid_gl hv
 have HH:=Lib.hid h
 have HGR:=Lib.hid h.gr
 have hLL:=h.gL
 obtain ⟨bs,hbs⟩:∃bs,dfU C=bs:=⟨_,rfl⟩
 have HGA:Hid (gatesU C b=undU b bs bs.length++gatU b C.ands C.ands.length):=(by show _=_;unfold gatesU;rw [hbs])
 rw [hbs] at KD hdl
 have hbl:bs.length≤2049:=by omega
 clear h hv hbs hdl
 obtain ⟨mx,ins,lat,outs,bads,invs,ands,nms⟩:=C
 obtain ⟨iA,iC,lA,lC,oA,oC,bA,bC,vA,vC,gA,gC,nA,nC⟩:=H
 simp only [cval,cvs] at *
 obtain ⟨c0,c1,c2,c3,c4,c5,c6,c7⟩:=HX.out.cells
 try simp only at c0 c1 c2 c3 c4 c5 c6 c7
 go_enter Tryz.func69,Tryz.ntmps69
 go_wp2_with fail
 refine KR.out.mono ?_
 rintro e w1 ⟨rfl,hf1⟩
 have HX1:=Lib.hid (HX.out.keep hf1)
 obtain ⟨e0,e1,e2,e3,e4,e5,e6,e7⟩:=HX1.out.cells
 try simp only at e0 e1 e2 e3 e4 e5 e6 e7
 have KD1:=Lib.hid (KD.out w1 HX1.out.fr)
 clear hf1 c0 c1 c2 c3 c4 c5 c6 c7 KR KD HX
 go_wp2_with fail
 refine KD1.out.mono ?_
 rintro e w2 ⟨g,rfl,hbo,hgn,hf2⟩
 have HX2:=Lib.hid (HX1.out.keep hf2)
 have HBO:=Lib.hid hbo
 clear hf2 hbo hgn KD1 e0 e1 e2 e3 e4 e5 e6 e7
 go_wp2_with fail
 go_loopg [8,26] bs.length (fun gk x8 x26 wr=>∃(k:Nat) (A':Option Addr) (c':Nat) (hs:List Ls),k+gk=bs.length∧x8= .slice A' hs.length c'∧x26= .int .i64 k∧Hid (NwLs wr (w.heap.size+1) A' c' hs)∧Hid (hs.map (·.l)=undU b bs k)∧Hid (Cx w wr ⟨iA,iC,lA,lC,oA,oC,bA,bC,vA,vC,gA,gC,nA,nC⟩ ⟨mx,ins,lat,outs,bads,invs,ands,nms⟩)∧Hid (Bools wr (some ⟨g,0,none⟩) bs.length bs))
 case atStart=>exact ⟨0,none,0,[],by omega,rfl,rfl,NwLs.nil _ _,rfl,HX2.out,HBO.out⟩
 case round=>
  obtain ⟨k,A',c',hs,hk,rfl,rfl,HN,HE,HXR,HBR⟩:=hrel
  have HK:=Lib.hid hk
  have hkn:k≤bs.length:=by omega
  have hsl:hs.length≤k:=by
   have :=undU_len b bs k
   rw [←HE.out,List.length_map] at this
   exact this
  clear hk HX1 HX2 HBO
  by_cases hlt:k<bs.length
  ·have cb:=HBR.out.cellB hlt
   have cf:=HBR.out.frozenB k
   have HNX:=Lib.hid (undU_next b bs k)
   obtain ⟨t,ht⟩:∃t,bs[k]! =t:=⟨_,rfl⟩
   rw [ht] at cb
   have HU1:Hid (und1 b bs k=if t=true then [] else [[-(b+k+1)]]):=(by show _=_;unfold und1;rw [ht])
   clear ht
   cases t with
   |true=>
    have HU2:Hid (und1 b bs k=[]):=HU1.out
    go_wp2_with fail
    go_roundg (gk-1)
    case measure=>have :=HK.out;omega
    case rel=>exact ⟨k+1,A',c',hs,by have :=HK.out;omega,rfl,by go_num,HN.out,(by rw [HE.out,HNX.out,HU2.out,List.append_nil]:_=_),HXR.out,HBR.out⟩
   |false=>
    obtain ⟨v,hv2⟩:∃v,b+(k:Int)+1=v:=⟨_,rfl⟩
    have HU2:Hid (und1 b bs k=[[-v]]):=by have :=HU1.out;rw [hv2] at this;exact this
    have hvr:0≤v∧v≤1000000:=by omega
    have hw1:IntKind.i64.wrap (-v)= -v:=IntWalk.i64_in _ (by omega)
    have KOV:=KO.out wr (k:Int) (by omega)
    rw [hv2] at KOV
    have KOV:=Lib.hid KOV
    have HVR:=Lib.hid hvr
    clear hv2 HU1
    obtain ⟨wb,hwb⟩:∃W,(wr.alloc (.cells #[.int .i64 (-v)] 3)).alloc (.cells #[.slice (some ⟨wr.heap.size,0,none⟩) 1 1] 22)=W:=⟨_,rfl⟩
    have HL1:Hid (Ints wb (some ⟨wr.heap.size,0,none⟩) 1 [-v]):=hwb▸(row_new wr [-v] (by simp [maxLen])).alloc _
    have HFB:Hid (Fr [] wr wb):=hwb▸((box_fr' _ _).then_ (box_fr' _ _))
    have hcb:wb.cell? ⟨wr.heap.size+1,0,none⟩=some (.slice (some ⟨wr.heap.size,0,none⟩) 1 1):=by
     have :=(At.new (wr.alloc (.cells #[.int .i64 (-v)] 3)) 22 #[.slice (some ⟨wr.heap.size,0,none⟩) 1 1]).cell 0
     rw [hwb] at this
     simpa using this
    have HCB:=Lib.hid hcb
    have HWS:Hid (w.heap.size+1≤wr.heap.size):=(HXR.out.bx.lt:w.heap.size+1≤wr.heap.size)
    have HXB:=Lib.hid (HXR.out.keep HFB.out)
    have HBB:=Lib.hid (HBR.out.frB HFB.out (fun _ _ hm=>by cases hm))
    clear hcb
    go_wp2_with fail
    refine KOV.out.mono ?_
    rintro e w3 ⟨rfl,rfl⟩
    go_wp2_with (at_builtin;(refine wpList_pushU _ rfl _ _ rfl A' c' hs HN.out HFB.out (Nat.le_trans HWS.out HFB.out.size) hs.length rfl rfl ⟨wr.heap.size+1,0,none⟩ 1 1 [⟨some ⟨wr.heap.size,0,none⟩,1,[-v]⟩] rfl rfl (fun j hj=>by (have :j=0:=by simpa using hj);subst this;rw [addr_add];exact HCB.out) (fun h hh=>by (have :=List.mem_singleton.1 hh);subst this;exact ⟨HL1.out,ra1U ⟨by have :=HVR.out;omega,by have :=HVR.out;omega⟩,by simp,fun k hk=>by simp [blks] at hk;subst hk;exact HWS.out⟩) (by simp;omega) ?_;intro A4 c4 w4 hn4 hf4;have HN4:=Lib.hid hn4;have HX4:=Lib.hid (HXB.out.push hf4 (HN.out.lt (Nat.lt_succ_self _)));have HB4:=Lib.hid (HBB.out.frB hf4 (rows_far HBB.out (HN.out.keep HFB.out).row (by decide)));clear hn4 hf4))
    clear hwb
    go_roundg (gk-1)
    case measure=>have :=HK.out;omega
    case rel=>exact ⟨k+1,A4,c4,hs++[(⟨some ⟨wr.heap.size,0,none⟩,1,[-v]⟩:Ls)],by have :=HK.out;omega,by simp,by go_num,HN4.out,(by rw [List.map_append,HE.out,HNX.out,HU2.out];rfl :_=_),HX4.out,HB4.out⟩
  ·obtain rfl :k=bs.length:=by omega
   obtain ⟨d0,d1,d2,d3,d4,d5,d6,d7⟩:=HXR.out.cells
   try simp only at d0 d1 d2 d3 d4 d5 d6 d7
   have HHS:Hid (hs.length≤2049):=(by show _≤_;omega)
   obtain ⟨U,hU⟩:∃U,undU b bs bs.length=U:=⟨_,rfl⟩
   rw [hU] at HE HGA
   clear HK hU HBR hsl
   go_wp2_with fail
   clear d0 d1 d2 d3 d4 d5 d6 d7
   go_loopg [8,45] ands.length (fun gk x8 x45 wr=>∃(k:Nat) (A':Option Addr) (c':Nat) (hs:List Ls),k+gk=ands.length∧x8= .slice A' hs.length c'∧x45= .int .i64 k∧Hid (NwLs wr (w.heap.size+1) A' c' hs)∧Hid (hs.map (·.l)=U++gatU b ands k)∧Hid (hs.length≤2049+3*k)∧Hid (Cx w wr ⟨iA,iC,lA,lC,oA,oC,bA,bC,vA,vC,gA,gC,nA,nC⟩ ⟨mx,ins,lat,outs,bads,invs,ands,nms⟩))
   case atStart=>exact ⟨0,A',c',hs,by omega,rfl,rfl,HN.out,(by rw [HE.out];simp [gatU]:_=_),HHS.out,HXR.out⟩
   case round=>
    clear HN HE HXR HHS
    obtain ⟨k,A',c',hs,hk,rfl,rfl,HN,HE,HHS,HXR⟩:=hrel
    have HK:=Lib.hid hk
    have hkn:k≤ands.length:=by omega
    have hsl:=HHS.out
    clear hk
    by_cases hlt:k<ands.length
    ·obtain ⟨b1,o,x,y,z,hA,he,cx,cy,cz,hx,hy,hz⟩:=(HH.out.keep HXR.out.fr).g.one HGR.out hlt
     try simp only at hA he
     subst hA
     have hyr:=HNX.out k hlt
     try simp only at hyr
     rw [he.out] at hyr
     try simp only at hyr
     have HLE:=Lib.hid (gatU_next b ands k hlt)
     obtain ⟨tg,htg⟩:∃u,litT b x=u:=⟨_,rfl⟩
     obtain ⟨tl,htl⟩:∃u,litT b y=u:=⟨_,rfl⟩
     obtain ⟨tr,htr⟩:∃u,litT b z=u:=⟨_,rfl⟩
     have HF1:Hid (gat1 b ands[k]! =[[-tg,tl],[-tg,tr],[tg,-tl,-tr]]):=by
      show _=_
      unfold gat1
      rw [he.out]
      simp only [htg,htl,htr]
     have hgr:=HLT.out x (by omega)
     have hlr:=HLT.out y (by omega)
     have hrr:=HLT.out z (by omega)
     rw [htg] at hgr
     rw [htl] at hlr
     rw [htr] at hrr
     have KX:=fun W=>KT.out W x (by omega)
     simp only [htg] at KX
     have KX:=Lib.hid KX
     have KY:=fun W=>KT.out W y (by omega)
     simp only [htl] at KY
     have KY:=Lib.hid KY
     have KZ:=fun W=>KT.out W z (by omega)
     simp only [htr] at KZ
     have KZ:=Lib.hid KZ
     clear htg htl htr
     go_upto_region 15 with fail
     obtain ⟨wx,hwx⟩:∃W,wr.alloc (.cells #[.int .i64 x, .int .i64 y, .int .i64 z] 93)=W:=⟨_,rfl⟩
     have hxa:At wx wr.heap.size 93 #[.int .i64 x, .int .i64 y, .int .i64 z]:=hwx▸At.new _ _ _
     have HFX:Hid (Fr [] wr wx):=hwx▸box_fr' _ _
     have f0:=hxa.cell 0
     have f1:=hxa.cell 1
     have f2:=hxa.cell 2
     simp at f0 f1 f2
     have g0:=Ext.cell f0
     have g1:=Ext.cell f1
     have g2:=Ext.cell f2
     have hw2:IntKind.i64.wrap (-tg)= -tg:=IntWalk.i64_in _ (by omega)
     have hw3:IntKind.i64.wrap (-tl)= -tl:=IntWalk.i64_in _ (by omega)
     have hw4:IntKind.i64.wrap (-tr)= -tr:=IntWalk.i64_in _ (by omega)
     rw [hwx]
     clear hwx hxa cx cy cz f0 f1 f2
     refine wp_region_ext (by kernel_rfl) (by kernel_rfl) ?_
     repeat (go_big_quiet_step (first |with_reducible exact call_same (KX.out _) |with_reducible exact call_same (KY.out _) |with_reducible exact call_same (KZ.out _)))
     refine wpQuiet_nil ?_
     rintro w3 ⟨u2,hu2⟩
     have HF_w3:Hid (Fr [] wx w3):=hu2▸u2.fr
     clear hu2 u2
     have HF3:=Lib.hid (HFX.out.then_ HF_w3.out)
     clear g0 g1 g2 KX KY KZ HF_w3
     obtain ⟨y1,hy1⟩:∃W,w3.alloc (.cells #[.int .i64 (-tg), .int .i64 tl] 3)=W:=⟨_,rfl⟩
     obtain ⟨y2,hy2⟩:∃W,y1.alloc (.cells #[.int .i64 (-tg), .int .i64 tr] 3)=W:=⟨_,rfl⟩
     obtain ⟨y3,hy3⟩:∃W,y2.alloc (.cells #[.int .i64 tg, .int .i64 (-tl), .int .i64 (-tr)] 3)=W:=⟨_,rfl⟩
     obtain ⟨wb,hwb⟩:∃W,y3.alloc (.cells #[.slice (some ⟨w3.heap.size,0,none⟩) 2 2, .slice (some ⟨y1.heap.size,0,none⟩) 2 2, .slice (some ⟨y2.heap.size,0,none⟩) 3 3] 22)=W:=⟨_,rfl⟩
     have HL1:Hid (Ints wb (some ⟨w3.heap.size,0,none⟩) 2 [-tg,tl]):=hwb▸(hy3▸(hy2▸(hy1▸row_new w3 [-tg,tl] (by simp [maxLen]):Ints y1 _ _ _).alloc _:Ints y2 _ _ _).alloc _:Ints y3 _ _ _).alloc _
     have HL2:Hid (Ints wb (some ⟨y1.heap.size,0,none⟩) 2 [-tg,tr]):=hwb▸(hy3▸(hy2▸row_new y1 [-tg,tr] (by simp [maxLen]):Ints y2 _ _ _).alloc _:Ints y3 _ _ _).alloc _
     have HL3:Hid (Ints wb (some ⟨y2.heap.size,0,none⟩) 3 [tg,-tl,-tr]):=hwb▸(hy3▸row_new y2 [tg,-tl,-tr] (by simp [maxLen]):Ints y3 _ _ _).alloc _
     have hya:Fr [] w3 y1:=hy1▸box_fr' _ _
     have hyb:Fr [] y1 y2:=hy2▸box_fr' _ _
     have hyc:Fr [] y2 y3:=hy3▸box_fr' _ _
     have hyd:Fr [] y3 wb:=hwb▸box_fr' _ _
     have HFB:=Lib.hid (((hya.then_ hyb).then_ hyc).then_ hyd)
     have HAT:Hid (At wb y3.heap.size 22 #[.slice (some ⟨w3.heap.size,0,none⟩) 2 2, .slice (some ⟨y1.heap.size,0,none⟩) 2 2, .slice (some ⟨y2.heap.size,0,none⟩) 3 3]):=hwb▸At.new _ _ _
     have HWS:Hid (w.heap.size+1≤w3.heap.size):=(Nat.le_trans HXR.out.bx.lt HF3.out.size:w.heap.size+1≤w3.heap.size)
     have HW1:Hid (w.heap.size+1≤y1.heap.size):=Nat.le_trans HWS.out hya.size
     have HW2:Hid (w.heap.size+1≤y2.heap.size):=Nat.le_trans HW1.out hyb.size
     have HXB:=Lib.hid ((HXR.out.keep HF3.out).keep HFB.out)
     have HRN:Hid (R64 tg∧R64 tl∧R64 tr∧R64 (-tg)∧R64 (-tl)∧R64 (-tr)):=(by unfold R64;omega:R64 tg∧R64 tl∧R64 tr∧R64 (-tg)∧R64 (-tl)∧R64 (-tr))
     have hq1:w3.heap.size+1=y1.heap.size:=by rw [←hy1];simp
     have hq2:y1.heap.size+1=y2.heap.size:=by rw [←hy2];simp
     have hq3:y2.heap.size+1=y3.heap.size:=by rw [←hy3];simp
     clear hya hyb hyc hyd hgr hlr hrr
     go_wp2_with (at_builtin;(refine wpList_pushU _ rfl _ _ rfl A' c' hs (HN.out.keep HF3.out) HFB.out (Nat.le_trans HWS.out HFB.out.size) hs.length rfl rfl ⟨y3.heap.size,0,none⟩ 3 3 [⟨some ⟨w3.heap.size,0,none⟩,2,[-tg,tl]⟩,⟨some ⟨y1.heap.size,0,none⟩,2,[-tg,tr]⟩,⟨some ⟨y2.heap.size,0,none⟩,3,[tg,-tl,-tr]⟩] rfl rfl (fun j hj=>by (have :j=0∨j=1∨j=2:=by simp at hj;omega);rcases this with rfl |rfl |rfl <;>(rw [addr_add,HAT.out.cell];rfl)) (fun h hh=>by (have hh2:=hh;simp only [List.mem_cons,List.not_mem_nil,or_false] at hh2);obtain ⟨r1,r2,r3,r4,r5,r6⟩:=HRN.out;rcases hh2 with rfl |rfl |rfl;(exact ⟨HL1.out,ra2U r4 r2,by simp,fun k hk=>by simp [blks] at hk;subst hk;exact HWS.out⟩);(exact ⟨HL2.out,ra2U r4 r3,by simp,fun k hk=>by simp [blks] at hk;subst hk;exact HW1.out⟩);(exact ⟨HL3.out,ra3U r1 r5 r6,by simp,fun k hk=>by simp [blks] at hk;subst hk;exact HW2.out⟩)) (by simp;omega) ?_;intro A4 c4 w4 hn4 hf4;have HN4:=Lib.hid hn4;have HX4:=Lib.hid (HXB.out.push hf4 (HN.out.lt (Nat.lt_succ_self _)));clear hn4 hf4))
     clear hwb
     go_roundg (gk-1)
     case measure=>have :=HK.out;omega
     case rel=>exact ⟨k+1,A4,c4,hs++[(⟨some ⟨w3.heap.size,0,none⟩,2,[-tg,tl]⟩:Ls),(⟨some ⟨y1.heap.size,0,none⟩,2,[-tg,tr]⟩:Ls),(⟨some ⟨y2.heap.size,0,none⟩,3,[tg,-tl,-tr]⟩:Ls)],by have :=HK.out;omega,by simp,by go_num,HN4.out,(by rw [List.map_append,HE.out,HLE.out,HF1.out,List.append_assoc];rfl :_=_),(by have h9:hs.length≤2049+3*k:=HHS.out;show _≤_;rw [List.length_append];show hs.length+3≤2049+3*(k+1);omega),HX4.out⟩
    ·obtain rfl :k=ands.length:=by omega
     clear HK
     go_wp2_with fail
     go_ret2
     exact ⟨A',c',hs,rfl,HN.out.low (by omega),by rw [HE.out,HGA.out],HXR.out.fr⟩
theorem valid_inv {C:Pc} (hv:Valid C):∀x∈C.invs,0≤x∧x≤4097:=by
 intro x hx
 have h:=hv.v
 simp only [allB,Bool.and_eq_true,List.all_eq_true] at h
 have :=valid_lit hv (h.1 x hx)
 have :=hv.m1
 omega
theorem valid_il {C:Pc} (hv:Valid C):C.invs.length≤64:=by
 have h:=hv.v
 simp only [allB,Bool.and_eq_true,decide_eq_true_eq] at h
 omega
def Fine (l:List Int):Prop:=l.length≤1024∧∀x∈l,0≤x∧x≤4097
def forceU (C:Pc) (am:List (List Int)) (b:Int):List (List Int):=C.invs.map (fun x=>[litT b x])++am.map (fun l=>l.map (litT b))
theorem forceU_len (C:Pc) (am:List (List Int)) (b:Int):(forceU C am b).length=C.invs.length+am.length:=by simp [forceU]
theorem map_nextT {α β:Type} [Inhabited α] (f:α→β) {l:List α} {k:Nat} (h:k<l.length):(l.take (k+1)).map f=(l.take k).map f++[f l[k]!]:=map_next f h
theorem tforce_calls (w:World) (H:Hd) (C:Pc) (h:CiAt w H C) (hv:Valid C) (A:Option Addr) (c:Nat) (am:List Ls) (hr:RdL w A am) (hf:∀x∈am,Fine x.l) (ha:am.length≤64) (b:Int) (hb:0≤b∧b≤262144):
  Calls Tryz.prog 70 #[cval H C, .slice A am.length c, .int .i64 b] w fun e w'=>∃A c hs,e= .returned (.tuple #[.slice A hs.length c, .int .i64 0])∧NwLs w' w.heap.size A c hs∧hs.map (·.l)=forceU C (am.map (·.l)) b∧Fr [] w w':=by
 have HX:=Lib.hid (Cx.start w H C)
 have KR:=Lib.hid (tright_calls _ H C (h.keep HX.out.fr) hv b hb)
 have KT:=Lib.hid (fun W x (hx:0≤x∧x≤4097)=>litT_calls W b x (by omega) (by omega))
 have KC:=Lib.hid (fun W A c l hr hx hl=>tclause_calls W b hb A c l hr hx hl)
 have HLT:=Lib.hid (fun x (hx:0≤x∧x≤4097)=>litT_rng (b:=b) (l:=x) (by omega) hx)
 have HNX:=Lib.hid (valid_inv hv)
 have hil:=valid_il hv
 have HH:=Lib.hid h
 have HVR:=Lib.hid h.vr
 have HR:=Lib.hid hr
 have HFN:=Lib.hid hf
 have HFO:Hid (forceU C (am.map (·.l)) b=C.invs.map (fun x=>[litT b x])++(am.map (·.l)).map (fun l=>l.map (litT b))):=(rfl :_=_)
 clear h hv hr hf
 obtain ⟨mx,ins,lat,outs,bads,invs,ands,nms⟩:=C
 obtain ⟨iA,iC,lA,lC,oA,oC,bA,bC,vA,vC,gA,gC,nA,nC⟩:=H
 simp only [cval,cvs] at *
 obtain ⟨c0,c1,c2,c3,c4,c5,c6,c7⟩:=HX.out.cells
 try simp only at c0 c1 c2 c3 c4 c5 c6 c7
 go_enter Tryz.func70,Tryz.ntmps70
 go_wp2_with fail
 refine KR.out.mono ?_
 rintro e w1 ⟨rfl,hf1⟩
 have HX1:=Lib.hid (HX.out.keep hf1)
 obtain ⟨e0,e1,e2,e3,e4,e5,e6,e7⟩:=HX1.out.cells
 try simp only at e0 e1 e2 e3 e4 e5 e6 e7
 clear hf1 c0 c1 c2 c3 c4 c5 c6 c7 KR HX
 go_wp2_with fail
 clear e0 e1 e2 e3 e4 e5 e6 e7
 go_loopg [10,25] invs.length (fun gk x10 x25 wr=>∃(k:Nat) (A':Option Addr) (c':Nat) (hs:List Ls),k+gk=invs.length∧x10= .slice A' hs.length c'∧x25= .int .i64 k∧Hid (NwLs wr (w.heap.size+1) A' c' hs)∧Hid (hs.map (·.l)=(invs.take k).map (fun x=>[litT b x]))∧Hid (Cx w wr ⟨iA,iC,lA,lC,oA,oC,bA,bC,vA,vC,gA,gC,nA,nC⟩ ⟨mx,ins,lat,outs,bads,invs,ands,nms⟩))
 case atStart=>exact ⟨0,none,0,[],by omega,rfl,rfl,NwLs.nil _ _,rfl,HX1.out⟩
 case round=>
  obtain ⟨k,A',c',hs,hk,rfl,rfl,HN,HE,HXR⟩:=hrel
  have HK:=Lib.hid hk
  have hkn:k≤invs.length:=by omega
  have hsl:hs.length≤k:=by
   have :=HN.out.len_le HE.out
   rw [List.length_map,List.length_take] at this
   omega
  clear hk HX1
  by_cases hlt:k<invs.length
  ·obtain ⟨ab,o,x,hA,he,cx,hx1,hx2⟩:=(HH.out.keep HXR.out.fr).v.one HVR.out hlt
   try simp only at hA he
   subst hA
   have HMX:=Lib.hid (map_nextT (fun x:Int=>[litT b x]) hlt)
   rw [he.out] at HMX
   have hxr:=HNX.out x (by rw [←he.out];exact mem_get hlt)
   obtain ⟨v,hv2⟩:∃v,litT b x=v:=⟨_,rfl⟩
   have hvr:=HLT.out x (by omega)
   have KX:=KT.out wr x (by omega)
   rw [hv2] at KX hvr HMX
   have KX:=Lib.hid KX
   have HVR2:=Lib.hid hvr
   clear hv2 hvr
   obtain ⟨wb,hwb⟩:∃W,(wr.alloc (.cells #[.int .i64 v] 3)).alloc (.cells #[.slice (some ⟨wr.heap.size,0,none⟩) 1 1] 22)=W:=⟨_,rfl⟩
   have HL1:Hid (Ints wb (some ⟨wr.heap.size,0,none⟩) 1 [v]):=hwb▸(row_new wr [v] (by simp [maxLen])).alloc _
   have HFB:Hid (Fr [] wr wb):=hwb▸((box_fr' _ _).then_ (box_fr' _ _))
   have hcb:wb.cell? ⟨wr.heap.size+1,0,none⟩=some (.slice (some ⟨wr.heap.size,0,none⟩) 1 1):=by
    have :=(At.new (wr.alloc (.cells #[.int .i64 v] 3)) 22 #[.slice (some ⟨wr.heap.size,0,none⟩) 1 1]).cell 0
    rw [hwb] at this
    simpa using this
   have HCB:=Lib.hid hcb
   have HWS:Hid (w.heap.size+1≤wr.heap.size):=(HXR.out.bx.lt:w.heap.size+1≤wr.heap.size)
   have HXB:=Lib.hid (HXR.out.keep HFB.out)
   clear hcb
   go_wp2_with fail
   refine KX.out.mono ?_
   rintro e w3 ⟨rfl,rfl⟩
   go_wp2_with (at_builtin;(refine wpList_pushU _ rfl _ _ rfl A' c' hs HN.out HFB.out (Nat.le_trans HWS.out HFB.out.size) hs.length rfl rfl ⟨wr.heap.size+1,0,none⟩ 1 1 [⟨some ⟨wr.heap.size,0,none⟩,1,[v]⟩] rfl rfl (fun j hj=>by (have :j=0:=by simpa using hj);subst this;rw [addr_add];exact HCB.out) (fun h hh=>by (have :=List.mem_singleton.1 hh);subst this;exact ⟨HL1.out,ra1U ⟨by have :=HVR2.out;omega,by have :=HVR2.out;omega⟩,by simp,fun k hk=>by simp [blks] at hk;subst hk;exact HWS.out⟩) (by simp;omega) ?_;intro A4 c4 w4 hn4 hf4;have HN4:=Lib.hid hn4;have HX4:=Lib.hid (HXB.out.push hf4 (HN.out.lt (Nat.lt_succ_self _)));clear hn4 hf4))
   clear hwb
   go_roundg (gk-1)
   case measure=>have :=HK.out;omega
   case rel=>exact ⟨k+1,A4,c4,hs++[(⟨some ⟨wr.heap.size,0,none⟩,1,[v]⟩:Ls)],by have :=HK.out;omega,by simp,by go_num,HN4.out,(by rw [List.map_append,HE.out,HMX.out];rfl :_=_),HX4.out⟩
  ·obtain rfl :k=invs.length:=by omega
   obtain ⟨d0,d1,d2,d3,d4,d5,d6,d7⟩:=HXR.out.cells
   try simp only at d0 d1 d2 d3 d4 d5 d6 d7
   rw [List.take_length] at HE
   obtain ⟨U,hU⟩:∃U,invs.map (fun x=>[litT b x])=U:=⟨_,rfl⟩
   have hul:U.length≤64:=by rw [←hU,List.length_map];exact hil
   rw [hU] at HE
   try simp only at HFO
   rw [hU] at HFO
   clear HK hU hsl
   go_wp2_with fail
   clear d0 d1 d2 d3 d4 d5 d6 d7
   go_loopg [10,39] am.length (fun gk x10 x39 wr=>∃(k:Nat) (A':Option Addr) (c':Nat) (hs:List Ls),k+gk=am.length∧x10= .slice A' hs.length c'∧x39= .int .i64 k∧Hid (NwLs wr (w.heap.size+1) A' c' hs)∧Hid (hs.map (·.l)=U++((am.map (·.l)).take k).map (fun l=>l.map (litT b)))∧Hid (Cx w wr ⟨iA,iC,lA,lC,oA,oC,bA,bC,vA,vC,gA,gC,nA,nC⟩ ⟨mx,ins,lat,outs,bads,invs,ands,nms⟩))
   case atStart=>exact ⟨0,A',c',hs,by omega,rfl,rfl,HN.out,(by rw [HE.out];simp :_=_),HXR.out⟩
   case round=>
    clear HN HE HXR
    obtain ⟨k,A',c',hs,hk,rfl,rfl,HN,HE,HXR⟩:=hrel
    have HK:=Lib.hid hk
    have hkn:k≤am.length:=by omega
    have hsl:hs.length≤64+k:=by
     have :=HN.out.len_le HE.out
     rw [List.length_append,List.length_map,List.length_take,List.length_map] at this
     omega
    clear hk
    by_cases hlt:k<am.length
    ·obtain ⟨ab,o,B1,d1,l1,hA,he,hc1,hokl⟩:=(HR.out.keep HXR.out.fr).one hlt
     subst hA
     have HOK:=Lib.hid hokl
     have hml:k<(am.map (·.l)).length:=by rw [List.length_map];exact hlt
     have HMX:=Lib.hid (map_nextT (fun l:List Int=>l.map (litT b)) hml)
     have hge:(am.map (·.l))[k]! =l1:=by
      have :=he.out
      rw [List.getElem!_eq_getElem?_getD,List.getElem?_eq_getElem hlt] at this
      simp only [Option.getD_some] at this
      rw [List.getElem!_eq_getElem?_getD,List.getElem?_map,List.getElem?_eq_getElem hlt]
      simp [this]
     rw [hge] at HMX
     have hfn:Fine l1:=by
      have :=HFN.out (am[k]!) (mem_get hlt)
      rw [he.out] at this
      exact this
     have hl1:l1.length≤1024:=hfn.1
     have HFL:=Lib.hid hfn
     have KCX:=Lib.hid (KC.out wr B1 d1 l1 hokl.1 hfn.2 (by have :=hfn.1;omega))
     clear hml hge hokl hfn
     go_wp2_with fail
     refine KCX.out.mono ?_
     rintro e w3 ⟨B2,d2,rfl,hi2,hn2,hf2⟩
     have HI2:=Lib.hid hi2
     have HN2:=Lib.hid hn2
     have HF2:=Lib.hid hf2
     clear hi2 hn2 hf2 KCX
     obtain ⟨wb,hwb⟩:∃W,w3.alloc (.cells #[.slice B2 l1.length d2] 22)=W:=⟨_,rfl⟩
     have HFB:Hid (Fr [] w3 wb):=hwb▸box_fr' _ _
     have HL1:=Lib.hid (HI2.out.fr HFB.out (fun _ _ hm=>by cases hm))
     have hcb:wb.cell? ⟨w3.heap.size,0,none⟩=some (.slice B2 l1.length d2):=by
      have :=(At.new w3 22 #[.slice B2 l1.length d2]).cell 0
      rw [hwb] at this
      simpa using this
     have HCB:=Lib.hid hcb
     have HWS:Hid (w.heap.size+1≤wr.heap.size):=(HXR.out.bx.lt:w.heap.size+1≤wr.heap.size)
     have HXB:=Lib.hid ((HXR.out.keep HF2.out).keep HFB.out)
     have HLL:Hid ((l1.map (litT b)).length=l1.length):=(List.length_map .. :_=_)
     have HRA2:Hid (Ra (l1.map (litT b))):=(mem_idx (p:=R64)).2 fun x hx=>by
      obtain ⟨y,hy,rfl⟩:=List.mem_map.1 hx
      have :=HLT.out y (HFL.out.2 y hy)
      exact ⟨by omega,by omega⟩
     clear hcb
     go_wp2_with (at_builtin;(refine wpList_pushU _ rfl _ _ rfl A' c' hs (HN.out.keep HF2.out) HFB.out (Nat.le_trans HWS.out (Nat.le_trans HF2.out.size HFB.out.size)) hs.length rfl rfl ⟨w3.heap.size,0,none⟩ 1 1 [⟨B2,d2,l1.map (litT b)⟩] rfl rfl (fun j hj=>by (have :j=0:=by simpa using hj);subst this;rw [addr_add];show _=some (Value.slice B2 (l1.map (litT b)).length d2);rw [HLL.out];exact HCB.out) (fun h hh=>by (have :=List.mem_singleton.1 hh);subst this;exact ⟨HL1.out,HRA2.out,by show (l1.map (litT b)).length≤_;rw [HLL.out];omega,fun k hk=>Nat.le_trans HWS.out (HN2.out k hk)⟩) (by simp;omega) ?_;intro A4 c4 w4 hn4 hf4;have HN4:=Lib.hid hn4;have HX4:=Lib.hid (HXB.out.push hf4 (HN.out.lt (Nat.lt_succ_self _)));clear hn4 hf4))
     clear hwb
     go_roundg (gk-1)
     case measure=>have :=HK.out;omega
     case rel=>exact ⟨k+1,A4,c4,hs++[(⟨B2,d2,l1.map (litT b)⟩:Ls)],by have :=HK.out;omega,by simp,by go_num,HN4.out,(by rw [List.map_append,HE.out,HMX.out,List.append_assoc];rfl :_=_),HX4.out⟩
    ·obtain rfl :k=am.length:=by omega
     have HE2:Hid (hs.map (·.l)=U++(am.map (·.l)).map (fun l=>l.map (litT b))):=by
      have :=HE.out
      rw [List.take_of_length_le (by rw [List.length_map];exact Nat.le_refl _)] at this
      exact this
     clear HK HE
     go_wp2_with fail
     go_ret2
     exact ⟨A',c',hs,rfl,HN.out.low (by omega),by rw [HE2.out,HFO.out],HXR.out.fr⟩
end Go.Proofs.YtjmmpfjcpdepjaaGreatDoor
