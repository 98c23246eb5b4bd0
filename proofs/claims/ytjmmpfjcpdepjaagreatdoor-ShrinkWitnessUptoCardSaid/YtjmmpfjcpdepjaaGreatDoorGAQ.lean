/- Parts of a proof. -/
import Derived.Test.YtjmmpfjcpdepjaaGreatDoorGAP
set_option linter.unusedVariables false
set_option linter.unusedSimpArgs false
set_option maxHeartbeats 16000000
set_option maxRecDepth 100000
namespace Go.Proofs.YtjmmpfjcpdepjaaGreatDoor
open Go.RowKit Go.Shelf
def tvs (H:Qh) (q:Qn) (b:Int) (s:Value) (A:Option Addr) (n c:Nat):Array Value:=
 #[.int .i64 q.C.mx, .slice H.H.iA q.C.ins.length H.H.iC, .slice H.H.lA q.C.lat.length H.H.lC, .slice H.H.oA q.C.outs.length H.H.oC, .slice H.H.bA q.C.bads.length H.H.bC, .slice H.H.vA q.C.invs.length H.H.vC, .slice H.H.gA q.C.ands.length H.H.gC, .slice H.H.nA q.C.nms.length H.H.nC,
  .slice H.aA q.am.length H.aC, .slice H.lA q.ls.length H.lC, .slice H.kA q.ks.length H.kC, .int .i64 q.bad, .int .i64 q.dep, .int .i64 q.bud, .int .i64 b,s, .slice A n c]
theorem tbx_cells {w:World} {g:Nat} {H:Qh} {q:Qn} {b:Int} {s:Value} {A:Option Addr} {n c:Nat} (h:At w g 69 (tvs H q b s A n c)):
  (w.cell? ⟨g,0,none⟩=some (.int .i64 q.C.mx)∧w.cell? ⟨g,1,none⟩=some (.slice H.H.iA q.C.ins.length H.H.iC)∧w.cell? ⟨g,2,none⟩=some (.slice H.H.lA q.C.lat.length H.H.lC)∧w.cell? ⟨g,3,none⟩=some (.slice H.H.oA q.C.outs.length H.H.oC)∧
  w.cell? ⟨g,4,none⟩=some (.slice H.H.bA q.C.bads.length H.H.bC)∧w.cell? ⟨g,5,none⟩=some (.slice H.H.vA q.C.invs.length H.H.vC)∧w.cell? ⟨g,6,none⟩=some (.slice H.H.gA q.C.ands.length H.H.gC)∧w.cell? ⟨g,7,none⟩=some (.slice H.H.nA q.C.nms.length H.H.nC))∧
  w.cell? ⟨g,8,none⟩=some (.slice H.aA q.am.length H.aC)∧w.cell? ⟨g,9,none⟩=some (.slice H.lA q.ls.length H.lC)∧w.cell? ⟨g,10,none⟩=some (.slice H.kA q.ks.length H.kC)∧
  w.cell? ⟨g,11,none⟩=some (.int .i64 q.bad)∧w.cell? ⟨g,12,none⟩=some (.int .i64 q.dep)∧w.cell? ⟨g,13,none⟩=some (.int .i64 q.bud)∧w.cell? ⟨g,14,none⟩=some (.int .i64 b)∧w.cell? ⟨g,15,none⟩=some s∧w.cell? ⟨g,16,none⟩=some (.slice A n c):=by
 refine ⟨⟨?_,?_,?_,?_,?_,?_,?_,?_⟩,?_,?_,?_,?_,?_,?_,?_,?_,?_⟩<;>(rw [h.cell];rfl)
noncomputable def rgt (q:Qn) (b:Int) (st:List UInt8) (il:List (List UInt8)):Bool:=witI q b st il==0
theorem tright_calls2 (w:World) (g:Nat) (H:Qh) (q:Qn) (h:QuAt w H q) (b:Int) (st:List UInt8) (hst:st.length≤maxLen) (A:Option Addr) (c:Nat) (il:List (List UInt8)) (hr:RdS w A il) (hil:∀s∈il,s.length≤maxLen) (hl:il.length≤1048576) (hat:At w g 69 (tvs H q b (sv st) A il.length c)):
  Calls Tryz.prog 60 #[.pointer (some ⟨g,0,none⟩)] w fun e w'=>e= .returned (.bool (rgt q b st il))∧Fr [] w w':=by
 have KW:=Lib.hid (fun W (hW:Fr [] w W)=>cwit_calls W H q (h.keep hW) b st hst A c il (hr.keep hW) hil hl)
 have HC:=Lib.hid (tbx_cells hat)
 unfold rgt
 obtain ⟨R,hR⟩:∃R,witI q b st il=R:=⟨_,rfl⟩
 simp only [hR] at KW⊢
 clear h hst hr hil hat hR
 unfold wvs at KW
 obtain ⟨s,hs⟩:∃s,sv st=s:=⟨_,rfl⟩
 rw [hs] at HC
 simp only [hs] at KW
 simp only [qval,qvs] at KW
 clear hs
 obtain ⟨⟨q0,q1,q2,q3,q4,q5,q6,q7⟩,q8,q9,q10,q11,q12,q13,q14,q15,q16⟩:=HC.out
 have e0:=Ext.cell q0
 have e1:=Ext.cell q1
 have e2:=Ext.cell q2
 have e3:=Ext.cell q3
 have e4:=Ext.cell q4
 have e5:=Ext.cell q5
 have e6:=Ext.cell q6
 have e7:=Ext.cell q7
 have e8:=Ext.cell q8
 have e9:=Ext.cell q9
 have e10:=Ext.cell q10
 have e11:=Ext.cell q11
 have e12:=Ext.cell q12
 have e13:=Ext.cell q13
 have e14:=Ext.cell q14
 have e15:=Ext.cell q15
 have e16:=Ext.cell q16
 clear q0 q1 q2 q3 q4 q5 q6 q7 q8 q9 q10 q11 q12 q13 q14 q15 q16 HC
 go_enter Tryz.func60,Tryz.ntmps60
 go_upto_region 1 with fail
 refine wp_region_ext (by kernel_rfl) (by kernel_rfl) ?_
 repeat (go_big_quiet_step (exact call_ext (KW.out _ (Ext.fr _))))
 refine wpQuiet_nil ?_
 rintro w2 ⟨u2,hu2⟩
 have HF_w2:Hid (Fr [] w w2):=hu2▸u2.fr
 clear hu2 u2
 go_wp2_with fail
 go_ret
 exact ⟨rfl,HF_w2.out⟩
theorem under_calls (w:World) (a b:List UInt8) (h:Wp.Und a b) (hl:a.length≤1048576):
  Calls Tryz.prog 15 #[sv a,sv b] w fun e w'=>e= .returned (.bool true)∧Fr [] w w':=by
 obtain ⟨Za,hza⟩:∃Z:ByteArray,(⟨a.toArray⟩:ByteArray)=Z:=⟨_,rfl⟩
 obtain ⟨Zb,hzb⟩:∃Z:ByteArray,(⟨b.toArray⟩:ByteArray)=Z:=⟨_,rfl⟩
 have hsa:Za.size=a.length:=by rw [←hza];simp [ByteArray.size]
 have hsb:Zb.size=b.length:=by rw [←hzb];simp [ByteArray.size]
 have HV:Hid (∀(k:Nat) (h1:k<Za.size) (h2:k<Zb.size),Za[k]=Zb[k]∨Za[k]=48):=fun k h1 h2=>by
  have h3:=h.2 k
  have g1:k<a.length:=by omega
  have g2:k<b.length:=by omega
  subst hza
  subst hzb
  have e1:(⟨a.toArray⟩:ByteArray)[k]=a[k]'g1:=rfl
  have e2:(⟨b.toArray⟩:ByteArray)[k]=b[k]'g2:=rfl
  rw [e1,e2]
  rw [List.getElem!_eq_getElem?_getD,List.getElem!_eq_getElem?_getD,List.getElem?_eq_getElem g1,List.getElem?_eq_getElem g2,Option.getD_some,Option.getD_some] at h3
  exact h3
 unfold sv
 rw [hza,hzb]
 obtain ⟨n,hn⟩:∃n,Za.size=n:=⟨_,rfl⟩
 have hnb:Zb.size=n:=by rw [←hn,hsa,hsb];exact h.1.symm
 have hn1:n≤1048576:=by omega
 have t0:((n:Int)==(n:Int))=true:=by simp
 clear h hl hza hzb hsa hsb
 go_enter Tryz.func15,Tryz.ntmps15
 go_wp2_with fail
 go_loopg [5] n (fun g x5 wr=>∃k:Nat,k+g=n∧x5= .int .i64 k∧Hid (Fr [] w wr))
 case atStart=>exact ⟨0,by omega,rfl,Fr.refl _ w⟩
 case round=>
  obtain ⟨k,hk,rfl,HX⟩:=hrel
  have HK:=Lib.hid hk
  have hkn:k≤n:=by omega
  clear hk
  by_cases hlt:k<n
  ·have hlt2:(k:Int)<(n:Int):=by omega
   have h1:k<Za.size:=by omega
   have h2:k<Zb.size:=by omega
   have h1':(k:Int)<(Za.size:Int):=by omega
   have h2':(k:Int)<(Zb.size:Int):=by omega
   have hv:=HV.out k h1 h2
   by_cases he:Za[k]=Zb[k]
   ·have d0:(((Za[k]).toNat:Int)==((Zb[k]).toNat:Int))=true:=by rw [he];simp
    have d2:(((Za[k]).toNat:Int) !=((Zb[k]).toNat:Int))=false:=by rw [he];simp
    clear hv he
    go_upto_region 4 with fail
    refine wp_region_ext (by kernel_rfl) (by kernel_rfl) ?_
    repeat (go_big_quiet_step (fail))
    refine wpQuiet_nil ?_
    rintro w2 ⟨u2,hu2⟩
    have HF_w2:Hid (Fr [] wr w2):=hu2▸u2.fr
    clear hu2 u2
    have HX2:=Lib.hid (HX.out.then_ HF_w2.out)
    go_wp2_with fail
    go_roundg (gk-1)
    case measure=>have :=HK.out;omega
    case rel=>exact ⟨k+1,by have :=HK.out;omega,by go_num,HX2.out⟩
   ·have h48:=hv.resolve_left he
    have d0:(((Za[k]).toNat:Int)==((Zb[k]).toNat:Int))=false:=by
     rw [beq_eq_false_iff_ne]
     intro h
     exact he (UInt8.toNat_inj.1 (by omega))
    have d1:(((Za[k]).toNat:Int)==48)=true:=by rw [h48];rfl
    have d2:(((Za[k]).toNat:Int) !=((Zb[k]).toNat:Int))=true:=by rw [bne,d0];rfl
    have d3:(((Za[k]).toNat:Int) !=48)=false:=by rw [h48];rfl
    clear hv he h48
    go_upto_region 4 with fail
    refine wp_region_ext (by kernel_rfl) (by kernel_rfl) ?_
    repeat (go_big_quiet_step (fail))
    refine wpQuiet_nil ?_
    rintro w2 ⟨u2,hu2⟩
    have HF_w2:Hid (Fr [] wr w2):=hu2▸u2.fr
    clear hu2 u2
    have HX2:=Lib.hid (HX.out.then_ HF_w2.out)
    go_wp2_with fail
    go_roundg (gk-1)
    case measure=>have :=HK.out;omega
    case rel=>exact ⟨k+1,by have :=HK.out;omega,by go_num,HX2.out⟩
  ·obtain rfl :k=n:=by omega
   go_wp2_with fail
   go_ret
   exact ⟨rfl,HX.out⟩
/--What fewer needs of the world:a text lies at p;what right answers of it. -/
structure FewI (g:Nat) (p:Addr) (R:List UInt8→Bool) (n:Nat) (I:List UInt8→World→Prop):Prop where
  cell:∀s w,I s w→s.length=n→w.cell? p=some (sv s)∧w.frozen? p=false
  set:∀s s' w,I s w→s.length=n→s'.length=n→I s' (w.setCell p (sv s'))
  keep:∀s w w',I s w→Fr [] w w'→I s w'
  right:∀s w,I s w→s.length=n→Calls Tryz.prog 60 #[.pointer (some ⟨g,0,none⟩)] w fun e w'=>e= .returned (.bool (R s))∧Fr [] w w'
theorem sv_slice (s:List UInt8) (k:Nat) (h:k<s.length) (Z:ByteArray) (hz:(⟨s.toArray⟩:ByteArray)=Z):Value.string (Z.extract 0 k++⟨#[48]⟩++Z.extract (k+1) s.length)=sv (s.set k 48):=by
  subst hz
  unfold sv
  congr 1
  apply ByteArray.ext
  simp [List.set_eq_take_append_cons_drop,h,List.take_of_length_le]
theorem fewer_calls (w:World) (g:Nat) (p:Addr) (R:List UInt8→Bool) (n:Nat) (hn:n≤1048576) (I:List UInt8→World→Prop) (F:FewI g p R n I) (s:List UInt8) (hs:s.length=n) (hI:I s w):
    Calls Tryz.prog 31 #[.pointer (some ⟨g,0,none⟩), .pointer (some p)] w fun e w'=>e= .returned (.tuple #[])∧I (Wp.few R s n) w':=by
  have HF:=Lib.hid F
  have HI:=Lib.hid hI
  obtain ⟨c0,-⟩:=F.cell s w hI hs
  have HLN:Hid (∀k,(Wp.few R s k).length=n):=fun k=>by rw [Wp.few_len,hs]
  have hz:(⟨s.toArray⟩:ByteArray).size=n:=by rw [←hs];simp [ByteArray.size]
  unfold sv at c0
  obtain ⟨Z0,hZ0⟩:∃Z:ByteArray,(⟨s.toArray⟩:ByteArray)=Z:=⟨_,rfl⟩
  rw [hZ0] at c0 hz
  clear F hI hZ0
  go_enter Tryz.func31,Tryz.ntmps31
  go_wp2_with fail
  go_loopg [10] n (fun gg x10 wr=>∃k:Nat,k+gg=n∧x10= .int .i64 k∧Hid (I (Wp.few R s k) wr))
  case atStart=>exact ⟨0,by omega,rfl,HI⟩
  case round=>
    obtain ⟨k,hk,rfl,HX⟩:=hrel
    have HK:=Lib.hid hk
    have hkn:k≤n:=by omega
    clear hk HI c0
    by_cases hlt:k<n
    · have hlt2:(k:Int)<(n:Int):=by omega
      obtain ⟨cx,fx⟩:=HF.out.cell _ _ HX.out (HLN.out k)
      obtain ⟨t,ht⟩:∃t,Wp.few R s k=t:=⟨_,rfl⟩
      have htl:t.length=n:=by rw [←ht];exact HLN.out k
      have HST:Hid (Wp.few R s (k+1)=if t[k]! =48 then t else if R (t.set k 48) then t.set k 48 else t):=by
        show _=_
        rw [Wp.few,ht]
      rw [ht] at cx HX
      unfold sv at cx
      obtain ⟨Z,hZ⟩:∃Z:ByteArray,(⟨t.toArray⟩:ByteArray)=Z:=⟨_,rfl⟩
      have hzn:Z.size=n:=by rw [←hZ];simp [ByteArray.size,htl]
      have hkz:k<Z.size:=by omega
      have hkz2:(k:Int)<(Z.size:Int):=by omega
      have HE:Hid (Z[k]=t[k]!):=by
        show _=_
        subst hZ
        have e1:(⟨t.toArray⟩:ByteArray)[k]=t[k]'(by omega):=rfl
        rw [e1,List.getElem!_eq_getElem?_getD,List.getElem?_eq_getElem (by omega),Option.getD_some]
      have HSV:=Lib.hid (sv_slice t k (by omega) Z hZ)
      have HSZ:Hid (sv t= .string Z):=by
        show _=_
        unfold sv
        rw [hZ]
      rw [hZ] at cx
      by_cases h48:t[k]! =48
      · have d0:(((Z[k]).toNat:Int)==48)=true:=by rw [HE.out,h48];rfl
        rw [if_pos h48] at HST
        clear hZ ht h48
        go_wp2_with fail
        go_roundg (gk-1)
        case measure=>have :=HK.out;omega
        case rel=>exact ⟨k+1,by have :=HK.out;omega,by go_num,by rw [HST.out];exact HX⟩
      · have d0:(((Z[k]).toNat:Int)==48)=false:=by
          rw [beq_eq_false_iff_ne]
          intro h
          refine h48 (UInt8.toNat_inj.1 ?_)
          rw [←HE.out]
          have :(48:UInt8).toNat=48:=rfl
          omega
        rw [if_neg h48] at HST
        clear hZ ht h48
        have hc1:¬9223372036854775807<k+1:=by omega
        have hw1:IntKind.i64.wrap ((k:Int)+1)=(k:Int)+1:=IntWalk.i64_in _ (by omega)
        have hc2:¬9223372036854775807<n:=by omega
        have hk1:(k:Int)+1≤(n:Int):=by omega
        have hk2:k+1≤n:=by omega
        have hk0:0≤(k:Int)+1:=by omega
        go_upto_region 5 with fail
        refine wp_region_noPanic ?_
        refine wp_region_C (fun w':World=>Fr [] wr w') 11 (by kernel_rfl) ((Fr.refl _ wr).drew) (fun hT0=> ?_)
        refine wpAnyC_take0 (i:=0) (oi:= ?oir5u1) (v:= ?vr5u1) ?hir5u1 (by kernel_rfl) (by kernel_rfl) (by kernel_rfl) (by kernel_rfl) ?hQr5u1 ?hwr5u1 ?hyr5u1 hT0 ?_
        case hir5u1=>(simp only [List.getElem?_toArray,List.getElem?_cons_zero];rfl)
        case hQr5u1=>exact fun _ _ _ h=>h
        case hwr5u1=>rfl
        case hyr5u1=>(intro w;go_simp<;>with_reducible rfl)
        try simp only [Act.put,List.setIfInBounds_toArray,List.set_cons_zero,List.set_cons_succ]
        refine wpAnyC_take0 (i:=1) (oi:= ?oir5u2) (v:= ?vr5u2) ?hir5u2 (by kernel_rfl) (by kernel_rfl) (by kernel_rfl) (by kernel_rfl) ?hQr5u2 ?hwr5u2 ?hyr5u2 (hT0.more 0) ?_
        case hir5u2=>(simp only [List.getElem?_toArray,List.getElem?_cons_succ,List.getElem?_cons_zero];rfl)
        case hQr5u2=>exact fun _ _ _ h=>h
        case hwr5u2=>rfl
        case hyr5u2=>(intro w;go_simp<;>with_reducible rfl)
        try simp only [Act.put,List.setIfInBounds_toArray,List.set_cons_zero,List.set_cons_succ]
        refine wpAnyC_take0 (i:=2) (oi:= ?oir5u3) (v:= ?vr5u3) ?hir5u3 (by kernel_rfl) (by kernel_rfl) (by kernel_rfl) (by kernel_rfl) ?hQr5u3 ?hwr5u3 ?hyr5u3 ((hT0.more 0).more 1) ?_
        case hir5u3=>(simp only [List.getElem?_toArray,List.getElem?_cons_succ,List.getElem?_cons_zero];rfl)
        case hQr5u3=>exact fun _ _ _ h=>h
        case hwr5u3=>rfl
        case hyr5u3=>(intro w;go_simp<;>with_reducible rfl)
        try simp only [Act.put,List.setIfInBounds_toArray,List.set_cons_zero,List.set_cons_succ]
        refine wpAnyC_take0 (i:=3) (oi:= ?oir5u4) (v:= ?vr5u4) ?hir5u4 (by kernel_rfl) (by kernel_rfl) (by kernel_rfl) (by kernel_rfl) ?hQr5u4 ?hwr5u4 ?hyr5u4 (((hT0.more 0).more 1).more 2) ?_
        case hir5u4=>(simp only [List.getElem?_toArray,List.getElem?_cons_succ,List.getElem?_cons_zero];rfl)
        case hQr5u4=>exact fun _ _ _ h=>h
        case hwr5u4=>rfl
        case hyr5u4=>(intro w;go_simp<;>with_reducible rfl)
        try simp only [Act.put,List.setIfInBounds_toArray,List.set_cons_zero,List.set_cons_succ]
        refine wpAnyC_take0 (i:=4) (oi:= ?oir5u5) (v:= ?vr5u5) ?hir5u5 (by kernel_rfl) (by kernel_rfl) (by kernel_rfl) (by kernel_rfl) ?hQr5u5 ?hwr5u5 ?hyr5u5 ((((hT0.more 0).more 1).more 2).more 3) ?_
        case hir5u5=>(simp only [List.getElem?_toArray,List.getElem?_cons_succ,List.getElem?_cons_zero];rfl)
        case hQr5u5=>exact fun _ _ _ h=>h
        case hwr5u5=>rfl
        case hyr5u5=>(intro w;go_simp<;>with_reducible rfl)
        try simp only [Act.put,List.setIfInBounds_toArray,List.set_cons_zero,List.set_cons_succ]
        refine wpAnyC_take0 (i:=5) (oi:= ?oir5u6) (v:= ?vr5u6) ?hir5u6 (by kernel_rfl) (by kernel_rfl) (by kernel_rfl) (by kernel_rfl) ?hQr5u6 ?hwr5u6 ?hyr5u6 (((((hT0.more 0).more 1).more 2).more 3).more 4) ?_
        case hir5u6=>(simp only [List.getElem?_toArray,List.getElem?_cons_succ,List.getElem?_cons_zero];rfl)
        case hQr5u6=>exact fun _ _ _ h=>h
        case hwr5u6=>rfl
        case hyr5u6=>(intro w;go_simp<;>with_reducible rfl)
        try simp only [Act.put,List.setIfInBounds_toArray,List.set_cons_zero,List.set_cons_succ]
        refine wpAnyC_take0 (i:=6) (oi:= ?oir5u7) (v:= ?vr5u7) ?hir5u7 (by kernel_rfl) (by kernel_rfl) (by kernel_rfl) (by kernel_rfl) ?hQr5u7 ?hwr5u7 ?hyr5u7 ((((((hT0.more 0).more 1).more 2).more 3).more 4).more 5) ?_
        case hir5u7=>(simp only [List.getElem?_toArray,List.getElem?_cons_succ,List.getElem?_cons_zero];rfl)
        case hQr5u7=>exact fun _ _ _ h=>h
        case hwr5u7=>rfl
        case hyr5u7=>(intro w;go_simp<;>with_reducible rfl)
        try simp only [Act.put,List.setIfInBounds_toArray,List.set_cons_zero,List.set_cons_succ]
        refine wpAnyC_take0 (i:=7) (oi:= ?oir5u8) (v:= ?vr5u8) ?hir5u8 (by kernel_rfl) (by kernel_rfl) (by kernel_rfl) (by kernel_rfl) ?hQr5u8 ?hwr5u8 ?hyr5u8 (((((((hT0.more 0).more 1).more 2).more 3).more 4).more 5).more 6) ?_
        case hir5u8=>(simp only [List.getElem?_toArray,List.getElem?_cons_succ,List.getElem?_cons_zero];rfl)
        case hQr5u8=>exact fun _ _ _ h=>h
        case hwr5u8=>rfl
        case hyr5u8=>(intro w;go_simp<;>with_reducible rfl)
        try simp only [Act.put,List.setIfInBounds_toArray,List.set_cons_zero,List.set_cons_succ]
        refine wpAnyC_take0 (i:=8) (oi:= ?oir5u9) (v:= ?vr5u9) ?hir5u9 (by kernel_rfl) (by kernel_rfl) (by kernel_rfl) (by kernel_rfl) ?hQr5u9 ?hwr5u9 ?hyr5u9 ((((((((hT0.more 0).more 1).more 2).more 3).more 4).more 5).more 6).more 7) ?_
        case hir5u9=>(simp only [List.getElem?_toArray,List.getElem?_cons_succ,List.getElem?_cons_zero];rfl)
        case hQr5u9=>exact fun _ _ _ h=>h
        case hwr5u9=>rfl
        case hyr5u9=>(intro w;go_simp<;>with_reducible rfl)
        try simp only [Act.put,List.setIfInBounds_toArray,List.set_cons_zero,List.set_cons_succ]
        refine wpAnyC_take0 (i:=9) (oi:= ?oir5u10) (v:= ?vr5u10) ?hir5u10 (by kernel_rfl) (by kernel_rfl) (by kernel_rfl) (by kernel_rfl) ?hQr5u10 ?hwr5u10 ?hyr5u10 (((((((((hT0.more 0).more 1).more 2).more 3).more 4).more 5).more 6).more 7).more 8) ?_
        case hir5u10=>(simp only [List.getElem?_toArray,List.getElem?_cons_succ,List.getElem?_cons_zero];rfl)
        case hQr5u10=>exact fun _ _ _ h=>h
        case hwr5u10=>rfl
        case hyr5u10=>(intro w;go_simp<;>with_reducible rfl)
        try simp only [Act.put,List.setIfInBounds_toArray,List.set_cons_zero,List.set_cons_succ]
        refine wpAnyC_take0 (i:=10) (oi:= ?oir5u11) (v:= ?vr5u11) ?hir5u11 (by kernel_rfl) (by kernel_rfl) (by kernel_rfl) (by kernel_rfl) ?hQr5u11 ?hwr5u11 ?hyr5u11 ((((((((((hT0.more 0).more 1).more 2).more 3).more 4).more 5).more 6).more 7).more 8).more 9) ?_
        case hir5u11=>(simp only [List.getElem?_toArray,List.getElem?_cons_succ,List.getElem?_cons_zero];rfl)
        case hQr5u11=>exact fun _ _ _ h=>h
        case hwr5u11=>rfl
        case hyr5u11=>(intro w;go_simp<;>with_reducible rfl)
        try simp only [Act.put,List.setIfInBounds_toArray,List.set_cons_zero,List.set_cons_succ]
        have hSx:=(((((((((((hT0.more 0).more 1).more 2).more 3).more 4).more 5).more 6).more 7).more 8).more 9).more 10).resolve_left (by decide)
        refine wpAnyC_ready (rs:=[11]) (by kernel_rfl) (by simp) ?_
        refine ReadyC.cons (o:= ?or5u12) ?hor5u12 ?hstepr5u12 ReadyC.nil
        case hor5u12=>(simp only [List.getElem?_toArray,List.getElem?_cons_succ,List.getElem?_cons_zero];rfl)
        intro K hK
        (have HSS:=Lib.hid hSx;obtain ⟨cy,fy⟩:=HF.out.cell _ _ (HF.out.keep _ _ _ HX.out hSx) htl;go_simp)
        refine hK.out _ _ (.inl rfl) (fun hT12=> ?_)
        clear hK K
        try simp only [Act.put,List.setIfInBounds_toArray,List.set_cons_zero,List.set_cons_succ]
        refine wpAnyC_done (by kernel_rfl) ?_ _
        refine NoPanic.normal ?_
        try clear hSx
        try clear hT12
        try clear HSS cy fy
        clear hT0
        obtain ⟨w2,hw2⟩:∃W,(wr.setCell p (Value.string (Z.extract 0 k++⟨#[48]⟩++Z.extract (k+1) n))).drew=W:=⟨_,rfl⟩
        have hl2:(t.set k 48).length=n:=by rw [List.length_set];exact htl
        have hI2:I (t.set k 48) w2:=by
          rw [←hw2]
          have h1:=HSV.out
          rw [htl] at h1
          rw [h1]
          exact HF.out.keep _ _ _ (HF.out.set t _ wr HX.out htl hl2) ((Fr.refl _ _).drew)
        have HI2:=Lib.hid hI2
        rw [hw2]
        have KR:=Lib.hid (HF.out.right _ w2 hI2 hl2)
        obtain ⟨r,hr⟩:∃r,R (t.set k 48)=r:=⟨_,rfl⟩
        rw [hr] at KR HST
        clear hw2 hr hI2 cx fx
        go_wp2_with fail
        refine KR.out.mono ?_
        clear KR
        rintro e w3 ⟨rfl,hf3⟩
        have HI3:=Lib.hid (HF.out.keep _ _ _ HI2.out hf3)
        clear hf3
        cases r with
        |true=>
          rw [if_pos rfl] at HST
          go_wp2_with fail
          go_roundg (gk-1)
          case measure=>have :=HK.out;omega
          case rel=>exact ⟨k+1,by have :=HK.out;omega,by go_num,by rw [HST.out];exact HI3⟩
        |false=>
          rw [if_neg (by decide)] at HST
          obtain ⟨c3,f3⟩:=HF.out.cell _ _ HI3.out hl2
          have HI4:=Lib.hid (HF.out.set _ t w3 HI3.out hl2 htl)
          rw [HSZ.out] at HI4
          go_wp2_with fail
          go_roundg (gk-1)
          case measure=>have :=HK.out;omega
          case rel=>exact ⟨k+1,by have :=HK.out;omega,by go_num,by rw [HST.out];exact HI4⟩
    · obtain rfl :k=n:=by omega
      go_wp2_with fail
      go_end0
      exact ⟨rfl,HX.out⟩
theorem StrR.frozen {w:World} {g c:Nat} {l:List (List UInt8)} (h:StrR w (some ⟨g,0,none⟩) c l) (i:Nat):w.frozen? ⟨g,i,none⟩=false:=World.ownsRow.frozenAt h i
structure TrW (w0 w:World) (r g:Nat) (H:Qh) (q:Qn) (b:Int) (A:Option Addr) (c:Nat) (st:List UInt8) (il:List (List UInt8)):Prop where
  fr:Fr [] w0 w
  g0:w0.heap.size≤g
  a0:∀k∈blks A,w0.heap.size≤k∧k≠g
  at_:At w g 69 (tvs H q b (sv st) A il.length c)
  row:StrR w A c il
  rt:At w r 43 #[.int .i64 0, .string ⟨#[]⟩, .slice none 0 0]
  r0:w0.heap.size≤r∧r≠g∧r∉blks A
namespace TrW
variable {w0 w w':World} {r g:Nat} {H:Qh} {q:Qn} {b:Int} {A:Option Addr} {c:Nat} {st:List UInt8} {il:List (List UInt8)}
theorem keep (h:TrW w0 w r g H q b A c st il) (hf:Fr [] w w'):TrW w0 w' r g H q b A c st il:=
  ⟨h.fr.then_ hf,h.g0,h.a0,hf.at_ h.at_ (by simp),h.row.keep hf,hf.at_ h.rt (by simp),h.r0⟩
theorem setS (h:TrW w0 w r g H q b A c st il) (s:List UInt8):TrW w0 (w.setCell ⟨g,15,none⟩ (sv s)) r g H q b A c s il:=by
  refine ⟨h.fr.setCell (.inr h.g0) _,h.g0,h.a0,?_,h.row.fr (S:=[g]) ((Fr.refl _ w).setCell (.inl (by simp)) _) (fun k hk hm=> ?_),((Fr.refl [g] w).setCell (.inl (by simp)) _).at_ h.rt (by simpa using h.r0.2.1),h.r0⟩
  · have :=h.at_.set_ 15 (sv s)
    exact this
  · exact (h.a0 k hk).2 (List.mem_singleton.1 hm)
theorem setI {ib:Nat} (h:TrW w0 w r g H q b (some ⟨ib,0,none⟩) c st il) (k:Nat) (x:List UInt8):TrW w0 (w.setCell ⟨ib,k,none⟩ (sv x)) r g H q b (some ⟨ib,0,none⟩) c st (il.set k x):=by
  have hib:=h.a0 ib (by simp [blks])
  refine ⟨h.fr.setCell (.inr hib.1) _,h.g0,h.a0,?_,h.row.set_ k x,((Fr.refl [ib] w).setCell (.inl (by simp)) _).at_ h.rt (by have :=h.r0.2.2;simpa [blks] using this),h.r0⟩
  rw [List.length_set]
  exact ((Fr.refl [ib] w).setCell (.inl (by simp)) _).at_ h.at_ (by simpa using fun e=>hib.2 e.symm)
theorem right (h:TrW w0 w r g H q b A c st il) (hq:QuAt w0 H q) (hst:st.length≤maxLen) (hil:∀s∈il,s.length≤maxLen) (hl:il.length≤1048576):
    Calls Tryz.prog 60 #[.pointer (some ⟨g,0,none⟩)] w fun e w'=>e= .returned (.bool (rgt q b st il))∧Fr [] w w':=
  tright_calls2 w g H q (hq.keep h.fr) b st hst A c il h.row.rd hil hl h.at_
theorem fewS (hq:QuAt w0 H q) {n:Nat} (hn:n≤maxLen) (hil:∀s∈il,s.length≤maxLen) (hl:il.length≤1048576):
    FewI g ⟨g,15,none⟩ (fun s=>rgt q b s il) n (fun s w=>TrW w0 w r g H q b A c s il):=
  ⟨fun s w h _=>⟨by rw [h.at_.cell];rfl,h.at_.frozen 15⟩,fun s s' w h _ _=>h.setS s',fun s w w' h hf=>h.keep hf,fun s w h hs=>h.right hq (by omega) hil hl⟩
theorem set_set {α:Type} (l:List α) (k:Nat) (x y:α):(l.set k x).set k y=l.set k y:=by simp
theorem fewN {ib:Nat} (hq:QuAt w0 H q) {n k:Nat} (hk:k<il.length) (hn:n≤maxLen) (hst:st.length≤maxLen) (hil:∀s∈il,s.length≤maxLen) (hl:il.length≤1048576):
    FewI g ⟨ib,k,none⟩ (fun x=>rgt q b st (il.set k x)) n (fun s w=>TrW w0 w r g H q b (some ⟨ib,0,none⟩) c st (il.set k s)):=
  ⟨fun s w h _=>⟨by
    have :=h.row.cell (j:=k) (by rw [List.length_set];exact hk)
    rw [this,List.getElem!_eq_getElem?_getD,List.getElem?_set_self hk,Option.getD_some],h.row.frozen k⟩,
   fun s s' w h _ _=>by
    have :=h.setI k s'
    rw [set_set] at this
    exact this,fun s w w' h hf=>h.keep hf,
   fun s w h hs=>h.right hq hst (fun x hx=>by
    rcases List.mem_or_eq_of_mem_set hx with hx |rfl
    · exact hil x hx
    · omega) (by rw [List.length_set];exact hl)⟩
end TrW
theorem clones_calls (w:World) (A:Option Addr) (c:Nat) (l:List (List UInt8)) (h:RdS w A l) (hn:A=none→c=0) (hl:l.length≤2097152):
  Calls Tryz.prog 30 #[.slice A l.length c] w fun e w'=>∃A' c',e= .returned (.slice A' l.length c')∧StrR w' A' c' l∧(∀k,k∈blks A'→w.heap.size≤k)∧Fr [] w w':=by
 cases A with
 |none=>
  have h0:l.length=0:=by
   rcases Nat.eq_zero_or_pos l.length with h5 |h5
   ·exact h5
   ·obtain ⟨b,o,hA,_⟩:=h h5
    cases hA
  obtain rfl :l=[]:=List.eq_nil_of_length_eq_zero h0
  obtain rfl :=hn rfl
  have he:∀w:World,(binOp .eql 38 (.slice none 0 0) (.slice none 0 0)).run Tryz.prog w= .ok (.bool true) w:=fun w=>Lib.run_eql_slice_nil w _ _ _ _ _ _ _ Tryz.underlying38
  have e0:([]:List (List UInt8)).length=0:=rfl
  rw [e0]
  clear h hn h0
  go_enter Tryz.func30,Tryz.ntmps30
  go_wp2_with fail
  go_ret
  exact ⟨none,0,rfl,World.ownsRow_nil w 0 _ 1,by simp [blks],Fr.refl _ _⟩
 |some ad=>
  have he:∀w:World,(binOp .eql 38 (.slice (some ad) l.length c) (.slice none 0 0)).run Tryz.prog w= .ok (.bool false) w:=fun w=>Lib.run_eql_slice_nil w _ _ _ _ _ _ _ Tryz.underlying38
  have HC:Hid (∀j:Nat,j<l.length→(w.alloc (.cells #[] 9)).cell? (ad.add j)=some (sv l[j]!)):=fun j hj=>by
   obtain ⟨b,o,hA,hc⟩:=(h.keep (box_fr' w (.cells #[] 9))) (by omega)
   cases hA
   rw [addr_add]
   exact hc j hj
  have HE:Hid (StrR (w.alloc (.cells #[] 9)) (some ⟨w.heap.size,0,none⟩) 0 []):=World.ownsRow_lit w #[] 0 (Nat.zero_le _) (by simp [maxLen]) (by simp)
  clear h hn
  go_enter Tryz.func30,Tryz.ntmps30
  go_wp2_with (at_builtin;(refine wpList_append_strs _ rfl _ _ rfl (some ⟨w.heap.size,0,none⟩) 0 [] 0 rfl rfl HE.out ad l.length c l rfl rfl HC.out (by simp;omega) ?_;intro A2 c2 w2 hr2 hf2 hb2;have HR2:=Lib.hid hr2;have HF2:=Lib.hid hf2;have HB2:=Lib.hid hb2;clear hr2 hf2 hb2))
  go_ret
  refine ⟨A2,c2,by simp,HR2.out,fun k hk=> ?_,?_⟩
  ·rcases HB2.out k hk with h |h
   ·simp [blks] at h;omega
   ·rw [h];simp
  ·exact ((Fr.refl [] w).alloc _).trans HF2.out (fun k hk=> .inr (by simp [blks] at hk;omega))
theorem wbx_cells {w:World} {g:Nat} {a s i:Value} (h:At w g 43 #[a,s,i]):(w.cell? ⟨g,0,none⟩=some a∧w.cell? ⟨g,1,none⟩=some s∧w.cell? ⟨g,2,none⟩=some i)∧w.frozen? ⟨g,0,none⟩=false∧w.frozen? ⟨g,1,none⟩=false∧w.frozen? ⟨g,2,none⟩=false:=by
 refine ⟨⟨?_,?_,?_⟩,h.frozen 0,h.frozen 1,h.frozen 2⟩<;>(rw [h.cell];rfl)
def SwP (q:Qn) (b:Int) (st:List UInt8) (il:List (List UInt8)) (w:World) (e:Ending) (w':World):Prop:=
 Fr [] w w'∧((¬witI q b st il=0∧e= .returned (.tuple #[.agg #[.int .i64 0, .string ⟨#[]⟩, .slice none 0 0], .int .i64 (witI q b st il)]))∨
  (witI q b st il=0∧∃A' c',e= .returned (.tuple #[.agg (wvs b (Wp.lft (rgt q b) st il).1 A' il.length c'), .int .i64 0])∧StrR w' A' c' (Wp.lft (rgt q b) st il).2))
theorem swit_calls (w:World) (H:Qh) (q:Qn) (h:QuAt w H q) (b:Int) (st:List UInt8) (hst:st.length≤1048576) (A:Option Addr) (c:Nat) (il:List (List UInt8)) (hr:RdS w A il) (hn:A=none→c=0) (hil:∀s∈il,s.length≤1048576) (hl:il.length≤1048576):
  Calls Tryz.prog 13 #[qval H q, .agg (wvs b st A il.length c)] w (SwP q b st il w):=by
 obtain ⟨w1,hw1⟩:∃W,w.alloc (.cells (qvs H q) 30)=W:=⟨_,rfl⟩
 obtain ⟨w2,hw2⟩:∃W,w1.alloc (.cells (wvs b st A il.length c) 43)=W:=⟨_,rfl⟩
 obtain ⟨w3,hw3⟩:∃W,w2.alloc (.cells #[.int .i64 0, .string ⟨#[]⟩, .slice none 0 0] 43)=W:=⟨_,rfl⟩
 have hf1:Fr [] w w1:=hw1▸box_fr' _ _
 have hf2:Fr [] w1 w2:=hw2▸box_fr' _ _
 have hf3:Fr [] w2 w3:=hw3▸box_fr' _ _
 have s1:w1.heap.size=w.heap.size+1:=by rw [←hw1];simp
 have s2:w2.heap.size=w.heap.size+2:=by rw [←hw2];simp [s1]
 have HQ1:Hid (At w3 w.heap.size 30 (qvs H q)):=(hf2.then_ hf3).at_ (hw1▸At.new _ _ _) (by simp)
 have HW1:Hid (At w3 (w.heap.size+1) 43 (wvs b st A il.length c)):=by
  have :=hf3.at_ (hw2▸At.new w1 43 (wvs b st A il.length c)) (by simp)
  rw [s1] at this
  exact this
 have HR1:Hid (At w3 (w.heap.size+2) 43 #[.int .i64 0, .string ⟨#[]⟩, .slice none 0 0]):=by
  have :=hw3▸At.new w2 43 #[.int .i64 0, .string ⟨#[]⟩, .slice none 0 0]
  rw [s2] at this
  exact this
 have HF3:=Lib.hid (hf1.then_ (hf2.then_ hf3))
 have KW:=Lib.hid (cwit_calls w3 H q (h.keep HF3.out) b st (by unfold maxLen;omega) A c il (hr.keep HF3.out) (fun s hs=>by have :=hil s hs;unfold maxLen;omega) hl)
 have KC:=Lib.hid (fun W (hW:Fr [] w W)=>clones_calls W A c il (hr.keep hW) hn (by omega))
 have HQA:=Lib.hid (fun W (hW:Fr [] w W)=>h.keep hW)
 have HIL:=Lib.hid hil
 obtain ⟨K,hK⟩:∃K,witI q b st il=K:=⟨_,rfl⟩
 unfold SwP
 rw [hK]
 rw [hK] at KW
 have HK0:=Lib.hid hK
 obtain ⟨n,hnn⟩:∃n,il.length=n:=⟨_,rfl⟩
 have HNN:=Lib.hid hnn
 rw [hnn] at KW hw2 hl HW1⊢
 simp only [hnn] at KC
 obtain ⟨s0,hs0⟩:∃s0,sv st=s0:=⟨_,rfl⟩
 have HS0:=Lib.hid hs0
 have hwv:wvs b st A n c=#[.int .i64 b,s0, .slice A n c]:=by rw [←hs0];rfl
 rw [hwv] at KW hw2 HW1⊢
 have HQ:=Lib.hid (fun W (hW:At W w.heap.size 30 (qvs H q))=>qbx_cells hW)
 clear h hr hn hil hK hnn hs0 hwv hf1 hf2 hf3
 simp only [qval,qvs] at KW hw1 HQ⊢
 go_enter Tryz.func13,Tryz.ntmps13
 go_upto_region 1 with fail
 clear hw1 hw2 hw3
 obtain ⟨q0,q1,q2,q3,q4,q5,q6,q7,q8,q9,q10,q11,q12,q13⟩:=HQ.out w3 HQ1.out
 obtain ⟨⟨a0,a1,a2⟩,-⟩:=wbx_cells HW1.out
 go_wp2_with fail
 refine KW.out.mono ?_
 clear KW q0 q1 q2 q3 q4 q5 q6 q7 q8 q9 q10 q11 q12 q13 a0 a1 a2
 rintro e w4 ⟨rfl,hf4⟩
 have HF4:=Lib.hid (HF3.out.then_ hf4)
 have HQ4:=Lib.hid (HQ1.out.keep hf4)
 have HW4:=Lib.hid (HW1.out.keep hf4)
 have HR4:=Lib.hid (HR1.out.keep hf4)
 clear hf4 HF3 HQ1 HW1 HR1
 by_cases h0:K=0
 ·have d0:(K==(0:Int))=true:=by simpa using h0
  subst h0
  obtain ⟨⟨a0,a1,a2⟩,f0,f1,f2⟩:=wbx_cells HW4.out
  have KC4:=Lib.hid (KC.out w4 HF4.out)
  go_wp2_with fail
  refine KC4.out.mono ?_
  clear KC4 KC a0 a1 a2 f0 f1 f2
  rintro e w5 ⟨A5,c5,rfl,hs5,hb5,hf5⟩
  have HF5:=Lib.hid (HF4.out.then_ hf5)
  have HQ5:=Lib.hid (HQ4.out.keep hf5)
  have HW5:=Lib.hid (HW4.out.keep hf5)
  have HR5:=Lib.hid (HR4.out.keep hf5)
  have HS5:=Lib.hid hs5
  have HB5:Hid (∀k∈blks A5,w.heap.size+3≤k):=fun k hk=>by
   have h1:=hb5 k hk
   have h2:=HR4.out.lt
   omega
  clear hs5 hb5 hf5 HQ4 HW4 HR4 HF4
  obtain ⟨⟨a0,a1,a2⟩,f0,f1,f2⟩:=wbx_cells HW5.out
  go_upto_region 5 with fail
  obtain ⟨wA,hwA⟩:∃W,w5.setCell ⟨w.heap.size+1,2,none⟩ (.slice A5 n c5)=W:=⟨_,rfl⟩
  have hfA:Fr [w.heap.size+1] w5 wA:=by
   rw [←hwA]
   exact (Fr.refl _ w5).setCell (.inl (by simp)) _
  have HFA:Hid (Fr [] w wA):=by
   rw [←hwA]
   exact HF5.out.setCell (.inr (Nat.le_add_right _ _)) _
  have HQA5:Hid (At wA w.heap.size 30 (qvs H q)):=hfA.at_ HQ5.out (by simp)
  have HWA:Hid (At wA (w.heap.size+1) 43 #[.int .i64 b,s0, .slice A5 n c5]):=by
   have :=HW5.out.set_ 2 (.slice A5 n c5)
   rw [hwA] at this
   exact this
  have HRA:Hid (At wA (w.heap.size+2) 43 #[.int .i64 0, .string ⟨#[]⟩, .slice none 0 0]):=hfA.at_ HR5.out (by simp)
  have HSA:Hid (StrR wA A5 c5 il):=HS5.out.fr hfA (fun k hk hm=>by
   have h1:=HB5.out k hk
   rw [List.mem_singleton.1 hm] at h1
   omega)
  rw [hwA]
  clear hwA hfA a0 a1 a2 f0 f1 f2 HF5 HQ5 HW5 HR5 HS5
  obtain ⟨q0,q1,q2,q3,q4,q5,q6,q7,q8,q9,q10,q11,q12,q13⟩:=HQ.out wA HQA5.out
  obtain ⟨⟨a0,a1,a2⟩,-⟩:=wbx_cells HWA.out
  go_upto_region 6 with fail
  obtain ⟨wB,hwB⟩:∃W,wA.alloc (.cells #[.int .i64 q.C.mx, .slice H.H.iA q.C.ins.length H.H.iC, .slice H.H.lA q.C.lat.length H.H.lC, .slice H.H.oA q.C.outs.length H.H.oC, .slice H.H.bA q.C.bads.length H.H.bC, .slice H.H.vA q.C.invs.length H.H.vC, .slice H.H.gA q.C.ands.length H.H.gC, .slice H.H.nA q.C.nms.length H.H.nC,
   .slice H.aA q.am.length H.aC, .slice H.lA q.ls.length H.lC, .slice H.kA q.ks.length H.kC, .int .i64 q.bad, .int .i64 q.dep, .int .i64 q.bud, .int .i64 b,s0, .slice A5 n c5] 69)=W:=⟨_,rfl⟩
  have hB:TrW w wB (w.heap.size+2) wA.heap.size H q b A5 c5 st il:=by
   have hrl:=HRA.out.lt
   refine ⟨HFA.out.then_ (hwB▸box_fr' _ _),HFA.out.size,fun k hk=> ?_,?_,hwB▸HSA.out.keep (box_fr' _ _),hwB▸HRA.out.keep (box_fr' _ _),by omega,by omega,fun hk=> ?_⟩
   ·have h1:=HB5.out k hk
    refine ⟨by omega,fun e=> ?_⟩
    rcases HSA.out.2 with ⟨hv,_⟩ |⟨g,cap,cur,hv,_,hg,_⟩
    ·simp only [Value.slice.injEq] at hv
     rw [hv.1] at hk
     simp [blks] at hk
    ·simp only [Value.slice.injEq,true_and] at hv
     have h2:=At.lt (t:=9) hg
     rw [hv.1] at hk
     simp [blks] at hk
     omega
   ·rw [HNN.out,HS0.out]
    exact hwB▸At.new _ _ _
   ·have h1:=HB5.out _ hk
    omega
  have HQW:=Lib.hid (HQA.out w (Fr.refl _ w))
  have KF:=Lib.hid (fewer_calls wB wA.heap.size ⟨wA.heap.size,15,none⟩ (fun s=>rgt q b s il) st.length hst _ (TrW.fewS HQW.out (by unfold maxLen;omega) (fun s hs=>by have :=HIL.out s hs;unfold maxLen;omega) (by rw [HNN.out];exact hl)) st rfl hB)
  obtain ⟨g,hg⟩:∃g,wA.heap.size=g:=⟨_,rfl⟩
  rw [hg] at KF⊢
  rw [hwB]
  clear hwB hB q0 q1 q2 q3 q4 q5 q6 q7 q8 q9 q10 q11 q12 q13 a0 a1 a2 HQA5 HWA HRA HSA hg
  go_wp2_with fail
  refine KF.out.mono ?_
  clear KF
  rintro e w6 ⟨rfl,h6⟩
  have HL1:Hid ((Wp.few (fun s=>rgt q b s il) st st.length).length=st.length):=Wp.few_len _ _ _
  obtain ⟨s1,hs1⟩:∃s1,Wp.few (fun s=>rgt q b s il) st st.length=s1:=⟨_,rfl⟩
  rw [hs1] at h6 HL1
  have HS1:=Lib.hid hs1
  have H6:=Lib.hid h6
  clear h6 hs1
  have HLN:Hid (∀k,(Wp.fewI (rgt q b s1) il k).length=n):=fun k=>by rw [Wp.fewI_len];exact HNN.out
  have HLI:Hid (∀k,∀s∈Wp.fewI (rgt q b s1) il k,s.length≤1048576):=fun k s hs=>by
   obtain ⟨i,hi,rfl⟩:=List.getElem_of_mem hs
   have h1:=(Wp.fewI_und (rgt q b s1) il k i).1
   rw [List.getElem!_eq_getElem?_getD,List.getElem?_eq_getElem hi,Option.getD_some] at h1
   rw [h1]
   have h2:=HLN.out k
   have h3:=HNN.out
   exact HIL.out _ (by rw [List.getElem!_eq_getElem?_getD,List.getElem?_eq_getElem (by omega),Option.getD_some];exact List.getElem_mem _)
  have KR:Hid (∀k,k<n→∀W,TrW w W (w.heap.size+2) g H q b A5 c5 s1 (Wp.fewI (rgt q b s1) il k)→∃ib,A5=some ⟨ib,0,none⟩∧Calls Tryz.prog 31 #[.pointer (some ⟨g,0,none⟩), .pointer (some ⟨ib,k,none⟩)] W fun e w'=>e= .returned (.tuple #[])∧TrW w w' (w.heap.size+2) g H q b A5 c5 s1 (Wp.fewI (rgt q b s1) il (k+1))):=fun k hk W hW=>by
   have h1:=HLN.out k
   have h2:=HL1.out
   obtain ⟨ib,hib⟩:∃ib,A5=some ⟨ib,0,none⟩:=by
    rcases hW.row.2 with ⟨hv,_⟩ |⟨ib,cap,cur,hv,_⟩
    ·simp only [Value.slice.injEq] at hv
     omega
    ·simp only [Value.slice.injEq,true_and] at hv
     exact ⟨ib,hv.1⟩
   refine ⟨ib,hib,?_⟩
   subst hib
   obtain ⟨L,hL⟩:∃L,Wp.fewI (rgt q b s1) il k=L:=⟨_,rfl⟩
   have h3:=HLI.out k
   rw [hL] at h1 h3 hW
   have hm:∀s∈L,s.length≤maxLen:=fun s hs=>by have :=h3 s hs;unfold maxLen;omega
   have hlk:L[k]!.length≤1048576:=h3 _ (mem_get (by omega))
   have :=fewer_calls W g ⟨ib,k,none⟩ (fun x=>rgt q b s1 (L.set k x)) L[k]!.length hlk _ (TrW.fewN HQW.out (by omega) (by unfold maxLen;omega) (by unfold maxLen;omega) hm (by omega)) L[k]! rfl (by rw [Wp.set_get_self];exact hW)
   rw [Wp.fewI,hL]
   exact this
  have b1:=(tbx_cells H6.out.at_).2.2.2.2.2.2.2.2.2
  rw [HNN.out] at b1
  go_wp2_with fail
  go_loopg [36] n (fun gg x36 wr=>∃k:Nat,k+gg=n∧x36= .int .i64 k∧Hid (TrW w wr (w.heap.size+2) g H q b A5 c5 s1 (Wp.fewI (rgt q b s1) il k)))
  case atStart=>exact ⟨0,by omega,rfl,H6⟩
  case round=>
   obtain ⟨k,hk,rfl,HX⟩:=hrel
   have HK:=Lib.hid hk
   have hkn:k≤n:=by omega
   clear hk H6 b1
   have b0:=(tbx_cells HX.out.at_).2.2.2.2.2.2.2
   rw [HLN.out] at b0
   obtain ⟨b14,b15,b16⟩:=b0
   by_cases hlt:k<n
   ·have hlt2:(k:Int)<(n:Int):=by omega
    obtain ⟨ib,hib,kc⟩:=KR.out k hlt wr HX.out
    have KC:=Lib.hid kc
    clear kc KR b14 b15
    subst hib
    go_wp2_with fail
    refine KC.out.mono ?_
    clear KC b16
    rintro e w7 ⟨rfl,h7⟩
    have H7:=Lib.hid h7
    clear h7
    go_wp2_with fail
    go_roundg (gk-1)
    case measure=>have :=HK.out;omega
    case rel=>exact ⟨k+1,by have :=HK.out;omega,by go_num,H7⟩
   ·obtain rfl :k=n:=by omega
    obtain ⟨⟨r0,r1,r2⟩,g0,g1,g2⟩:=wbx_cells HX.out.rt
    clear hlt KR
    obtain ⟨Z,hs2⟩:∃Z:ByteArray,sv s1= .string Z:=⟨_,rfl⟩
    rw [hs2] at b15
    have HS2:=Lib.hid hs2
    clear hs2
    go_wp2_with fail
    obtain ⟨wz,hwz⟩:∃W,((wr.setCell ⟨w.heap.size+2,0,none⟩ (.int .i64 b)).setCell ⟨w.heap.size+2,1,none⟩ (.string Z)).setCell ⟨w.heap.size+2,2,none⟩ (.slice A5 k c5)=W:=⟨_,rfl⟩
    have hz:At wz (w.heap.size+2) 43 #[.int .i64 b, .string Z, .slice A5 k c5]:=by
     have :=((HX.out.rt.set_ 0 (.int .i64 b)).set_ 1 (.string Z)).set_ 2 (.slice A5 k c5)
     rw [hwz] at this
     exact this
    have HFZ:Hid (Fr [] w wz):=by
     rw [←hwz]
     exact ((HX.out.fr.setCell (.inr (Nat.le_add_right _ _)) _).setCell (.inr (Nat.le_add_right _ _)) _).setCell (.inr (Nat.le_add_right _ _)) _
    have HRZ:Hid (StrR wz A5 c5 (Wp.fewI (rgt q b s1) il k)):=by
     rw [←hwz]
     refine HX.out.row.fr (S:=[w.heap.size+2]) ((((Fr.refl _ wr).setCell (.inl (by simp)) _).setCell (.inl (by simp)) _).setCell (.inl (by simp)) _) (fun j hj hm=> ?_)
     rw [List.mem_singleton.1 hm] at hj
     exact HX.out.r0.2.2 hj
    rw [hwz]
    clear r0 r1 r2 g0 g1 g2 b14 b15 b16
    obtain ⟨⟨r0,r1,r2⟩,-⟩:=wbx_cells hz
    have HE:Hid ((Wp.lft (rgt q b) st il).1=s1∧(Wp.lft (rgt q b) st il).2=Wp.fewI (rgt q b s1) il k):=by
     show _∧_
     unfold Wp.lft
     simp only
     have h1:=HS1.out
     have h2:=HNN.out
     rw [h1,h2]
     exact ⟨rfl,rfl⟩
    refine bodyPost_ret (v:= .tuple #[.agg #[.int .i64 b, .string Z, .slice A5 k c5], .int .i64 0]) ?_ rfl ⟨HFZ.out,A5,c5,?_,?_⟩
    ·have hres:Tryz.f13.results=#[.cell 4 43, .tmp 5]:=rfl
     unfold results
     rw [hres]
     try go_simp
    ·rw [HE.out.1]
     unfold wvs
     rw [HS2.out]
    ·rw [HE.out.2]
     exact HRZ.out
 ·have d0:(K==(0:Int))=false:=by simpa using h0
  obtain ⟨⟨r0,r1,r2⟩,g0,g1,g2⟩:=wbx_cells HR4.out
  go_wp2_with fail
  obtain ⟨wz,hwz⟩:∃W,((w4.setCell ⟨w.heap.size+2,0,none⟩ (.int .i64 0)).setCell ⟨w.heap.size+2,1,none⟩ (.string ⟨#[]⟩)).setCell ⟨w.heap.size+2,2,none⟩ (.slice none 0 0)=W:=⟨_,rfl⟩
  have hz:At wz (w.heap.size+2) 43 #[.int .i64 0, .string ⟨#[]⟩, .slice none 0 0]:=by
   have :=((HR4.out.set_ 0 (.int .i64 0)).set_ 1 (.string ⟨#[]⟩)).set_ 2 (.slice none 0 0)
   rw [hwz] at this
   exact this
  have HFZ:Hid (Fr [] w wz):=by
   rw [←hwz]
   exact ((HF4.out.setCell (.inr (Nat.le_add_right _ _)) _).setCell (.inr (Nat.le_add_right _ _)) _).setCell (.inr (Nat.le_add_right _ _)) _
  rw [hwz]
  clear r0 r1 r2 g0 g1 g2
  obtain ⟨⟨r0,r1,r2⟩,-⟩:=wbx_cells hz
  refine bodyPost_ret (v:= .tuple #[.agg #[.int .i64 0, .string ⟨#[]⟩, .slice none 0 0], .int .i64 K]) ?_ rfl ⟨HFZ.out, .inl ⟨h0,rfl⟩⟩
  have hres:Tryz.f13.results=#[.cell 4 43, .tmp 5]:=rfl
  unfold results
  rw [hres]
  go_simp
end Go.Proofs.YtjmmpfjcpdepjaaGreatDoor
namespace Go.Proofs.YtjmmpfjcpdepjaaGreatDoor
open Go.RowKit
theorem OwnX.stayed {Y:List Nat} {w0 w2 w3:World} {L:SvL} {S:Sv} (h:OwnX Y w0 w2 L S) (hs:Stay (L.own w2) w2 w3) (hf:Fr [] w0 w3):OwnX Y w0 w3 L S:=by
 have hsz:=hs.size
 obtain ⟨T,h1,h2⟩:=hs
 refine ⟨⟨h.own.sv.fr h1 (fun k hk hlt e=> ?_),h.own.nw,hf⟩,fun k hk=>⟨Nat.lt_of_lt_of_le (h.fx k hk).1 hsz,(h.fx k hk).2⟩⟩
 exact h2 k (SvL.mem_own.2 ⟨hlt,e⟩) hk
def q00 (q:Qn):Qn:={ q with ls:=[],ks:=[] }
def h00 (H:Qh):Qh:={ H with lA:=none,lC:=0,kA:=none,kC:=0 }
theorem RdL.nil_ (w:World) (A:Option Addr):RdL w A []:=⟨fun h=>absurd h (Nat.lt_irrefl _),fun j hj=>absurd hj (Nat.not_lt_zero _)⟩
theorem QuAt.zero {w:World} {H:Qh} {q:Qn} (h:QuAt w H q):QuAt w (h00 H) (q00 q):=
 ⟨h.c,h.a,RdL.nil_ _ _,RdL.nil_ _ _,h.aL,Nat.zero_le _,Nat.zero_le _,h.br,h.dr,h.ur⟩
def ivF (C:Pc):Sv:=(Sv.new (baU C 2)).addAll (fstU C C.lat.length)
def ivD (C:Pc) (am:List (List Int)):Sv:=(Sv.new (baU C 2)).addAll (frameU C am 0++lnkU C 0 C.lat.length)
def ivS (C:Pc) (am ls:List (List Int)):Sv:=(ivD C am).addAll (lsU C ls)
theorem valid_badI {C:Pc} (hv:Valid C):∀x∈C.bads,0≤x∧x≤2*C.mx+1:=fun x hx=>by
 have h:=hv.b
 unfold allB at h
 rw [Bool.and_eq_true,List.all_eq_true] at h
 exact valid_lit hv (h.1 x hx)
theorem iv_first {C:Pc} (hv:Valid C):∀l∈fstU C C.lat.length,Ra l∧chkF (baU C 2).toNat l=0:=fun l hl=>by
 obtain ⟨b0,b1,b2⟩:=ba2 hv
 have h:=fst_in hv l hl
 exact ⟨h.ra (by omega),(h.mono (by omega)).chk (by omega)⟩
theorem iv_step {C:Pc} (hv:Valid C) {am:List (List Int)} (ha:AmOk C.mx am):∀l∈frameU C am 0++lnkU C 0 C.lat.length,Ra l∧chkF (baU C 2).toNat l=0:=fun l hl=>by
 obtain ⟨b0,b1,b2⟩:=ba2 hv
 have e1:=baU_succ C 0
 have p0:=baU_pos hv.m0 (C:=C) (f:=0) (by omega)
 have h:InV (baU C 2) l:=by
  rcases List.mem_append.1 hl with hl |hl
  ·unfold frameU at hl
   rcases List.mem_append.1 hl with hl |hl
   ·exact (gates_in hv p0 l hl).mono (by rw [show (0:Int)+1=1 from rfl] at e1;omega)
   ·exact (force_in hv ha p0 l hl).mono (by rw [show (0:Int)+1=1 from rfl] at e1;omega)
  ·exact lnk_in hv (f:=0) (by omega) l hl
 exact ⟨h.ra (by omega),(h.mono (by omega)).chk (by omega)⟩
theorem iv_len {C:Pc} (hv:Valid C) {am:List (List Int)} (ha:am.length≤64):(fstU C C.lat.length).length≤100000∧(frameU C am 0++lnkU C 0 C.lat.length).length≤100000:=by
 have h1:=fstU_len C C.lat.length
 have h2:=gatesU_len hv (baU C 0)
 have h3:=forceU_len C am (baU C 0)
 have h4:=lnkU_len C 0 C.lat.length
 have h5:=valid_il hv
 have h6:=hv.l
 rw [List.length_append]
 unfold frameU
 rw [List.length_append]
 omega
theorem rdls1 {W:World} {A:Option Addr} {c:Nat} {hs:List Ls} {t:TypeId} (hr:RdL W A hs) (ho:∀k∈ybl A hs,k<W.heap.size):RdLs (W.alloc (.cells #[.slice A hs.length c] t)) (some ⟨W.heap.size,0,none⟩) [⟨A,c,hs⟩]:=
 ⟨fun _=>⟨_,_,rfl,fun j hj=>by
  have hj0:j=0:=by simpa using hj
  subst hj0
  exact (At.new W t #[.slice A hs.length c]).cell 0⟩,fun x hx=>by
  rw [List.mem_singleton.1 hx]
  exact hr.keep (box_fr' _ _),fun x hx k hk=>by
  rw [List.mem_singleton.1 hx] at hk
  exact Nat.lt_of_lt_of_le (ho k hk) (box_fr' _ _).size⟩
theorem rdls2 {W:World} {A A':Option Addr} {c c':Nat} {hs hs':List Ls} {t:TypeId} (hr:RdL W A hs) (ho:∀k∈ybl A hs,k<W.heap.size) (hr':RdL W A' hs') (ho':∀k∈ybl A' hs',k<W.heap.size):RdLs (W.alloc (.cells #[.slice A hs.length c, .slice A' hs'.length c'] t)) (some ⟨W.heap.size,0,none⟩) [⟨A,c,hs⟩,⟨A',c',hs'⟩]:=
 ⟨fun _=>⟨_,_,rfl,fun j hj=>by
  have hj0:j=0∨j=1:=by simp at hj;omega
  rcases hj0 with rfl |rfl
  ·exact (At.new W t #[.slice A hs.length c, .slice A' hs'.length c']).cell 0
  ·exact (At.new W t #[.slice A hs.length c, .slice A' hs'.length c']).cell 1⟩,fun x hx=>by
  rcases List.mem_cons.1 hx with rfl |hx
  ·exact hr.keep (box_fr' _ _)
  ·rw [List.mem_singleton.1 hx]
   exact hr'.keep (box_fr' _ _),fun x hx k hk=>by
  rcases List.mem_cons.1 hx with rfl |hx
  ·exact Nat.lt_of_lt_of_le (ho k hk) (box_fr' _ _).size
  ·rw [List.mem_singleton.1 hx] at hk
   exact Nat.lt_of_lt_of_le (ho' k hk) (box_fr' _ _).size⟩
theorem iv_laid1 {w W:World} {H:Qh} {q:Qn} (hci:∀W,Fr [] w W→CiAt W H.H q.C) (hv:Valid q.C) (hW:Fr [] w W) {A:Option Addr} {c:Nat} {hs:List Ls} (hr:RdL W A hs) (ho:∀k∈ybl A hs,k<W.heap.size) (hm:hs.map (·.l)=fstU q.C q.C.lat.length) (t:TypeId):
  Calls Tryz.prog 19 #[qval H q, .slice (some ⟨W.heap.size,0,none⟩) 1 1] (W.alloc (.cells #[.slice A hs.length c] t)) (DlP (W.alloc (.cells #[.slice A hs.length c] t)) H q (ivF q.C)):=by
 have hfl:[(⟨A,c,hs⟩:Lss)].flatMap Lss.cl=fstU q.C q.C.lat.length:=by
  rw [List.flatMap_singleton]
  exact hm
 have h:=dlaid_calls (W.alloc (.cells #[.slice A hs.length c] t)) H q (hci _ (hW.then_ (box_fr' _ _))) hv (some ⟨W.heap.size,0,none⟩) 1 [⟨A,c,hs⟩] (rdls1 hr ho) (fun k hk=>by simp [blks] at hk;subst hk;simp) (by simp)
  (by rw [hfl];exact iv_first hv) (by rw [hfl];have :=fstU_len q.C q.C.lat.length;have :=hv.l;omega)
 rw [hfl] at h
 exact h
theorem iv_laid2 {w W:World} {H:Qh} {q:Qn} (hci:∀W,Fr [] w W→CiAt W H.H q.C) (hv:Valid q.C) (ham:AmOk q.C.mx (q.am.map (·.l))) (hW:Fr [] w W) {A A':Option Addr} {c c':Nat} {hs hs':List Ls} (hr:RdL W A hs) (ho:∀k∈ybl A hs,k<W.heap.size) (hr':RdL W A' hs') (ho':∀k∈ybl A' hs',k<W.heap.size)
  (hm:hs.map (·.l)=frameU q.C (q.am.map (·.l)) 0) (hm':hs'.map (·.l)=lnkU q.C 0 q.C.lat.length) (t:TypeId):
  Calls Tryz.prog 19 #[qval H q, .slice (some ⟨W.heap.size,0,none⟩) 2 2] (W.alloc (.cells #[.slice A hs.length c, .slice A' hs'.length c'] t)) (DlP (W.alloc (.cells #[.slice A hs.length c, .slice A' hs'.length c'] t)) H q (ivD q.C (q.am.map (·.l)))):=by
 have hfl:[(⟨A,c,hs⟩:Lss),⟨A',c',hs'⟩].flatMap Lss.cl=frameU q.C (q.am.map (·.l)) 0++lnkU q.C 0 q.C.lat.length:=by
  rw [List.flatMap_cons,List.flatMap_singleton]
  show hs.map (·.l)++hs'.map (·.l)=_
  rw [hm,hm']
 have h:=dlaid_calls (W.alloc (.cells #[.slice A hs.length c, .slice A' hs'.length c'] t)) H q (hci _ (hW.then_ (box_fr' _ _))) hv (some ⟨W.heap.size,0,none⟩) 2 [⟨A,c,hs⟩,⟨A',c',hs'⟩] (rdls2 hr ho hr' ho') (fun k hk=>by simp [blks] at hk;subst hk;simp) (by simp)
  (by rw [hfl];exact iv_step hv ham) (by rw [hfl];have :=(iv_len hv (am:=q.am.map (·.l)) (ham.1)).2;omega)
 rw [hfl] at h
 exact h
theorem iv_all {w w6 w7:World} {H:Qh} {q:Qn} (hv:Valid q.C) {ls:List (List Int)} (hl:∀c∈ls,Lfine q.C c) (hn:ls.length≤1024) (ham:AmOk q.C.mx (q.am.map (·.l))) {g:Nat} {L:SvL} (hd:At w6 g 83 (dvs H q L.a)) (ho:OwnX [g] w w6 L (ivD q.C (q.am.map (·.l))))
  {A7:Option Addr} {c7:Nat} {hs7:List Ls} (hn7:NwLs w7 w6.heap.size A7 c7 hs7) (hm7:hs7.map (·.l)=lsU q.C ls) (hf7:Fr [] w6 w7):
  Calls Tryz.prog 20 #[.pointer (some ⟨g,0,none⟩), .slice A7 hs7.length c7] w7 fun e w8=>e= .returned (.tuple #[])∧∃L8,L8.a=L.a∧At w8 g 83 (dvs H q L8.a)∧OwnX [g] w w8 L8 (ivS q.C (q.am.map (·.l)) ls):=by
 obtain ⟨b0,b1,b2⟩:=ba2 hv
 have hox:=ho.more hf7 (Y:=ybl A7 hs7) (fun k hk=>hn7.marks k hk)
 have hd7:=hf7.at_ hd (by simp)
 have hlen:hs7.length=ls.length:=by
  have :=congrArg List.length hm7
  simpa [lsU] using this
 have hll:=(iv_len hv (am:=q.am.map (·.l)) ham.1).2
 have hfit:(ivD q.C (q.am.map (·.l))).Fit (baU q.C 2).toNat (0+(frameU q.C (q.am.map (·.l)) 0++lnkU q.C 0 q.C.lat.length).length):=
  (Sv.Fit.new b0 b1).addAll (by omega) (fun c hc=>(iv_step hv ham c hc).1)
 have hc:=dall_calls w7 (L.shut w6) _ hox hfit g H q hd7 (by simp) A7 c7 hs7 hn7.rdl (fun k hk=>List.mem_append_right _ (List.mem_append_left _ hk)) (fun x hx k hk=>List.mem_append_right _ (List.mem_append_right _ (List.mem_flatMap.2 ⟨x,hx,hk⟩)))
  (fun x hx=>by
   have h1:=(lsU_in hv hl x.l (hm7▸List.mem_map.2 ⟨x,hx,rfl⟩)).1
   exact (h1.mono (by omega)).chk (by omega)) (by omega)
 rw [hm7] at hc
 refine hc.mono ?_
 rintro e w8 ⟨rfl,L8,h1,h2,h3⟩
 refine ⟨rfl,L8,h1,?_,h2.less (fun k hk=>List.mem_append_left _ hk)⟩
 rw [h1]
 exact h3.at_ hd7 (by simp)
theorem iv_ok {C:Pc} (hv:Valid C) {am ls:List (List Int)} (ham:AmOk C.mx am) (hl:∀c∈ls,Lfine C c) (hn:ls.length≤1024):(ivF C).Ok 0∧(ivS C am ls).Ok 0:=by
 obtain ⟨b0,b1,b2⟩:=ba2 hv
 have h1:=iv_len hv ham.1
 have hlen:(lsU C ls).length=ls.length:=List.length_map ..
 refine ⟨((Sv.Fit.new b0 b1).addAll (by omega) (fun c hc=>(iv_first hv c hc).1)).ok,?_⟩
 exact (((Sv.Fit.new b0 b1).addAll (by omega) (fun c hc=>(iv_step hv ham c hc).1)).addAll (by omega) (fun c hc=>((lsU_in hv hl c hc).1.ra (by omega)))).ok
theorem iv_f1 {w w5 w8:World} {H:Qh} {q:Qn} (hci:∀W,Fr [] w W→CiAt W H.H q.C) (hv:Valid q.C) {g1 g2:Nat} {L1 L8:SvL} {S1 S8:Sv} (hd1:At w5 g1 83 (dvs H q L1.a)) (ho1:OwnX [g1] w w5 L1 S1) (ok:S1.Ok 0) (hd8:At w8 g2 83 (dvs H q L8.a)) (ho8:OwnX [g2] w5 w8 L8 S8) (h5:w5.heap.size≤g2)
  (A:Option Addr) (c:Nat) (hs:List Ls) (hr:RdL w A hs) (hl:∀x∈hs,Lfine q.C x.l) (hn:hs.length≤1024) (I:Nat→Sv→Prop) (Z:Sv→Prop) (h0:I 0 S1) (hI:∀k,k<hs.length→AskQ (((hs[k]!).l.map (laU q.C 0)).map fun x=> -x) (I k) (I (k+1)) Z):
  Calls Tryz.prog 22 #[.pointer (some ⟨g1,0,none⟩), .slice A hs.length c, .int .i64 0] w8 fun e w9=>∃b,e= .returned (.bool b)∧(b=false→∃S,Z S)∧Fr [] w w9∧At w9 g2 83 (dvs H q L8.a)∧OwnX [g2] w w9 L8 S8:=by
 have hf8:=ho8.own.fr
 have hw8:=ho1.own.fr.then_ hf8
 have hox:=ho1.more hf8 (Y:=g2::L8.own w8) (fun k hk=>by
  rcases List.mem_cons.1 hk with rfl |hk
  ·exact ⟨h5,(ho8.fx _ (List.mem_singleton.2 rfl)).1⟩
  ·obtain ⟨k1,k2⟩:=SvL.mem_own.1 hk
   refine ⟨?_,k1⟩
   rcases Nat.lt_or_ge k w5.heap.size with h |h
   ·exact absurd k2 (ho8.own.nw k h)
   ·exact h)
 have hc:=dfollows_calls w8 (L1.shut w5) S1 hox ok g1 H q (hf8.at_ hd1 (by simp)) (by simp) (hci w8 hw8) hv 0 (by omega) A c hs (hr.keep hw8) hl hn I Z h0 hI
 refine hc.mono ?_
 rintro e w9 ⟨S',b,rfl,-,hb,L',-,ho9,hst⟩
 refine ⟨b,rfl,fun hb0=> ?_,ho9.own.fr,hst.at_ hd8 (by simp),(ho8.young ho1.own.fr).stayed (hst.less (fun k hk=>List.mem_append_right _ (List.mem_cons_of_mem _ hk))) ho9.own.fr⟩
 rw [if_neg (by rw [hb0];decide)] at hb
 exact ⟨_,hb⟩
theorem iv_nv {w w10:World} {H:Qh} {q:Qn} {g:Nat} {L:SvL} {S:Sv} (hd:At w10 g 83 (dvs H q L.a)) (ho:OwnX [g] w w10 L S) (ok:S.Ok 0) {x:Int} (hx: -1000000≤x∧x≤1000000) (I J Z:Sv→Prop) (hI:I S) (hA:AskQ [x] I J Z):
  Calls Tryz.prog 36 #[.pointer (some ⟨g,0,none⟩), .slice (some ⟨w10.heap.size,0,none⟩) 1 1] (w10.alloc (.cells #[.int .i64 x] 3)) fun e w'=>∃b,e= .returned (.bool b)∧(if b=true then ∃S,J S else ∃S,Z S)∧Fr [] w w':=by
 obtain ⟨u1,red,KRED,D,C,Q,hW,hQ⟩:=hA S hI
 have hf:Fr [] w10 (w10.alloc (.cells #[.int .i64 x] 3)):=box_fr' _ _
 have hm:=ho.more hf (Y:=blks (some ⟨w10.heap.size,0,none⟩)) (fun k hk=>by
  simp [blks] at hk
  subst hk
  exact ⟨Nat.le_refl _,by simp⟩)
 have hrd:Rd (w10.alloc (.cells #[.int .i64 x] 3)) (some ⟨w10.heap.size,0,none⟩) [x]:=fun _=>⟨_,_,rfl,fun j hj=>by
  have hj0:j=0:=by simpa using hj
  subst hj0
  exact (At.new w10 3 #[.int .i64 x]).cell 0⟩
 have hc:=dnever_calls _ (L.shut w10) S hm ok g H q (hf.at_ hd (by simp)) (some ⟨w10.heap.size,0,none⟩) 1 [x] (hm.far_own hrd (fun k hk=>List.mem_append_right _ hk)) (fun j hj=>by
  have hj0:j=0:=by simpa using hj
  subst hj0
  exact ⟨by show -9223372036854775808≤x;omega,by show x≤9223372036854775807;omega⟩) (by simp) (by simp) red KRED D C Q u1 hW
 refine hc.mono ?_
 rintro e w' ⟨S',r,k1,k2,rfl,L',k3,k4,k5⟩
 have hq:=hQ S' r k1
 refine ⟨r==2,rfl,?_,k4.own.fr⟩
 by_cases h2:r=2
 ·rw [if_pos h2] at hq
  rw [if_pos (by simpa using h2)]
  exact ⟨_,hq⟩
 ·rw [if_neg h2] at hq
  rw [if_neg (by simpa using h2)]
  exact ⟨_,hq⟩
def IvP (Z1 Z2 J Z3:Sv→Prop) (w:World) (e:Ending) (w':World):Prop:=Fr [] w w'∧((e= .returned (.int .i64 0)∧∃S,J S)∨(e= .returned (.int .i64 81)∧((∃S,Z1 S)∨(∃S,Z2 S)∨∃S,Z3 S)))
theorem invariant_calls (w:World) (H:Qh) (q:Qn) (h:QuAt w H q) (A:Option Addr) (c:Nat) (hs:List Ls) (hr:RdL w A hs) (hR:rightI q (hs.map (·.l))=0) (hn:hs.length≤1024)
  (I1 I2:Nat→Sv→Prop) (Z1 Z2 J Z3:Sv→Prop) (h1:I1 0 (ivF q.C)) (hI1:∀k,k<hs.length→AskQ (((hs[k]!).l.map (laU q.C 0)).map fun x=> -x) (I1 k) (I1 (k+1)) Z1)
  (h2:I2 0 (ivS q.C (q.am.map (·.l)) (hs.map (·.l)))) (hI2:∀k,k<hs.length→AskQ (((hs[k]!).l.map (laU q.C 1)).map fun x=> -x) (I2 k) (I2 (k+1)) Z2)
  (h3:AskQ [litT 0 (q.C.bads[q.bad.toNat]!)] (I2 hs.length) J Z3):
  Calls Tryz.prog 16 #[qval H q, .slice A hs.length c] w (IvP Z1 Z2 J Z3 w):=by
 obtain ⟨w1,hw1⟩:∃W,w.alloc (.cells (qvs H q) 30)=W:=⟨_,rfl⟩
 have hf1:Fr [] w w1:=hw1▸box_fr' _ _
 have HF1:=Lib.hid hf1
 have HQ1:Hid (At w1 w.heap.size 30 (qvs H q)):=hw1▸At.new _ _ _
 have HRA:Hid (∀c∈hs.map (·.l),Ra c):=fun c hc=>by
  obtain ⟨y,hy,rfl⟩:=List.mem_map.1 hc
  obtain ⟨k,hk,rfl⟩:=List.getElem_of_mem hy
  have :=(hr.2 k hk).2.1
  rw [List.getElem!_eq_getElem?_getD,List.getElem?_eq_getElem hk] at this
  exact this
 have KRI:Hid (∀W,Fr [] w1 W→Calls Tryz.prog 17 #[qval H q, .slice A hs.length c] W fun e w'=>e= .returned (.int .i64 0)∧Fr [] W w'):=fun W hW=>by
  have :=cright_calls W H q ((h.keep hf1).keep hW) A c hs ((hr.keep hf1).keep hW) (by omega)
  rw [hR] at this
  exact this
 obtain ⟨k1,k2,k3⟩:=rightI_ok hR HRA.out
 obtain ⟨hv,hbd,ham⟩:=unI_ok k1
 have hlf:∀x∈hs,Lfine q.C x.l:=fun x hx=>k3 _ (List.mem_map.2 ⟨x,hx,rfl⟩)
 have hlm:∀x∈hs.map (·.l),Lfine q.C x:=k3
 have hnm:(hs.map (·.l)).length≤1024:=by rw [List.length_map];exact hn
 have hz:=h.zero
 obtain ⟨H',hH'⟩:∃H',h00 H=H':=⟨_,rfl⟩
 obtain ⟨q',hq'⟩:∃q',q00 q=q':=⟨_,rfl⟩
 have hC:q'.C=q.C:=by rw [←hq'];rfl
 have hAm:q'.am=q.am:=by rw [←hq'];rfl
 have hBd:q'.bad=q.bad:=by rw [←hq'];rfl
 have hLs:q'.ls=[]:=by rw [←hq'];rfl
 have hKs:q'.ks=[]:=by rw [←hq'];rfl
 rw [hH',hq'] at hz
 simp only [←hC,←hAm,←hBd] at h1 hI1 h2 hI2 h3 hv hbd ham hlf hlm
 have hci:=hz.c
 have HCI:Hid (∀W,Fr [] w W→CiAt W H'.H q'.C):=fun W hW=>hci.keep hW
 have HQZ:Hid (∀W,Fr [] w W→QuAt W H' q'):=fun W hW=>hz.keep hW
 have HRL:=Lib.hid hr
 obtain ⟨k1,k2,-⟩:=hbd
 obtain ⟨bd,hbd⟩:∃bd:Nat,q'.bad=(bd:Int):=⟨q'.bad.toNat,by omega⟩
 have hblt:bd<q'.C.bads.length:=by omega
 rw [show q'.bad.toNat=bd by omega] at h3
 obtain ⟨bb,bo,hbA,hbc⟩:=hci.b (by omega)
 have hxb:0≤q'.C.bads[bd]! ∧q'.C.bads[bd]! ≤4097:=by
  have :=valid_badI hv _ (mem_get hblt)
  have :=hv.m1
  omega
 have HBC:=Lib.hid (fun W (hW:Fr [] w W)=>hW.cellS (hbc bd hblt))
 obtain ⟨xb,hxe⟩:∃xb,q'.C.bads[bd]! =xb:=⟨_,rfl⟩
 simp only [hxe] at h3 hxb HBC
 have hyr:=litT_rng (b:=0) (l:=xb) (by omega) hxb
 have KLT:=Lib.hid (fun W=>lit_calls W 0 xb (by omega) hxb)
 obtain ⟨Y,hY⟩:∃Y,litT 0 xb=Y:=⟨_,rfl⟩
 simp only [hY] at h3 hyr KLT
 have hok:=iv_ok hv ham hlm hnm
 have KFI:=Lib.hid (fun W (hW:Fr [] w W)=>uFirst_calls W H'.H q'.C (hci.keep hW) hv)
 have KLN:=Lib.hid (fun W (hW:Fr [] w W)=>uLink_calls W H'.H q'.C (hci.keep hW) hv 0 (by omega))
 have hb00:baU q'.C 0≤262144:=by unfold baU;omega
 have KFR:=Lib.hid (fun W (hW:Fr [] w W)=>uFrame_calls W H' q' (hz.keep hW) hv hLs hKs (ham.fine hv.m1) (by have :=ham.1;rw [List.length_map] at this;exact this) 0 (by omega) hb00)
 have KL1:=Lib.hid (fun W (hW:Fr [] w W) A c (hs:List Ls) (k1:RdL W A hs) (k2:∀k∈ybl A hs,k<W.heap.size) (k3:hs.map (·.l)=fstU q'.C q'.C.lat.length)=>iv_laid1 (H:=H') (q:=q') HCI.out hv hW (c:=c) k1 k2 k3 28)
 have KL2:=Lib.hid (fun W (hW:Fr [] w W) A c (hs:List Ls) A' c' (hs':List Ls) (k1:RdL W A hs) (k2:∀k∈ybl A hs,k<W.heap.size) (k4:RdL W A' hs') (k5:∀k∈ybl A' hs',k<W.heap.size) (k3:hs.map (·.l)=frameU q'.C (q'.am.map (·.l)) 0) (k6:hs'.map (·.l)=lnkU q'.C 0 q'.C.lat.length)=>iv_laid2 (H:=H') (q:=q') HCI.out hv ham hW (c:=c) (c':=c') k1 k2 k4 k5 k3 k6 28)
 have KAT:Hid (∀(w6:World) (g a:Nat),Fr [] w w6→At w6 g 83 (dvs H' q' a)→Calls Tryz.prog 21 #[.pointer (some ⟨g,0,none⟩), .slice A hs.length c, .int .i64 0] w6 fun e w'=>∃A' c' hs',e= .returned (.slice A' hs'.length c')∧NwLs w' w6.heap.size A' c' hs'∧hs'.map (·.l)=lsU q'.C (hs.map (·.l))∧Fr [] w6 w'):=fun w6 g a hw6 hd=>cat_calls w6 g a H' q' hd (hci.keep hw6) hv 0 (by omega) A c hs (hr.keep hw6) hlf hn
 have KAL:Hid (∀(w5 w6 w7:World) (g:Nat) (L:SvL),At w6 g 83 (dvs H' q' L.a)→OwnX [g] w5 w6 L (ivD q'.C (q'.am.map (·.l)))→∀A7 c7 hs7,NwLs w7 w6.heap.size A7 c7 hs7→hs7.map (·.l)=lsU q'.C (hs.map (·.l))→Fr [] w6 w7→Calls Tryz.prog 20 #[.pointer (some ⟨g,0,none⟩), .slice A7 hs7.length c7] w7 fun e w8=>e= .returned (.tuple #[])∧∃L8,L8.a=L.a∧At w8 g 83 (dvs H' q' L8.a)∧OwnX [g] w5 w8 L8 (ivS q'.C (q'.am.map (·.l)) (hs.map (·.l)))):=
  fun w5 w6 w7 g L hd ho A7 c7 hs7 hn7 hm7 hf7=>iv_all hv hlm hnm ham hd ho hn7 hm7 hf7
 have KF1:Hid (∀(wq:World),Fr [] w wq→∀(w5 w8:World) (g1 g2:Nat) (L1 L8:SvL),At w5 g1 83 (dvs H' q' L1.a)→OwnX [g1] wq w5 L1 (ivF q'.C)→At w8 g2 83 (dvs H' q' L8.a)→OwnX [g2] w5 w8 L8 (ivS q'.C (q'.am.map (·.l)) (hs.map (·.l)))→w5.heap.size≤g2→Calls Tryz.prog 22 #[.pointer (some ⟨g1,0,none⟩), .slice A hs.length c, .int .i64 0] w8 fun e w9=>∃b,e= .returned (.bool b)∧(b=false→∃S,Z1 S)∧Fr [] wq w9∧At w9 g2 83 (dvs H' q' L8.a)∧OwnX [g2] wq w9 L8 (ivS q'.C (q'.am.map (·.l)) (hs.map (·.l)))):=
  fun wq hwq w5 w8 g1 g2 L1 L8 d1 o1 d8 o8 hg=>iv_f1 (fun W hW=>HCI.out W (hwq.then_ hW)) hv d1 o1 hok.1 d8 o8 hg A c hs (hr.keep hwq) hlf hn I1 Z1 h1 hI1
 have KF2:Hid (∀(wq:World),Fr [] w wq→∀(w9:World) (g2:Nat) (L8:SvL),Fr [] wq w9→At w9 g2 83 (dvs H' q' L8.a)→OwnX [g2] wq w9 L8 (ivS q'.C (q'.am.map (·.l)) (hs.map (·.l)))→Calls Tryz.prog 22 #[.pointer (some ⟨g2,0,none⟩), .slice A hs.length c, .int .i64 1] w9 (FoP [g2] wq w9 L8.a (I2 hs.length) Z2)):=
  fun wq hwq w9 g2 L8 hf hd ho=>dfollows_calls w9 L8 _ ho hok.2 g2 H' q' hd (by simp) (hci.keep (hwq.then_ hf)) hv 1 (by omega) A c hs (hr.keep (hwq.then_ hf)) hlf hn I2 Z2 h2 hI2
 have KNV:Hid (∀(wq:World),Fr [] w wq→∀(w10:World) (g:Nat) (L:SvL) (S:Sv),At w10 g 83 (dvs H' q' L.a)→OwnX [g] wq w10 L S→S.Ok 0→I2 hs.length S→Calls Tryz.prog 36 #[.pointer (some ⟨g,0,none⟩), .slice (some ⟨w10.heap.size,0,none⟩) 1 1] (w10.alloc (.cells #[.int .i64 Y] 3)) fun e w'=>∃b,e= .returned (.bool b)∧(if b=true then ∃S,J S else ∃S,Z3 S)∧Fr [] wq w'):=
  fun wq hwq w10 g L S hd ho ok hI=>iv_nv hd ho ok hyr _ J Z3 hI h3
 have HB4:Hid (∀(W:World),At W w.heap.size 30 (qvs H' q')→W.cell? ⟨w.heap.size,4,none⟩=some (.slice (some ⟨bb,bo,none⟩) q'.C.bads.length H'.H.bC)∧W.cell? ⟨w.heap.size,11,none⟩=some (.int .i64 (bd:Int))):=fun W hW=>by
  obtain ⟨-,-,-,-,p4,-,-,-,-,-,-,p11,-,-⟩:=qbx_cells hW
  rw [hbA] at p4
  rw [hbd] at p11
  exact ⟨p4,p11⟩
 have hsw:∀W,At W w.heap.size 30 (qvs H q)→At ((W.setCell ⟨w.heap.size,9,none⟩ (.slice none 0 0)).setCell ⟨w.heap.size,10,none⟩ (.slice none 0 0)) w.heap.size 30 (qvs H' q'):=fun W hW=>by
  have :=(hW.set_ 9 (.slice none 0 0)).set_ 10 (.slice none 0 0)
  rw [←hH',←hq']
  exact this
 have HSW:=Lib.hid hsw
 have HQC:=Lib.hid (fun W (hW:At W w.heap.size 30 (qvs H' q'))=>qbx_cells hW)
 simp only [qval,qvs] at KRI KL1 KL2 KFR hw1⊢
 simp only [cval,cvs] at KFI KLN
 clear h hr hR hz hci hv ham hlf hlm hnm hok hyr hY hbA hbc hbd hxe hxb h1 hI1 h2 hI2 h3 hsw hC hAm hBd hLs hKs hH' hq' hb00 k1 k2 hf1 HRA HRL
 go_enter Tryz.func16,Tryz.ntmps16
 go_upto_region 1 with fail
 obtain ⟨q0,q1,q2,q3,q4,q5,q6,q7,q8,q9,q10,q11,q12,q13⟩:=qbx_cells HQ1.out
 go_wp2_with fail
 refine (KRI.out _ (Fr.refl _ w1)).mono ?_
 clear q0 q1 q2 q3 q4 q5 q6 q7 q8 q9 q10 q11 q12 q13
 clear KRI
 rintro e w2 ⟨rfl,hf2⟩
 have HF2:=Lib.hid (HF1.out.then_ hf2)
 have HQ2:=Lib.hid (HQ1.out.keep hf2)
 clear HF1 HQ1 hf2 hw1
 have r9:=HQ2.out.cell 9
 have r10:=HQ2.out.cell 10
 simp [qvs] at r9 r10
 have f9:=HQ2.out.frozen 9
 have f10:=HQ2.out.frozen 10
 go_upto_region 5 with fail
 obtain ⟨wq,hwq⟩:∃W,(w2.setCell ⟨w.heap.size,9,none⟩ (.slice none 0 0)).setCell ⟨w.heap.size,10,none⟩ (.slice none 0 0)=W:=⟨_,rfl⟩
 rw [hwq]
 have HQQ:=Lib.hid (HSW.out _ HQ2.out)
 rw [hwq] at HQQ
 have HFQ:Hid (Fr [] w wq):=by
  rw [←hwq]
  exact (HF2.out.setCell (.inr (Nat.le_refl _)) _).setCell (.inr (Nat.le_refl _)) _
 clear HSW HF2 HQ2 r9 r10 f9 f10 hwq
 have KF1:=Lib.hid (KF1.out wq HFQ.out)
 have KF2:=Lib.hid (KF2.out wq HFQ.out)
 have KNV:=Lib.hid (KNV.out wq HFQ.out)
 refine wp_region_noPanic ?_
 refine wp_region_C (fun w':World=>Fr [] wq w') 5 (by kernel_rfl) ((Fr.refl _ wq).drew) (fun hT0=> ?_)
 apply TB 3 [(0,[0,5]),(1,[]),(2,[2,3,5])];kernel_rfl;rfl;· (repeat (apply TBc;rfl;rfl;(· intro w hSw;(try (have hSw:=hSw.resolve_left (List.cons_ne_nil _ _);(obtain ⟨q0,q1,q2,q3,q4,q5,q6,q7,q8,q9,q10,q11,q12,q13⟩:=HQC.out _ (HQQ.out.keep hSw))));go_simp<;>with_reducible rfl);try simp only [Act.put,q5,q6,q7]));exact TBn
 exact hT0;intro hT0
 refine R2 3 (by kernel_rfl) (by rfl) hT0 fun K hK hSx=> ?_
 (go_simp;refine (KFI.out _ (HFQ.out.then_ hSx)).mono ?_;rintro e w3 ⟨A3,c3,hs3,rfl,hn3,hm3,hf3⟩;dsimp only);have HN3:=Lib.hid hn3;have HM3:=Lib.hid hm3;have HF3:=Lib.hid (hSx.then_ hf3);clear hn3 hm3 hf3
 refine hK.out _ _ (.inr ?_) (fun hT4=> ?_)
 ·first |exact HF3.out |exact hSx.alloc _ |exact hSx
 clear hK K
 try simp only [Act.put,q5,q6,q7]
 refine R2 4 (by kernel_rfl) (by rfl) hT4 fun K hK hSx=> ?_
 go_simp
 refine hK.out _ _ (.inr ?_) (fun hT5=> ?_)
 ·first |exact HF3.out |exact hSx.alloc _ |exact hSx
 clear hK K
 try simp only [Act.put,q5,q6,q7]
 refine R2 5 (by kernel_rfl) (by rfl) hT5 fun K hK hSx=> ?_
 (go_simp;refine (KL1.out _ (HFQ.out.then_ HF3.out) _ _ _ HN3.out.rdl (fun k hk=>(HN3.out.marks k hk).2) HM3.out).mono ?_;rintro e w5 ⟨g1,L1,rfl,hg1,hd1,ho1⟩;dsimp only);have HD1:=Lib.hid hd1;have HO1:=Lib.hid (ho1.young hSx);clear hg1 hd1 ho1 KL1 KFI HN3 HM3 HF3
 refine hK.out _ _ (.inl rfl) (fun hT6=> ?_)
 clear hK K
 try simp only [Act.put,q5,q6,q7]
 refine R1 (i:=6) (o:= ?or5u7) (by kernel_rfl) (by rfl) ?_
 intro K hK
 go_simp
 refine hK.out _ _ (.inl rfl) (fun hT7=> ?_)
 clear hK K
 try simp only [Act.put,q5,q6,q7]
 refine wpAnyC_done (by kernel_rfl) ?_ _
 refine NoPanic.normal ?_
 have HF5:=Lib.hid (HFQ.out.then_ HO1.out.own.fr)
 have HQ5:=Lib.hid (HQQ.out.keep HO1.out.own.fr)
 try clear hSx
 try clear hT0
 go_upto_region 6 with fail
 refine wp_region_noPanic ?_
 refine wp_region_C (fun w':World=>Fr [] w5 w') 7 (by kernel_rfl) ((Fr.refl _ w5).drew) (fun hT0=> ?_)
 apply TB 4 [(0,[0,7]),(1,[1,2,6,7]),(3,[]),(4,[4,5,7])];kernel_rfl;rfl;· (repeat (apply TBc;rfl;rfl;(· intro w hSw;(try (have hSw:=hSw.resolve_left (List.cons_ne_nil _ _);(obtain ⟨q0,q1,q2,q3,q4,q5,q6,q7,q8,q9,q10,q11,q12,q13⟩:=HQC.out _ (HQ5.out.keep hSw))));go_simp<;>with_reducible rfl);try simp only [Act.put,q5,q6,q7]));exact TBn
 exact hT0;intro hT0
 refine R2 2 (by kernel_rfl) (by rfl) hT0 fun K hK hSx=> ?_
 (go_simp;refine (KFR.out _ (HF5.out.then_ hSx)).mono ?_;rintro e wF ⟨AF,cF,hsF,rfl,hnF,hmF,hfF⟩;dsimp only);have HNF:=Lib.hid hnF;have HMF:=Lib.hid hmF;have HFF:=Lib.hid hfF;clear hnF hmF hfF
 refine hK.out _ _ (.inr ?_) (fun hT5=> ?_)
 ·first |exact hSx.then_ HFF.out |exact hSx.then_ HFL.out |exact hSx.alloc _ |exact hSx
 clear hK K
 try simp only [Act.put,q5,q6,q7]
 refine R2 5 (by kernel_rfl) (by rfl) hT5 fun K hK hSx=> ?_
 (go_simp;refine (KLN.out _ (HF5.out.then_ hSx)).mono ?_;rintro e wL ⟨AL,cL,hsL,rfl,hnL,hmL,hfL⟩;dsimp only);have HNL:=Lib.hid hnL;have HML:=Lib.hid hmL;have HFL:=Lib.hid hfL;clear hnL hmL hfL
 refine hK.out _ _ (.inr ?_) (fun hT6=> ?_)
 ·first |exact hSx.then_ HFF.out |exact hSx.then_ HFL.out |exact hSx.alloc _ |exact hSx
 clear hK K
 try simp only [Act.put,q5,q6,q7]
 refine R2 6 (by kernel_rfl) (by rfl) hT6 fun K hK hSx=> ?_
 (have HSB:=Lib.hid hSx;go_simp)
 refine hK.out _ _ (.inr ?_) (fun hT7=> ?_)
 ·first |exact hSx.then_ HFF.out |exact hSx.then_ HFL.out |exact hSx.alloc _ |exact hSx
 clear hK K
 try simp only [Act.put,q5,q6,q7]
 refine R2 7 (by kernel_rfl) (by rfl) hT7 fun K hK hSx=> ?_
 (go_simp;refine (KL2.out _ (HF5.out.then_ HSB.out) _ _ _ _ _ _ (by first |exact HNF.out.rdl |exact HNF.out.rdl.keep HFL.out) (by first |exact (fun k hk=>(HNF.out.marks k hk).2) |exact (fun k hk=>Nat.lt_of_lt_of_le (HNF.out.marks k hk).2 HFL.out.size)) (by first |exact HNL.out.rdl |exact HNL.out.rdl.keep HFF.out) (by first |exact (fun k hk=>(HNL.out.marks k hk).2) |exact (fun k hk=>Nat.lt_of_lt_of_le (HNL.out.marks k hk).2 HFF.out.size)) HMF.out HML.out).mono ?_;rintro e w6 ⟨g2,L2,rfl,hg2,hd2,ho2⟩;dsimp only);have HG2:=Lib.hid (Nat.le_trans hSx.size hg2);have HD2:=Lib.hid hd2;have HO2:=Lib.hid (ho2.young hSx);clear hg2 hd2 ho2 KL2 KFR KLN HNF HMF HFF HNL HML HFL HSB
 refine hK.out _ _ (.inl rfl) (fun hT8=> ?_)
 clear hK K
 try simp only [Act.put,q5,q6,q7]
 refine R1 (i:=8) (o:= ?or6u9) (by kernel_rfl) (by rfl) ?_
 intro K hK
 go_simp
 refine hK.out _ _ (.inl rfl) (fun hT9=> ?_)
 clear hK K
 try simp only [Act.put,q5,q6,q7]
 refine wpAnyC_done (by kernel_rfl) ?_ _
 refine NoPanic.normal ?_
 have HF6:=Lib.hid (HFQ.out.then_ (HO1.out.own.fr.then_ HO2.out.own.fr))
 try clear hSx
 try clear hT0
 have KA:=Lib.hid (KAT.out w6 g2 L2.a HF6.out HD2.out)
 clear KAT HF6
 go_wp2_with fail
 refine KA.out.mono ?_
 clear KA
 rintro e w7 ⟨A7,c7,hs7,rfl,hn7,hm7,hf7⟩
 have KB:=Lib.hid (KAL.out w5 w6 w7 g2 L2 HD2.out HO2.out A7 c7 hs7 hn7 hm7 hf7)
 clear hn7 hm7 hf7 KAL HD2 HO2
 go_wp2_with fail
 refine KB.out.mono ?_
 clear KB
 rintro e w8 ⟨rfl,L8,-,hd8,ho8⟩
 have KC:=Lib.hid (KF1.out w5 w8 g1 g2 L1 L8 HD1.out HO1.out hd8 ho8 HG2.out)
 clear hd8 ho8 KF1 HD1 HO1 HG2
 go_wp2_with fail
 refine KC.out.mono ?_
 clear KC
 rintro e w9 ⟨b1,rfl,hz1,hf9,hd9,ho9⟩
 have HF9:=Lib.hid hf9
 have HZ1:=Lib.hid hz1
 have KD:=Lib.hid (KF2.out w9 g2 L8 hf9 hd9 ho9)
 have HD9:=Lib.hid hd9
 clear hf9 hz1 hd9 ho9 KF2
 cases b1 with
 |false=>
  clear KD
  obtain ⟨sz,hsz⟩:=HZ1.out rfl
  have HSZ:=Lib.hid hsz
  clear HZ1 hsz
  go_wp2_with fail
  go_ret
  exact ⟨HFQ.out.then_ HF9.out, .inr ⟨rfl, .inl ⟨sz,HSZ.out⟩⟩⟩
 |true=>
  clear HZ1 HF9
  go_wp2_with fail
  refine KD.out.mono ?_
  clear KD
  rintro e w10 ⟨S10,b2,rfl,hok,hb2,L10,hL10,ho10,hst⟩
  have HF10:=Lib.hid ho10.own.fr
  have HB2:=Lib.hid hb2
  cases b2 with
  |false=>
   clear hok hb2 hL10 ho10 hst
   go_wp2_with fail
   go_ret
   exact ⟨HFQ.out.then_ HF10.out, .inr ⟨rfl, .inr (.inl ⟨S10,HB2.out⟩)⟩⟩
  |true=>
   have KE:=Lib.hid (KNV.out w10 g2 L10 S10 (by rw [hL10];exact hst.at_ HD9.out (by simp)) ho10 hok hb2)
   have HQ10:=Lib.hid (HQQ.out.keep HF10.out)
   obtain ⟨p4,p11⟩:=HB4.out w10 HQ10.out
   have cb:=HBC.out w10 (HFQ.out.then_ HF10.out)
   clear hok hb2 hL10 ho10 hst HB2 KNV HD9
   go_wp2_with fail
   refine (KLT.out _).mono ?_
   rintro e w11 ⟨rfl,rfl⟩
   go_wp2_with fail
   refine KE.out.mono ?_
   clear KE p4 p11 cb
   rintro e w12 ⟨b3,rfl,hb3,hf12⟩
   have HB3:=Lib.hid hb3
   have HF12:=Lib.hid hf12
   clear hb3 hf12
   cases b3 with
   |false=>
    go_wp2_with fail
    go_ret
    exact ⟨HFQ.out.then_ HF12.out, .inr ⟨rfl, .inr (.inr HB3.out)⟩⟩
   |true=>
    go_wp2_with fail
    go_ret
    exact ⟨HFQ.out.then_ HF12.out, .inl ⟨rfl,HB3.out⟩⟩
end Go.Proofs.YtjmmpfjcpdepjaaGreatDoor
