/- Parts of a proof. -/
import Derived.Test.YtjmmpfjcpdepjaaGreatDoorGAF
import Derived.StillTailTactics
import Derived.Recover
import Derived.Maps.OwnOps
import Derived.Maps.OwnSet
import Derived.Shelf.Abstract
set_option linter.unusedVariables false
set_option linter.unusedSimpArgs false
set_option maxHeartbeats 8000000
set_option maxRecDepth 100000
namespace Go.Proofs.YtjmmpfjcpdepjaaGreatDoor
open Go.RowKit
theorem size1 {k:ByteArray} (h:(k.size:Int)=1):∃c,k=⟨#[c]⟩:=by
 obtain ⟨⟨l⟩⟩:=k
 have hl:l.length=1:=by
  simp [ByteArray.size] at h
  omega
 match l,hl with
 |[c],_=>exact ⟨c,rfl⟩
theorem cntP_le {w:World} {H:Hd} {C:Pc} (h:CiAt w H C) (k:ByteArray):cntP C k≤17592186044416:=by
 have h1:=h.iL
 have h2:=h.lL
 have h3:=h.oL
 have h4:=h.bL
 have h5:=h.vL
 unfold cntP
 split
 ·omega
 ·split
  ·omega
  ·split
   ·omega
   ·split<;>omega
def oneB (C:Pc) (x:Nm):Bool:=decide ((x.k.size:Int)=1)&&decide (0≤posI (letter x.k))&&decide (0≤x.i)&&decide (x.i<cntP C x.k)&&textB x.t
def NamedTo (C:Pc) (k:Nat):Prop:=∀j:Nat,j<k→oneB C C.nms[j]! =true∧(0<j→rankI C.nms[j-1]! <rankI C.nms[j]!)
theorem NamedTo.zero (C:Pc):NamedTo C 0:=fun j hj=>absurd hj (Nat.not_lt_zero _)
theorem NamedTo.step {C:Pc} {k:Nat} (h:NamedTo C k) (h1:oneB C C.nms[k]! =true) (h2:0<k→rankI C.nms[k-1]! <rankI C.nms[k]!):NamedTo C (k+1):=fun j hj=>by
 by_cases e:j=k
 ·subst e;exact ⟨h1,h2⟩
 ·exact h j (by omega)
def NmP (C:Pc) (w:World) (e:Ending) (w':World):Prop:=∃b:Bool,e= .returned (.bool b)∧(b=true↔NamedTo C C.nms.length)∧Fr [] w w'
theorem named_calls (w:World) (H:Hd) (C:Pc) (h:CiAt w H C):
  Calls Tryz.prog 50 #[cval H C] w (NmP C w):=by
 have HH:=Lib.hid h
 have hnL:=h.nL
 have HCL:=Lib.hid (fun k=>cntP_le h k)
 clear h
 have NO:Hid (∀W,¬NamedTo C C.nms.length→Fr [] w W→NmP C w (.returned (.bool false)) W):=fun W h1 h2=>⟨false,rfl,by simp [h1],h2⟩
 have YES:Hid (∀W,NamedTo C C.nms.length→Fr [] w W→NmP C w (.returned (.bool true)) W):=fun W h1 h2=>⟨true,rfl,by simp [h1],h2⟩
 have HS:=Lib.hid (Cx.start w H C)
 have KC:=Lib.hid (fun W s=>pcount_calls W H C s)
 have RK:=Lib.hid (fun W c i t h0 h1=>rank_calls W c i t h0 h1)
 have NBD:Hid (∀k:Nat,k<C.nms.length→oneB C C.nms[k]! =false→¬NamedTo C C.nms.length):=fun k hk hb hn=>by
  have :=(hn k hk).1
  rw [hb] at this;cases this
 have NBR:Hid (∀k:Nat,k<C.nms.length→0<k→¬rankI C.nms[k-1]! <rankI C.nms[k]! →¬NamedTo C C.nms.length):=fun k hk h0 hb hn=>hb ((hn k hk).2 h0)
 obtain ⟨mx,ins,lat,outs,bads,invs,ands,nms⟩:=C
 obtain ⟨iA,iC,lA,lC,oA,oC,bA,bC,vA,vC,gA,gC,nA,nC⟩:=H
 simp only [cval,cvs] at *
 go_enter Tryz.func50,Tryz.ntmps50
 go_wp2_with fail
 go_loopg [8] nms.length (fun g i wr=>∃k:Nat,k+g=nms.length∧i= .int .i64 k∧Cx w wr ⟨iA,iC,lA,lC,oA,oC,bA,bC,vA,vC,gA,gC,nA,nC⟩ ⟨mx,ins,lat,outs,bads,invs,ands,nms⟩∧NamedTo ⟨mx,ins,lat,outs,bads,invs,ands,nms⟩ k)
 case atStart=>exact ⟨0,by omega,rfl,HS.out,NamedTo.zero _⟩
 case round=>
  obtain ⟨k,hk,rfl,hx,hn⟩:=hrel
  have HK:=Lib.hid hk
  have HX:=Lib.hid hx
  have HN:=Lib.hid hn
  have hkn:k≤nms.length:=by omega
  obtain ⟨c0,c1,c2,c3,c4,c5,c6,c7⟩:=hx.cells
  clear hk hx hn
  simp only at c0 c1 c2 c3 c4 c5 c6 c7
  by_cases hlt:k<nms.length
  ·obtain ⟨b,o,x,y,z,hA,he,cx,cy,cz,hx1,⟨hy1,hy2⟩,hz1⟩:=(HH.out.keep HX.out.fr).n.one HH.out.nr hlt
   simp only at hA
   subst hA
   go_upto_region 4 with fail
   obtain ⟨W1,hW1⟩:∃W,wr.alloc (.cells #[.string x, .int .i64 y, .string z] 134)=W:=⟨_,rfl⟩
   rw [hW1]
   have hO:At W1 wr.heap.size 134 #[.string x, .int .i64 y, .string z]:=hW1▸At.new _ _ _
   have HF1:Hid (Fr [] wr W1):=hW1▸box_fr _ _
   clear hW1 c0 c1 c2 c3 c4 c5 c6 c7 cx cy cz
   generalize wr.heap.size=ob at hO⊢
   have HX1:=Lib.hid (HX.out.keep HF1.out)
   have HO:=Lib.hid hO
   clear hO
   obtain ⟨hb,HB⟩:∃hb,Hid (oneB ⟨mx,ins,lat,outs,bads,invs,ands,nms⟩ ⟨x,y,z⟩=hb):=⟨_,rfl⟩
   obtain ⟨tb,HTB⟩:∃tb,Hid (textB z=tb):=⟨_,rfl⟩
   have KT0:=fun W=>text_calls W z hz1
   rw [HTB.out] at KT0
   have KT:=Lib.hid KT0
   obtain ⟨n,HNN⟩:∃n,Hid (cntP ⟨mx,ins,lat,outs,bads,invs,ands,nms⟩ x=n):=⟨_,rfl⟩
   have KQ0:=fun W=>KC.out W x
   rw [HNN.out] at KQ0
   have KQ:=Lib.hid KQ0
   clear KQ0 KT0
   have hxm:=hx1
   unfold maxLen at hxm
   go_cut [42] (fun st wx=>st= .bool (!hb)∧Fr [] W1 wx)
   case first =>
    have nx:W1.cell? ⟨ob,0,none⟩=some (.string x):=by rw [HO.out.cell];rfl
    have ny:W1.cell? ⟨ob,1,none⟩=some (.int .i64 y):=by rw [HO.out.cell];rfl
    have nz:W1.cell? ⟨ob,2,none⟩=some (.string z):=by rw [HO.out.cell];rfl
    have ex:=Ext.cell nx
    have ey:=Ext.cell ny
    have ez:=Ext.cell nz
    obtain ⟨e0,e1,e2,e3,e4,e5,e6,e7⟩:=HX1.out.ext
    simp only at e0 e1 e2 e3 e4 e5 e6 e7
    by_cases s1:(x.size:Int)=1
    ·obtain ⟨c,hc⟩:=size1 s1
     subst hc
     have KS:=Lib.hid (fun W=>strcontains W c)
     clear s1
     by_cases p0:0≤posI c
     ·have p0b:decide (0≤posI c)=true:=decide_eq_true p0
      have PL:Hid (posI (letter ⟨#[c]⟩)=posI c):=rfl
      by_cases h0:0≤y
      ·have d0:decide (y<0)=false:=decide_eq_false (by omega)
       by_cases h1:y<n
       ·have d1:decide (n≤y)=false:=decide_eq_false (by omega)
        go_wp2_with fail
        refine wp_region_ext (by kernel_rfl) (by kernel_rfl) ?_
        repeat (go_big_quiet_step (first | (go_at_call 92;exact call_same (KS.out _)) | (go_at_call 93;exact call_ext (KQ.out _)) | (go_at_call 94;exact call_ext (KT.out _))))
        refine wpQuiet_nil ?_
        rintro w2 ⟨u2,hu2⟩
        have HF_w2:Hid (Fr [] W1 w2):=hu2▸u2.fr
        clear hu2 u2
        go_wp2_with fail
        go_meet
        exact ⟨by rw [←HB.out];simp [oneB,PL.out,p0,h0,HNN.out,h1,HTB.out,ByteArray.size],HF_w2.out⟩
       ·have d1:decide (n≤y)=true:=decide_eq_true (by omega)
        go_wp2_with fail
        refine wp_region_ext (by kernel_rfl) (by kernel_rfl) ?_
        repeat (go_big_quiet_step (first | (go_at_call 92;exact call_same (KS.out _)) | (go_at_call 93;exact call_ext (KQ.out _)) | (go_at_call 94;exact call_ext (KT.out _))))
        refine wpQuiet_nil ?_
        rintro w2 ⟨u2,hu2⟩
        have HF_w2:Hid (Fr [] W1 w2):=hu2▸u2.fr
        clear hu2 u2
        go_wp2_with fail
        go_meet
        exact ⟨by rw [←HB.out];simp [oneB,HNN.out,h1],HF_w2.out⟩
      ·have d0:decide (y<0)=true:=decide_eq_true (by omega)
       go_wp2_with fail
       refine wp_region_ext (by kernel_rfl) (by kernel_rfl) ?_
       repeat (go_big_quiet_step (first | (go_at_call 92;exact call_same (KS.out _)) | (go_at_call 93;exact call_ext (KQ.out _)) | (go_at_call 94;exact call_ext (KT.out _))))
       refine wpQuiet_nil ?_
       rintro w2 ⟨u2,hu2⟩
       have HF_w2:Hid (Fr [] W1 w2):=hu2▸u2.fr
       clear hu2 u2
       go_wp2_with fail
       go_meet
       exact ⟨by rw [←HB.out];simp [oneB,show ¬0≤y from by omega],HF_w2.out⟩
     ·have p0b:decide (0≤posI c)=false:=decide_eq_false p0
      have PL:Hid (posI (letter ⟨#[c]⟩)=posI c):=rfl
      go_wp2_with fail
      refine wp_region_ext (by kernel_rfl) (by kernel_rfl) ?_
      repeat (go_big_quiet_step (first | (go_at_call 92;exact call_same (KS.out _)) | (go_at_call 93;exact call_ext (KQ.out _)) | (go_at_call 94;exact call_ext (KT.out _))))
      refine wpQuiet_nil ?_
      rintro w2 ⟨u2,hu2⟩
      have HF_w2:Hid (Fr [] W1 w2):=hu2▸u2.fr
      clear hu2 u2
      go_wp2_with fail
      go_meet
      exact ⟨by rw [←HB.out];simp [oneB,PL.out,p0],HF_w2.out⟩
    ·have s1b:((x.size:Int) !=1)=true:=by simp [s1]
     have S1:=Lib.hid s1
     clear s1
     go_wp2_with fail
     refine wp_region_ext (by kernel_rfl) (by kernel_rfl) ?_
     repeat (go_big_quiet_step (fail))
     refine wpQuiet_nil ?_
     rintro w2 ⟨u2,hu2⟩
     have HF_w2:Hid (Fr [] W1 w2):=hu2▸u2.fr
     clear hu2 u2
     go_wp2_with fail
     go_meet
     exact ⟨by rw [←HB.out];simp [oneB,S1.out],HF_w2.out⟩
   case rest=>
    obtain ⟨rfl,hfc⟩:=hcut
    have HFC:=Lib.hid hfc
    clear hfc
    have HX2:=Lib.hid (HX1.out.keep HFC.out)
    have HO2:=Lib.hid (HO.out.keep HFC.out)
    cases hb with
    |false=>
     go_wp2_with fail
     go_ret
     exact NO.out _ (NBD.out k hlt (by rw [he.out];exact HB.out)) HX2.out.fr
    |true=>
     have hob:=HB.out
     simp only [oneB,Bool.and_eq_true,decide_eq_true_eq] at hob
     obtain ⟨⟨⟨⟨s1,p0⟩,h0⟩,h1⟩,_⟩:=hob
     obtain ⟨c,hc⟩:=size1 s1
     have h2:=HCL.out x
     subst hc
     have hyb:y≤17592186044416:=by omega
     clear s1 p0 h1 h2
     have nx:wc.cell? ⟨ob,0,none⟩=some (.string ⟨#[c]⟩):=by rw [HO2.out.cell];rfl
     have ny:wc.cell? ⟨ob,1,none⟩=some (.int .i64 y):=by rw [HO2.out.cell];rfl
     have nz:wc.cell? ⟨ob,2,none⟩=some (.string z):=by rw [HO2.out.cell];rfl
     have ex:=Ext.cell nx
     have ey:=Ext.cell ny
     have ez:=Ext.cell nz
     obtain ⟨e0,e1,e2,e3,e4,e5,e6,e7⟩:=HX2.out.ext
     simp only at e0 e1 e2 e3 e4 e5 e6 e7
     by_cases hk0:0<k
     ·obtain ⟨j,rfl⟩:∃j,k=j+1:=⟨k-1,by omega⟩
      obtain ⟨b',o',x',y',z',hA',he',cx',cy',cz',hx1',⟨hy1',hy2'⟩,hz1'⟩:=(HH.out.keep HX2.out.fr).n.one HH.out.nr (show j<nms.length by omega)
      simp only [Option.some.injEq,Addr.mk.injEq,and_true] at hA'
      obtain ⟨rfl,rfl⟩:=hA'
      have hob:=(HN.out j (by omega)).1
      simp only [he'.out] at hob
      simp only [oneB,Bool.and_eq_true,decide_eq_true_eq] at hob
      obtain ⟨⟨⟨⟨s1,p0⟩,h0'⟩,h1⟩,_⟩:=hob
      obtain ⟨c',hc'⟩:=size1 s1
      have h2:=HCL.out x'
      subst hc'
      have hyb':y'≤17592186044416:=by omega
      clear s1 p0 h1 h2
      have ex':=Ext.cell cx'
      have ey':=Ext.cell cy'
      have ez':=Ext.cell cz'
      clear cx' cy' cz' nx ny nz
      by_cases hr:posI c*2048+y≤posI c'*2048+y'
      ·have dr:decide (posI c*2048+y≤posI c'*2048+y')=true:=decide_eq_true hr
       have HR:=Lib.hid hr
       clear hr
       go_wp2_with fail
       refine wp_region_ext (by kernel_rfl) (by kernel_rfl) ?_
       repeat (go_big_quiet_step (exact call_ext (RK.out _ _ _ _ (by omega) (by omega))))
       refine wpQuiet_nil ?_
       rintro w2 ⟨u2,hu2⟩
       have HF_w2:Hid (Fr [] wc w2):=hu2▸u2.fr
       clear hu2 u2
       go_wp2_with fail
       go_ret
       exact NO.out _ (NBR.out (j+1) hlt hk0 (by rw [Nat.add_sub_cancel,he.out,he'.out];have :=HR.out;show posI c*2048+y≤posI c'*2048+y';omega)) (HX2.out.fr.then_ HF_w2.out)
      ·have dr:decide (posI c*2048+y≤posI c'*2048+y')=false:=decide_eq_false hr
       have HR:=Lib.hid hr
       clear hr
       go_wp2_with fail
       refine wp_region_ext (by kernel_rfl) (by kernel_rfl) ?_
       repeat (go_big_quiet_step (exact call_ext (RK.out _ _ _ _ (by omega) (by omega))))
       refine wpQuiet_nil ?_
       rintro w2 ⟨u2,hu2⟩
       have HF_w2:Hid (Fr [] wc w2):=hu2▸u2.fr
       clear hu2 u2
       go_wp2_with fail
       go_roundg (gk-1)
       case measure=>have :=HK.out;omega
       case rel=>exact ⟨j+2,by have :=HK.out;omega,by go_num,HX2.out.keep HF_w2.out,HN.out.step (by rw [he.out];exact HB.out) (fun h=>by rw [Nat.add_sub_cancel,he.out,he'.out];have :=HR.out;show posI c'*2048+y'<posI c*2048+y;omega)⟩
     ·obtain rfl :k=0:=by omega
      go_wp2_with fail
      refine wp_region_ext (by kernel_rfl) (by kernel_rfl) ?_
      repeat (go_big_quiet_step (fail))
      refine wpQuiet_nil ?_
      rintro w2 ⟨u2,hu2⟩
      have HF_w2:Hid (Fr [] wc w2):=hu2▸u2.fr
      clear hu2 u2
      go_wp2_with fail
      go_roundg (gk-1)
      case measure=>have :=HK.out;omega
      case rel=>exact ⟨1,by have :=HK.out;omega,by go_num,HX2.out.keep HF_w2.out,HN.out.step (by rw [he.out];exact HB.out) (fun h=>absurd h (Nat.lt_irrefl _))⟩
  ·have HT:Hid (NamedTo ⟨mx,ins,lat,outs,bads,invs,ands,nms⟩ nms.length):=(by rw [show nms.length=k from by omega];exact HN.out:NamedTo ⟨mx,ins,lat,outs,bads,invs,ands,nms⟩ nms.length)
   go_wp2_with fail
   go_ret
   exact YES.out _ HT.out HX.out.fr
def Dk (f:Int→List UInt8) (l:List Int):Prop:=∀v,R64 v→((f v).isEmpty=true↔∀x∈l,x/2≠v)
theorem Dk.nil:Dk (fun _=>[]) []:=fun v _=>by simp
theorem Dk.step {f:Int→List UInt8} {l:List Int} (h:Dk f l) (x:Int) (s:List UInt8) (hs:s.isEmpty=false):Dk (fun v=>if v=x/2 then s else f v) (l++[x]):=fun v hv=>by
 show (if v=x/2 then s else f v).isEmpty=true↔_
 by_cases e:v=x/2
 ·subst e
  rw [if_pos rfl,hs]
  constructor
  ·intro h;cases h
  ·intro hh
   exact absurd rfl (hh x (by simp))
 ·rw [if_neg e,h v hv]
  constructor
  ·intro hh y hy
   rcases List.mem_append.1 hy with hy |hy
   ·exact hh y hy
   ·simp only [List.mem_singleton] at hy
    subst hy
    exact fun h=>e h.symm
  ·intro hh y hy
   exact hh y (List.mem_append.2 (.inl hy))
theorem own_even {C:Pc} {l:List Int} {k:Nat} (h:OwnTo C l k) {x:Int} (hx:x∈l.take k):2≤x∧x%2=0∧x≤2*C.mx:=by
 obtain ⟨j,hj,e⟩:=List.mem_iff_getElem.1 hx
 rw [List.length_take] at hj
 have :=h j (by omega)
 simp only [ownB,Bool.and_eq_true,decide_eq_true_eq] at this
 have e2:l[j]! =x:=by
  rw [List.getElem_take] at e
  rw [List.getElem!_eq_getElem?_getD,List.getElem?_eq_getElem (by omega),←e]
  rfl
 rw [e2] at this
 exact ⟨this.1.1.1,this.1.1.2,this.1.2⟩
theorem def_eq {C:Pc} {l:List Int} {k:Nat} {f:Int→List UInt8} (h:OwnTo C l k) (hd:Dk f (l.take k)) (hr:R64 l[k]!):defB f l[k]! C.mx=ownB C l k:=by
 unfold defB ownB
 generalize hx:l[k]! =x at *
 by_cases h1:2≤x
 ·by_cases h2:x%2=0
  ·have e3:decide (x/2≤C.mx)=decide (x≤2*C.mx):=by
    by_cases h3:x≤2*C.mx
    ·rw [decide_eq_true h3,decide_eq_true (by omega)]
    ·rw [decide_eq_false h3,decide_eq_false (by omega)]
   have e4:(f (x/2)).isEmpty= !decide (x∈l.take k):=by
    have hR:R64 (x/2):=by
     unfold R64 at hr⊢
     omega
    by_cases hm:x∈l.take k
    ·have :(f (x/2)).isEmpty=false:=by
      rw [Bool.eq_false_iff]
      intro h5
      exact (hd _ hR).1 h5 x hm rfl
     rw [this,decide_eq_true hm]
     rfl
    ·have :(f (x/2)).isEmpty=true:=by
      rw [hd _ hR]
      intro y hy h5
      obtain ⟨y1,y2,_⟩:=own_even h hy
      have :y=x:=by omega
      exact hm (this▸hy)
     rw [this,decide_eq_false hm]
     rfl
   rw [e3,e4]
  ·rw [decide_eq_false h2];simp
 ·rw [decide_eq_false h1];simp
theorem get_app1 (a b:List Int) (k:Nat) (h:k<a.length):(a++b)[k]! =a[k]! :=by
 simp only [List.getElem!_eq_getElem?_getD,List.getElem?_append_left h]
theorem get_app2 (a b:List Int) (k:Nat):(a++b)[a.length+k]! =b[k]! :=by
 simp only [List.getElem!_eq_getElem?_getD,List.getElem?_append_right (Nat.le_add_right _ _),Nat.add_sub_cancel_left]
theorem get_map (l:List T3) (k:Nat) (h:k<l.length):(l.map fun x=>x.a)[k]! =(l[k]!).a:=by
 simp [h]
theorem own_in (C:Pc) (k:Nat) (h:k<C.ins.length):(ownL C)[k]! =C.ins[k]! :=by
 unfold ownL
 rw [List.append_assoc,get_app1 _ _ _ h]
theorem own_lat (C:Pc) (k:Nat) (h:k<C.lat.length):(ownL C)[C.ins.length+k]! =(C.lat[k]!).a:=by
 unfold ownL
 rw [List.append_assoc,get_app2,get_app1 _ _ _ (by simpa using h),get_map _ _ h]
theorem own_and (C:Pc) (k:Nat) (h:k<C.ands.length):(ownL C)[C.ins.length+C.lat.length+k]! =(C.ands[k]!).a:=by
 have :=get_app2 (C.ins++C.lat.map fun x=>x.a) (C.ands.map fun x=>x.a) k
 rw [List.length_append,List.length_map] at this
 unfold ownL
 rw [this,get_map _ _ h]
theorem ownL_len (C:Pc):(ownL C).length=C.ins.length+C.lat.length+C.ands.length:=by simp [ownL];omega
structure DefOk (C:Pc):Prop where
 own:∀j:Nat,j<(ownL C).length→ownB C (ownL C) j=true
 rst:∀j:Nat,j<C.lat.length→rstB C.lat[j]! =true
 ris:∀j:Nat,j<C.ands.length→0<j→(C.ands[j-1]!).a<(C.ands[j]!).a
def DfP (C:Pc) (w:World) (e:Ending) (w':World):Prop:=((DefOk C∧∃g b n f,e= .returned (.pointer (some ⟨g,0,none⟩))∧Ms w' g b n f∧Dk f (ownL C))∨(¬DefOk C∧e=Fault))∧Fr [] w w'
structure Df (w wr:World) (H:Hd) (C:Pc) (g b i:Nat) (f:Int→List UInt8):Prop where
 cx:Cx w wr H C
 ms:Ms wr g b i f
 dk:Dk f ((ownL C).take i)
 upto:OwnTo C (ownL C) i
theorem Df.keep {w wr w':World} {H:Hd} {C:Pc} {g b i:Nat} {f:Int→List UInt8} (h:Df w wr H C g b i f) (hf:Fr [] wr w'):Df w w' H C g b i f:=⟨h.cx.keep hf,h.ms.keep hf,h.dk,h.upto⟩
theorem Df.put {w wr w':World} {H:Hd} {C:Pc} {g b i:Nat} {f:Int→List UInt8} (h:Df w wr H C g b i f) (hi:i<(ownL C).length) (hb:w.heap.size<b) (s:List UInt8) (hs:s.isEmpty=false)
  (ho:ownB C (ownL C) i=true) (hm:Ms w' g b (i+1) (fun v=>if v=(ownL C)[i]! /2 then s else f v)) (hf:Fr [b] wr w'):Df w w' H C g b (i+1) (fun v=>if v=(ownL C)[i]! /2 then s else f v):=
 ⟨⟨h.cx.fr.trans hf (fun x hx=> .inr (by simp at hx;omega)),hf.at_ h.cx.bx (by simp;omega)⟩,hm,by rw [take_snoc _ _ hi];exact h.dk.step _ _ hs,h.upto.step ho⟩
theorem rst_cases {x y z:Int} {rb:Bool} (h:rstB ⟨x,y,z⟩=rb):(rb=true∧(z=0∨(z≠0∧z=1)∨(z≠0∧z≠1∧z=x)))∨(rb=false∧z≠0∧z≠1∧z≠x):=by
 subst h
 by_cases a1:z=0
 ·exact .inl ⟨by simp [rstB,a1], .inl a1⟩
 ·by_cases a2:z=1
  ·exact .inl ⟨by simp [rstB,a2], .inr (.inl ⟨a1,a2⟩)⟩
  ·by_cases a3:z=x
   ·exact .inl ⟨by simp [rstB,a3], .inr (.inr ⟨a1,a2,a3⟩)⟩
   ·exact .inr ⟨by simp [rstB,a1,a2,a3],a1,a2,a3⟩
theorem Df.start (w:World) (H:Hd) (C:Pc):Df w (((w.alloc (.cells (cvs H C) 27)).alloc (.map #[] 0)).alloc (.cells #[.map (some (w.heap.size+1))] 131)) H C (w.heap.size+1+1) (w.heap.size+1) 0 (fun _=>[]):=by
 refine ⟨(((Cx.start w H C).keep (box_fr _ _)).keep (box_fr _ _)),⟨?_,?_⟩,?_,fun j hj=>absurd hj (Nat.not_lt_zero _)⟩
 ·have :=At.new ((w.alloc (.cells (cvs H C) 27)).alloc (.map #[] 0)) 131 #[.map (some (w.heap.size+1))]
  simpa using this
 ·have :=(Met.new (w.alloc (.cells (cvs H C) 27))).keep (box_fr _ (.cells #[.map (some (w.heap.size+1))] 131))
  simpa using this
 ·rw [List.take_zero];exact Dk.nil
theorem defined_calls (w:World) (H:Hd) (C:Pc) (h:CiAt w H C) (h64:C.ins.length≤64) (h65:C.lat.length≤64) (hm0:0≤C.mx) (hm1:C.mx≤2048):
  Calls Tryz.prog 47 #[cval H C] w (DfP C w):=by
 have HH:=Lib.hid h
 have hgL:=h.gL
 clear h
 have NO:Hid (∀W,¬DefOk C→Fr [] w W→DfP C w Fault W):=fun W h1 h2=>⟨.inr ⟨h1,rfl⟩,h2⟩
 have YES:Hid (∀W g b n f,DefOk C→Ms W g b n f→Dk f (ownL C)→Fr [] w W→DfP C w (.returned (.pointer (some ⟨g,0,none⟩))) W):=fun W g b n f h1 h2 h3 h4=>⟨.inl ⟨h1,g,b,n,f,rfl,h2,h3⟩,h4⟩
 have NOW:Hid (∀j,j<(ownL C).length→ownB C (ownL C) j=false→¬DefOk C):=fun j hj hb hd=>by
  have :=hd.own j hj
  rw [hb] at this;cases this
 have NRS:Hid (∀j,j<C.lat.length→rstB C.lat[j]! =false→¬DefOk C):=fun j hj hb hd=>by
  have :=hd.rst j hj
  rw [hb] at this;cases this
 have NRI:Hid (∀j,j<C.ands.length→0<j→¬(C.ands[j-1]!).a<(C.ands[j]!).a→¬DefOk C):=fun j hj h0 hb hd=>hb (hd.ris j hj h0)
 have HOK:=Lib.hid (fun (h1:∀j:Nat,j<(ownL C).length→ownB C (ownL C) j=true) (h2:∀j:Nat,j<C.lat.length→rstB C.lat[j]! =true) (h3:∀j:Nat,j<C.ands.length→0<j→(C.ands[j-1]!).a<(C.ands[j]!).a)=>(⟨h1,h2,h3⟩:DefOk C))
 have HLE:=Lib.hid (ownL_len C)
 have HOI:=Lib.hid (own_in C)
 have HOL:=Lib.hid (own_lat C)
 have HOA:=Lib.hid (own_and C)
 have HS:=Lib.hid (Cx.start w H C)
 obtain ⟨mx,ins,lat,outs,bads,invs,ands,nms⟩:=C
 obtain ⟨iA,iC,lA,lC,oA,oC,bA,bC,vA,vC,gA,gC,nA,nC⟩:=H
 simp only [cval,cvs] at *
 have hmm:=@run_makeMap Tryz.prog
 have HDS:=Lib.hid (Df.start w ⟨iA,iC,lA,lC,oA,oC,bA,bC,vA,vC,gA,gC,nA,nC⟩ ⟨mx,ins,lat,outs,bads,invs,ands,nms⟩)
 simp only [cvs] at HDS
 go_enter Tryz.func47,Tryz.ntmps47
 go_upto_region 2 with fail
 obtain ⟨W0,hW0⟩:∃W,((w.alloc (.cells #[.int .i64 mx, .slice iA ins.length iC, .slice lA lat.length lC, .slice oA outs.length oC, .slice bA bads.length bC, .slice vA invs.length vC, .slice gA ands.length gC, .slice nA nms.length nC] 27)).alloc (.map #[] 0)).alloc (.cells #[.map (some (w.heap.size+1))] 131)=W:=⟨_,rfl⟩
 rw [hW0] at HDS⊢
 obtain ⟨gb,hgb⟩:∃gb,w.heap.size+1=gb:=⟨_,rfl⟩
 rw [hgb] at HDS⊢
 obtain ⟨ga,hga⟩:∃ga,gb+1=ga:=⟨_,rfl⟩
 rw [hga] at HDS⊢
 have hgab:ga≠gb:=by omega
 have hlb:w.heap.size<gb:=by omega
 have HGA:=Lib.hid hgab
 clear hW0 hga hgb hmm hgab
 have hx:=HDS.out.cx
 obtain ⟨c0,c1,c2,c3,c4,c5,c6,c7⟩:=hx.cells
 clear hx
 simp only at c0 c1 c2 c3 c4 c5 c6 c7
 go_wp2_with fail
 clear c0 c1 c2 c3 c4 c5 c6 c7
 go_loopg [16] ins.length (fun g i wr=>∃(k:Nat) (f:Int→List UInt8),k+g=ins.length∧i= .int .i64 k∧Df w wr ⟨iA,iC,lA,lC,oA,oC,bA,bC,vA,vC,gA,gC,nA,nC⟩ ⟨mx,ins,lat,outs,bads,invs,ands,nms⟩ ga gb k f)
 case atStart=>exact ⟨0,_,by omega,rfl,HDS.out⟩
 case round=>
  clear HDS
  obtain ⟨k,f,hk,rfl,hx⟩:=hrel
  have HK:=Lib.hid hk
  have HX:=Lib.hid hx
  have hkn:k≤ins.length:=by omega
  obtain ⟨c0,c1,c2,c3,c4,c5,c6,c7⟩:=hx.cx.cells
  clear hk hx
  simp only at c0 c1 c2 c3 c4 c5 c6 c7
  by_cases hlt:k<ins.length
  ·obtain ⟨b,o,x,hA,he,cx,hx1,hx2⟩:=(HH.out.keep HX.out.cx.fr).i.one HH.out.ir hlt
   simp only at hA
   subst hA
   have HO:Hid ((ownL ⟨mx,ins,lat,outs,bads,invs,ands,nms⟩)[k]! =x):=(HOI.out k hlt).trans he.out
   have HJ:Hid (k<(ownL ⟨mx,ins,lat,outs,bads,invs,ands,nms⟩).length):=(by rw [HLE.out];omega:k<(ownL ⟨mx,ins,lat,outs,bads,invs,ands,nms⟩).length)
   have HDE:Hid (defB f x mx=ownB ⟨mx,ins,lat,outs,bads,invs,ands,nms⟩ (ownL ⟨mx,ins,lat,outs,bads,invs,ands,nms⟩) k):=(by have :=def_eq HX.out.upto HX.out.dk (by rw [HO.out];exact ⟨hx1,hx2⟩);rw [HO.out] at this;exact this:defB f x mx=ownB ⟨mx,ins,lat,outs,bads,invs,ands,nms⟩ (ownL ⟨mx,ins,lat,outs,bads,invs,ands,nms⟩) k)
   obtain ⟨q,HQ⟩:∃q,Hid (ownB ⟨mx,ins,lat,outs,bads,invs,ands,nms⟩ (ownL ⟨mx,ins,lat,outs,bads,invs,ands,nms⟩) k=q):=⟨_,rfl⟩
   go_wp2_with fail
   cases q with
   |true=>
    refine (define_ok wr ga gb k f x mx _ HX.out.ms HGA.out ⟨hx1,hx2⟩ (HDE.out.trans HQ.out) (by simp [ByteArray.size]) (by omega)).mono ?_
    rintro e w2 ⟨rfl,hm,hf⟩
    have HX2:=Lib.hid (HX.out.put HJ.out hlb [105] rfl HQ.out (by rw [HO.out];exact hm) hf)
    clear hm hf c0 c1 c2 c3 c4 c5 c6 c7 cx
    go_wp2_with fail
    go_roundg (gk-1)
    case measure=>have :=HK.out;omega
    case rel=>exact ⟨k+1,_,by have :=HK.out;omega,by go_num,HX2.out⟩
   |false=>
    refine (define_bad wr ga gb k f x mx _ HX.out.ms ⟨hx1,hx2⟩ (HDE.out.trans HQ.out)).mono ?_
    unfold Fault
    rintro e w2 ⟨rfl,rfl⟩
    go_wp2_with fail
    exact ⟨rfl,NO.out _ (NOW.out k HJ.out HQ.out) HX.out.cx.fr⟩
  ·obtain rfl :k=ins.length:=by omega
   have HD1:=HX
   clear HX HK hkn hlt
   go_wp2_with fail
   clear c0 c1 c2 c3 c4 c5 c6 c7
   go_loopg [29] lat.length (fun g i wr=>∃(k:Nat) (f:Int→List UInt8),k+g=lat.length∧i= .int .i64 k∧Df w wr ⟨iA,iC,lA,lC,oA,oC,bA,bC,vA,vC,gA,gC,nA,nC⟩ ⟨mx,ins,lat,outs,bads,invs,ands,nms⟩ ga gb (ins.length+k) f∧(∀j,j<k→rstB lat[j]! =true))
   case atStart=>exact ⟨0,_,by omega,rfl,HD1.out,fun j hj=>absurd hj (Nat.not_lt_zero _)⟩
   case round=>
    clear HD1 f
    obtain ⟨k,f,hk,rfl,hx,hrs⟩:=hrel
    have HK:=Lib.hid hk
    have HX:=Lib.hid hx
    have HRS:=Lib.hid hrs
    have hkn:k≤lat.length:=by omega
    obtain ⟨c0,c1,c2,c3,c4,c5,c6,c7⟩:=hx.cx.cells
    clear hk hx hrs
    simp only at c0 c1 c2 c3 c4 c5 c6 c7
    by_cases hlt:k<lat.length
    ·obtain ⟨b,o,x,y,z,hA,he,cx,cy,cz,⟨hx1,hx2⟩,⟨hy1,hy2⟩,_,_⟩:=(HH.out.keep HX.out.cx.fr).l.one HH.out.lr hlt
     simp only at hA
     subst hA
     have HO:Hid ((ownL ⟨mx,ins,lat,outs,bads,invs,ands,nms⟩)[ins.length+k]! =x):=(HOL.out k hlt).trans (by rw [he.out])
     have HJ:Hid (ins.length+k<(ownL ⟨mx,ins,lat,outs,bads,invs,ands,nms⟩).length):=(by rw [HLE.out];omega:ins.length+k<(ownL ⟨mx,ins,lat,outs,bads,invs,ands,nms⟩).length)
     have HDE:Hid (defB f x mx=ownB ⟨mx,ins,lat,outs,bads,invs,ands,nms⟩ (ownL ⟨mx,ins,lat,outs,bads,invs,ands,nms⟩) (ins.length+k)):=(by have :=def_eq HX.out.upto HX.out.dk (by rw [HO.out];exact ⟨hx1,hx2⟩);rw [HO.out] at this;exact this:defB f x mx=ownB ⟨mx,ins,lat,outs,bads,invs,ands,nms⟩ (ownL ⟨mx,ins,lat,outs,bads,invs,ands,nms⟩) (ins.length+k))
     obtain ⟨q,HQ⟩:∃q,Hid (ownB ⟨mx,ins,lat,outs,bads,invs,ands,nms⟩ (ownL ⟨mx,ins,lat,outs,bads,invs,ands,nms⟩) (ins.length+k)=q):=⟨_,rfl⟩
     go_upto_region 10 with fail
     obtain ⟨W1,hW1⟩:∃W,wr.alloc (.cells #[.int .i64 x, .int .i64 y, .int .i64 z] 63)=W:=⟨_,rfl⟩
     rw [hW1]
     have hO:At W1 wr.heap.size 63 #[.int .i64 x, .int .i64 y, .int .i64 z]:=hW1▸At.new _ _ _
     have HX1:Hid (Fr [] wr W1):=hW1▸box_fr _ _
     have HOB:Hid (wr.heap.size≠gb):=fun e=>Nat.lt_irrefl _ (e▸HX.out.ms.met.lt)
     clear hW1 c0 c1 c2 c3 c4 c5 c6 c7 cx cy cz
     generalize wr.heap.size=ob at hO HOB⊢
     have HX2:=Lib.hid (HX.out.keep HX1.out)
     have HO1:=Lib.hid hO
     have n0:W1.cell? ⟨ob,0,none⟩=some (.int .i64 x):=by rw [hO.cell];rfl
     clear hO
     obtain ⟨c0,c1,c2,c3,c4,c5,c6,c7⟩:=HX2.out.cx.cells
     simp only at c0 c1 c2 c3 c4 c5 c6 c7
     go_wp2_with fail
     cases q with
     |true=>
      refine (define_ok W1 ga gb (ins.length+k) f x mx _ HX2.out.ms HGA.out ⟨hx1,hx2⟩ (HDE.out.trans HQ.out) (by simp [ByteArray.size]) (by omega)).mono ?_
      rintro e w2 ⟨rfl,hm,hf⟩
      have HO2:=Lib.hid (hf.at_ HO1.out (by simp;exact HOB.out))
      have HX3:=Lib.hid (HX2.out.put HJ.out hlb [108] rfl HQ.out (by rw [HO.out];exact hm) hf)
      clear hm hf c0 c1 c2 c3 c4 c5 c6 c7 n0
      have n0:w2.cell? ⟨ob,0,none⟩=some (.int .i64 x):=by rw [HO2.out.cell];rfl
      have n2:w2.cell? ⟨ob,2,none⟩=some (.int .i64 z):=by rw [HO2.out.cell];rfl
      obtain ⟨rb,HRB⟩:∃rb,Hid (rstB ⟨x,y,z⟩=rb):=⟨_,rfl⟩
      go_upto_region 11 with fail
      have hz:=rst_cases HRB.out
      rcases hz with ⟨rfl,z0 |⟨z0,z1⟩ |⟨z0,z1,z2⟩⟩ |⟨rfl,z0,z1,z2⟩
      ·have b0:(z==0)=true:=by simp [z0]
       clear z0
       go_wp2_with fail
       refine (need_yes _).mono ?_
       rintro e w3 ⟨rfl,rfl⟩
       go_wp2_with fail
       go_roundg (gk-1)
       case measure=>have :=HK.out;omega
       case rel=>exact ⟨k+1,_,by have :=HK.out;omega,by go_num,HX3.out,fun j hj=>by
        by_cases ej:j=k
        ·subst ej;rw [he.out];exact HRB.out
        ·exact HRS.out j (by omega)⟩
      ·have b0:(z==0)=false:=by simp [z0]
       have b1:(z==1)=true:=by simp [z1]
       clear z0 z1
       go_wp2_with fail
       refine (need_yes _).mono ?_
       rintro e w3 ⟨rfl,rfl⟩
       go_wp2_with fail
       go_roundg (gk-1)
       case measure=>have :=HK.out;omega
       case rel=>exact ⟨k+1,_,by have :=HK.out;omega,by go_num,HX3.out,fun j hj=>by
        by_cases ej:j=k
        ·subst ej;rw [he.out];exact HRB.out
        ·exact HRS.out j (by omega)⟩
      ·have b0:(z==0)=false:=by simp [z0]
       have b1:(z==1)=false:=by simp [z1]
       have b2:(z==x)=true:=by simp [z2]
       clear z0 z1 z2
       go_wp2_with fail
       refine (need_yes _).mono ?_
       rintro e w3 ⟨rfl,rfl⟩
       go_wp2_with fail
       go_roundg (gk-1)
       case measure=>have :=HK.out;omega
       case rel=>exact ⟨k+1,_,by have :=HK.out;omega,by go_num,HX3.out,fun j hj=>by
        by_cases ej:j=k
        ·subst ej;rw [he.out];exact HRB.out
        ·exact HRS.out j (by omega)⟩
      ·have b0:(z==0)=false:=by simp [z0]
       have b1:(z==1)=false:=by simp [z1]
       have b2:(z==x)=false:=by simp [z2]
       clear z0 z1 z2
       go_wp2_with fail
       refine (need_no _).mono ?_
       unfold Fault
       rintro e w3 ⟨rfl,rfl⟩
       go_wp2_with fail
       exact ⟨rfl,NO.out _ (NRS.out k hlt (by rw [he.out];exact HRB.out)) HX3.out.cx.fr⟩
     |false=>
      refine (define_bad W1 ga gb (ins.length+k) f x mx _ HX2.out.ms ⟨hx1,hx2⟩ (HDE.out.trans HQ.out)).mono ?_
      unfold Fault
      rintro e w2 ⟨rfl,rfl⟩
      go_wp2_with fail
      exact ⟨rfl,NO.out _ (NOW.out _ HJ.out HQ.out) HX2.out.cx.fr⟩
    ·obtain rfl :k=lat.length:=by omega
     have HD1:=HX
     have HRT:=HRS
     clear HX HK hkn hlt HRS
     go_wp2_with fail
     clear c0 c1 c2 c3 c4 c5 c6 c7
     go_loopg [59] ands.length (fun g i wr=>∃(k:Nat) (f:Int→List UInt8),k+g=ands.length∧i= .int .i64 k∧Df w wr ⟨iA,iC,lA,lC,oA,oC,bA,bC,vA,vC,gA,gC,nA,nC⟩ ⟨mx,ins,lat,outs,bads,invs,ands,nms⟩ ga gb (ins.length+lat.length+k) f∧(∀j,j<k→0<j→(ands[j-1]!).a<(ands[j]!).a))
     case atStart=>exact ⟨0,_,by omega,rfl,HD1.out,fun j hj=>absurd hj (Nat.not_lt_zero _)⟩
     case round=>
      clear HD1 f
      obtain ⟨k,f,hk,rfl,hx,hrs⟩:=hrel
      have HK:=Lib.hid hk
      have HX:=Lib.hid hx
      have HRS:=Lib.hid hrs
      have hkn:k≤ands.length:=by omega
      obtain ⟨c0,c1,c2,c3,c4,c5,c6,c7⟩:=hx.cx.cells
      clear hk hx hrs
      simp only at c0 c1 c2 c3 c4 c5 c6 c7
      by_cases hlt:k<ands.length
      ·obtain ⟨b,o,x,y,z,hA,he,cx,cy,cz,⟨hx1,hx2⟩,⟨hy1,hy2⟩,_,_⟩:=(HH.out.keep HX.out.cx.fr).g.one HH.out.gr hlt
       simp only at hA
       subst hA
       have HO:Hid ((ownL ⟨mx,ins,lat,outs,bads,invs,ands,nms⟩)[ins.length+lat.length+k]! =x):=(HOA.out k hlt).trans (by rw [he.out])
       have HJ:Hid (ins.length+lat.length+k<(ownL ⟨mx,ins,lat,outs,bads,invs,ands,nms⟩).length):=(by rw [HLE.out];omega:ins.length+lat.length+k<(ownL ⟨mx,ins,lat,outs,bads,invs,ands,nms⟩).length)
       have HDE:Hid (defB f x mx=ownB ⟨mx,ins,lat,outs,bads,invs,ands,nms⟩ (ownL ⟨mx,ins,lat,outs,bads,invs,ands,nms⟩) (ins.length+lat.length+k)):=(by have :=def_eq HX.out.upto HX.out.dk (by rw [HO.out];exact ⟨hx1,hx2⟩);rw [HO.out] at this;exact this:defB f x mx=ownB ⟨mx,ins,lat,outs,bads,invs,ands,nms⟩ (ownL ⟨mx,ins,lat,outs,bads,invs,ands,nms⟩) (ins.length+lat.length+k))
       obtain ⟨q,HQ⟩:∃q,Hid (ownB ⟨mx,ins,lat,outs,bads,invs,ands,nms⟩ (ownL ⟨mx,ins,lat,outs,bads,invs,ands,nms⟩) (ins.length+lat.length+k)=q):=⟨_,rfl⟩
       go_upto_region 16 with fail
       obtain ⟨W1,hW1⟩:∃W,wr.alloc (.cells #[.int .i64 x, .int .i64 y, .int .i64 z] 93)=W:=⟨_,rfl⟩
       rw [hW1]
       have hO:At W1 wr.heap.size 93 #[.int .i64 x, .int .i64 y, .int .i64 z]:=hW1▸At.new _ _ _
       have HX1:Hid (Fr [] wr W1):=hW1▸box_fr _ _
       have HOB:Hid (wr.heap.size≠gb):=fun e=>Nat.lt_irrefl _ (e▸HX.out.ms.met.lt)
       clear hW1 c0 c1 c2 c3 c4 c5 c6 c7 cx cy cz
       generalize wr.heap.size=ob at hO HOB⊢
       have HX2:=Lib.hid (HX.out.keep HX1.out)
       have HO1:=Lib.hid hO
       have n0:W1.cell? ⟨ob,0,none⟩=some (.int .i64 x):=by rw [hO.cell];rfl
       clear hO
       obtain ⟨c0,c1,c2,c3,c4,c5,c6,c7⟩:=HX2.out.cx.cells
       simp only at c0 c1 c2 c3 c4 c5 c6 c7
       go_wp2_with fail
       cases q with
       |true=>
        refine (define_ok W1 ga gb (ins.length+lat.length+k) f x mx _ HX2.out.ms HGA.out ⟨hx1,hx2⟩ (HDE.out.trans HQ.out) (by simp [ByteArray.size]) (by omega)).mono ?_
        rintro e w2 ⟨rfl,hm,hf⟩
        have HO2:=Lib.hid (hf.at_ HO1.out (by simp;exact HOB.out))
        have HX3:=Lib.hid (HX2.out.put HJ.out hlb [97] rfl HQ.out (by rw [HO.out];exact hm) hf)
        clear hm hf c0 c1 c2 c3 c4 c5 c6 c7 n0
        have n0:w2.cell? ⟨ob,0,none⟩=some (.int .i64 x):=by rw [HO2.out.cell];rfl
        obtain ⟨c0,c1,c2,c3,c4,c5,c6,c7⟩:=HX3.out.cx.cells
        simp only at c0 c1 c2 c3 c4 c5 c6 c7
        go_upto_region 17 with fail
        by_cases hk0:0<k
        ·have hkz:((k:Int)==0)=false:=by rw [beq_eq_false_iff_ne];omega
         obtain ⟨j,rfl⟩:∃j,k=j+1:=⟨k-1,by omega⟩
         obtain ⟨b',o',x',y',z',hA',he',cx',cy',cz',⟨hx1',hx2'⟩,_,_,_⟩:=(HH.out.keep HX3.out.cx.fr).g.one HH.out.gr (show j<ands.length by omega)
         simp only [Option.some.injEq,Addr.mk.injEq,and_true] at hA'
         obtain ⟨rfl,rfl⟩:=hA'
         clear cy' cz'
         have wj:IntKind.i64.wrap (j:Int)=j:=IntWalk.i64_in _ (by omega)
         have wj1:IntKind.i64.wrap ((j:Int)+1-1)=j:=by rw [Int.add_sub_cancel];exact wj
         have hj1:j<ands.length:=by omega
         have hj2:(j:Int)<(ands.length:Int):=by omega
         have hj3:0≤(j:Int):=by omega
         have hkz2:((j:Int)+1==0)=false:=by rw [beq_eq_false_iff_ne];omega
         clear wj1
         by_cases hr:x'<x
         ·have dr:decide (x'<x)=true:=decide_eq_true hr
          have HR:=Lib.hid hr
          clear hr
          go_still_tail 14,(by kernel_rfl)
          change wpList _ _ _ _ _ w2.drew
          have HX4:=Lib.hid (HX3.out.keep (Fr.refl [] w2).drew)
          generalize w2.drew=w4 at HX4⊢
          clear c0 c1 c2 c3 c4 c5 c6 c7 n0 cx'
          go_wp2_with fail
          refine (need_yes _).mono ?_
          rintro e w5 ⟨rfl,rfl⟩
          go_wp2_with fail
          have HRN:Hid (∀i,i<j+2→0<i→(ands[i-1]!).a<(ands[i]!).a):=fun i hi h0=>by
           by_cases ei:i=j+1
           ·subst ei;rw [Nat.add_sub_cancel,he.out,he'.out];exact HR.out
           ·exact HRS.out i (by omega) h0
          have HX5:Hid (Df w w4 _ ⟨mx,ins,lat,outs,bads,invs,ands,nms⟩ ga gb (ins.length+lat.length+(j+2)) _):=HX4.out
          go_roundg (gk-1)
          case measure=>have :=HK.out;omega
          case rel=>
           refine ⟨j+2,_,?_,?_,HX5.out,HRN.out⟩
           ·have :=HK.out;omega
           ·go_num
         ·have dr:decide (x'<x)=false:=decide_eq_false hr
          have HR:Hid (¬(ands[j+1-1]!).a<(ands[j+1]!).a):=(by rw [Nat.add_sub_cancel,he.out,he'.out];exact hr:¬(ands[j+1-1]!).a<(ands[j+1]!).a)
          have HND:=Lib.hid (NRI.out (j+1) hlt hk0 (Int.not_lt.1 HR.out))
          clear hr
          go_still_tail 14,(by kernel_rfl)
          change wpList _ _ _ _ _ w2.drew
          have HX4:=Lib.hid (HX3.out.keep (Fr.refl [] w2).drew)
          generalize w2.drew=w4 at HX4⊢
          clear c0 c1 c2 c3 c4 c5 c6 c7 n0 cx'
          go_wp2_with fail
          refine (need_no _).mono ?_
          unfold Fault
          rintro e w5 ⟨rfl,rfl⟩
          go_wp2_with fail
          exact ⟨rfl,NO.out _ HND.out HX4.out.cx.fr⟩
        ·obtain rfl :k=0:=by omega
         refine wp_region_ext (by kernel_rfl) (by kernel_rfl) ?_
         repeat (go_big_quiet_step (exact call_same (need_yes _)))
         refine wpQuiet_nil ?_
         rintro w4 ⟨u2,hu2⟩
         have HF_w4:Hid (Fr [] w2 w4):=hu2▸u2.fr
         clear hu2 u2
         have HX4:=Lib.hid (HX3.out.keep HF_w4.out)
         clear c0 c1 c2 c3 c4 c5 c6 c7 n0
         go_wp2_with fail
         go_roundg (gk-1)
         case measure=>have :=HK.out;omega
         case rel=>
          refine ⟨1,_,?_,?_,HX4.out,fun i hi h0=>absurd h0 (by omega)⟩
          ·have :=HK.out;omega
          ·go_num
       |false=>
        refine (define_bad W1 ga gb (ins.length+lat.length+k) f x mx _ HX2.out.ms ⟨hx1,hx2⟩ (HDE.out.trans HQ.out)).mono ?_
        unfold Fault
        rintro e w2 ⟨rfl,rfl⟩
        go_wp2_with fail
        exact ⟨rfl,NO.out _ (NOW.out _ HJ.out HQ.out) HX2.out.cx.fr⟩
      ·obtain rfl :k=ands.length:=by omega
       have HT:Hid (∀j:Nat,j<(ownL ⟨mx,ins,lat,outs,bads,invs,ands,nms⟩).length→ownB ⟨mx,ins,lat,outs,bads,invs,ands,nms⟩ (ownL ⟨mx,ins,lat,outs,bads,invs,ands,nms⟩) j=true):=fun j hj=>HX.out.upto j (by rw [HLE.out] at hj;exact hj)
       have HDK:Hid (Dk f (ownL ⟨mx,ins,lat,outs,bads,invs,ands,nms⟩)):=(by have :=HX.out.dk;rw [←HLE.out,List.take_length] at this;exact this:Dk f (ownL ⟨mx,ins,lat,outs,bads,invs,ands,nms⟩))
       go_wp2_with fail
       go_ret
       exact YES.out _ _ _ _ _ (HOK.out HT.out HRT.out HRS.out) HX.out.ms HDK.out HX.out.cx.fr
theorem assert_yes (w:World):(Instr.typeAssert (.iface 32 (.int .i64 9)) 20 32 true).run Tryz.prog w= .ok (.tuple #[.int .i64 9, .bool true]) w:=by kernel_rfl
theorem assert_no (w:World):(Instr.typeAssert .nilIface 20 32 true).run Tryz.prog w= .ok (.tuple #[.int .i64 0, .bool false]) w:=by kernel_rfl
theorem catch_panicking (p:Addr) (x:Value) (older:List PanicEntry) (w:World) (hc:w.cell? p=some x) (hz:w.frozen? p=false):
  CallsD Tryz.prog 45 #[.pointer (some p)] (.panicking ({ v:= .iface 32 (.int .i64 9),recovered:=false }::older)) w fun e u' w'=>
   e= .returned (.tuple #[])∧u'= .panicking ({ v:= .iface 32 (.int .i64 9),recovered:=true }::older)∧w'=w.setCell p (.int .i64 9):=by
 refine callsD_of_wpS Tryz.func45 rfl fun c₀ cs hu=> ?_
 apply wpS_seq
 apply wpS_region
 simp [wpOpsS,go_sem,recoverD,hu,Tryz.ntmps45,Exit.thenS,assert_yes]
 apply wpS_seq
 apply wpS_region
 simp [wpOpsS,go_sem,Exit.thenS]
 refine wpS_cond (t:=true) (by simp [Act.eval,Array.replicate]) ?_
 simp only [if_true]
 apply wpS_region
 simp [wpOpsS,go_sem,hc,hz,bodyPostS,results,Tryz.results45]
theorem catch_idle (p:Addr) (w:World):
  CallsD Tryz.prog 45 #[.pointer (some p)] .returning w fun e u' w'=>e= .returned (.tuple #[])∧u'= .returning∧w'=w:=by
 refine callsD_of_wpS Tryz.func45 rfl fun c₀ cs hu=> ?_
 apply wpS_seq
 apply wpS_region
 simp [wpOpsS,go_sem,recoverD,hu,Tryz.ntmps45,Exit.thenS,assert_no]
 apply wpS_seq
 apply wpS_region
 simp [wpOpsS,go_sem,Exit.thenS]
 refine wpS_cond (t:=false) (by simp [Act.eval,Array.replicate]) ?_
 simp only [Bool.false_eq_true,if_false]
 refine wpS_of_wp (wp_skip ?_)
 cases c₀
 simp_all [bodyPostS,results,Tryz.results45]
theorem pos_five {c:UInt8} (h:0≤posI c):c=105∨c=108∨c=111∨c=98∨c=99:=by
 by_cases e1:c=105
 ·exact .inl e1
 ·by_cases e2:c=108
  ·exact .inr (.inl e2)
  ·by_cases e3:c=111
   ·exact .inr (.inr (.inl e3))
   ·by_cases e4:c=98
    ·exact .inr (.inr (.inr (.inl e4)))
    ·by_cases e5:c=99
     ·exact .inr (.inr (.inr (.inr e5)))
     ·exfalso
      have n1:((105:UInt8)==c)=false:=by rw [beq_eq_false_iff_ne];exact fun h=>e1 h.symm
      have n2:((108:UInt8)==c)=false:=by rw [beq_eq_false_iff_ne];exact fun h=>e2 h.symm
      have n3:((111:UInt8)==c)=false:=by rw [beq_eq_false_iff_ne];exact fun h=>e3 h.symm
      have n4:((98:UInt8)==c)=false:=by rw [beq_eq_false_iff_ne];exact fun h=>e4 h.symm
      have n5:((99:UInt8)==c)=false:=by rw [beq_eq_false_iff_ne];exact fun h=>e5 h.symm
      simp [posI,Lib.indexByte,n1,n2,n3,n4,n5] at h
theorem kind_cases (C:Pc) (k:ByteArray):(∃c,k=⟨#[c]⟩∧0≤posI c∧cntP C k=cnt C k∧rk k=posI c)∨(cnt C k= -1∧¬((k.size:Int)=1∧0≤posI (letter k))):=by
 by_cases h:(k.size:Int)=1∧0≤posI (letter k)
 ·obtain ⟨c,hc⟩:=size1 h.1
  subst hc
  have hp:0≤posI c:=h.2
  refine .inl ⟨c,rfl,hp,?_,?_⟩
  ·rcases pos_five hp with rfl |rfl |rfl |rfl |rfl <;>simp [cntP,cnt]
  ·rcases pos_five hp with rfl |rfl |rfl |rfl |rfl <;>simp [rk,posI,Lib.indexByte]
 ·refine .inr ⟨?_,h⟩
  have ne:∀c:UInt8,0≤posI c→(k.toList==[c])=false:=fun c hc=>by
   rw [beq_eq_false_iff_ne]
   intro e
   apply h
   rw [ByteArray.toList_eq] at e
   have hs:k=⟨#[c]⟩:=by
    obtain ⟨⟨l⟩⟩:=k
    simp only at e
    rw [e]
   subst hs
   exact ⟨rfl,hc⟩
  have p1:0≤posI 105:=by decide
  have p2:0≤posI 108:=by decide
  have p3:0≤posI 111:=by decide
  have p4:0≤posI 98:=by decide
  have p5:0≤posI 99:=by decide
  simp [cnt,ne 105 p1,ne 108 p2,ne 111 p3,ne 98 p4,ne 99 p5]
theorem one_name (C:Pc) (x:Nm):oneB C x=nameB C x:=by
 unfold oneB nameB headB textB
 rcases kind_cases C x.k with ⟨c,hk,hp,hc,_⟩ |⟨hc,hn⟩
 ·have h1:decide ((x.k.size:Int)=1)=true:=by rw [hk];rfl
  have h2:decide (0≤posI (letter x.k))=true:=by rw [hk];exact decide_eq_true hp
  rw [h1,h2,hc]
  simp only [Bool.true_and,Bool.and_assoc]
 ·have h1:(decide ((x.k.size:Int)=1)&&decide (0≤posI (letter x.k)))=false:=by
   rw [Bool.eq_false_iff]
   intro h
   simp only [Bool.and_eq_true,decide_eq_true_eq] at h
   exact hn h
  rw [h1,hc]
  by_cases h0:0≤x.i
  ·rw [decide_eq_false (show ¬x.i< -1 by omega)]
   simp
  ·rw [decide_eq_false h0]
   simp
theorem cnt_le {C:Pc} (h1:C.ins.length≤64) (h2:C.lat.length≤64) (h3:C.outs.length≤64) (h4:C.bads.length≤64) (h5:C.invs.length≤64) (k:ByteArray):cnt C k≤64:=by
 unfold cnt
 split
 ·omega
 ·split
  ·omega
  ·split
   ·omega
   ·split
    ·omega
    ·split<;>omega
theorem name_parts {C:Pc} {x:Nm} (h:nameB C x=true):∃c,x.k=⟨#[c]⟩∧0≤posI c∧rk x.k=posI c∧0≤x.i∧x.i<cnt C x.k:=by
 simp only [nameB,headB,Bool.and_eq_true,decide_eq_true_eq] at h
 obtain ⟨⟨⟨⟨h0,h1⟩,_⟩,_⟩,_⟩:=h
 rcases kind_cases C x.k with ⟨c,hk,hp,_,hr⟩ |⟨hc,_⟩
 ·exact ⟨c,hk,hp,hr,h0,h1⟩
 ·omega
theorem pair_rank {C:Pc} {y x:Nm} (hl:∀k,cnt C k≤64) (hy:nameB C y=true) (hx:nameB C x=true):(rankI y<rankI x↔pairBad y x=false):=by
 obtain ⟨c1,k1,p1,r1,i1,j1⟩:=name_parts hy
 obtain ⟨c2,k2,p2,r2,i2,j2⟩:=name_parts hx
 have l1:=hl y.k
 have l2:=hl x.k
 have e1:letter y.k=c1:=by rw [k1];rfl
 have e2:letter x.k=c2:=by rw [k2];rfl
 have ek:(y.k.toList==x.k.toList)=decide (posI c1=posI c2):=by
  rw [k1,k2,toList1,toList1]
  rcases pos_five p1 with rfl |rfl |rfl |rfl |rfl <;>rcases pos_five p2 with rfl |rfl |rfl |rfl |rfl <;>decide
 unfold rankI pairBad
 rw [e1,e2,r1,r2,ek]
 simp only [Bool.or_eq_false_iff,Bool.and_eq_false_iff,decide_eq_false_iff_not]
 omega
theorem named_names {C:Pc} (hl:∀k,cnt C k≤64):NamedTo C C.nms.length↔namesB C=true:=by
 rw [names_iff]
 constructor
 ·intro h j hj
  obtain ⟨h1,h2⟩:=h j hj
  rw [one_name] at h1
  refine ⟨h1,fun h0=> ?_⟩
  have h3:=(h (j-1) (by omega)).1
  rw [one_name] at h3
  exact (pair_rank hl h3 h1).1 (h2 h0)
 ·intro h j hj
  obtain ⟨h1,h2⟩:=h j hj
  refine ⟨by rw [one_name];exact h1,fun h0=> ?_⟩
  exact (pair_rank hl (h (j-1) (by omega)).1 h1).2 (h2 h0)
theorem own_two {C:Pc} (h:∀j:Nat,j<(ownL C).length→ownB C (ownL C) j=true) {x:Int} (hx:x∈ownL C):2≤x:=by
 have :=own_even (k:=(ownL C).length) h (x:=x) (by rw [List.take_length];exact hx)
 exact this.1
theorem known_own (C:Pc) (h:∀x,x∈ownL C→2≤x) (v:Int) (hv:v≠0):knownB C v=true↔∃x∈ownL C,x/2=v:=by
 unfold knownB
 rw [decide_eq_false hv]
 simp only [Bool.false_or,Bool.or_eq_true,List.any_eq_true]
 have hh:∀x,x∈ownL C→(hit v x=true↔x/2=v):=fun x hx=>by
  have :=h x hx
  simp [hit,show 0≤x by omega]
 constructor
 ·rintro ((⟨x,hx,e⟩ |⟨x,hx,e⟩) |⟨x,hx,e⟩)
  ·have hm:x∈ownL C:=by unfold ownL;simp [hx]
   exact ⟨x,hm,(hh x hm).1 e⟩
  ·have hm:x.a∈ownL C:=by unfold ownL;simp only [List.mem_append,List.mem_map];exact .inl (.inr ⟨x,hx,rfl⟩)
   exact ⟨x.a,hm,(hh _ hm).1 e⟩
  ·have hm:x.a∈ownL C:=by unfold ownL;simp only [List.mem_append,List.mem_map];exact .inr ⟨x,hx,rfl⟩
   exact ⟨x.a,hm,(hh _ hm).1 e⟩
 ·rintro ⟨x,hm,e⟩
  have e':=(hh x hm).2 e
  unfold ownL at hm
  simp only [List.mem_append,List.mem_map] at hm
  rcases hm with (hx |⟨y,hy,rfl⟩) |⟨y,hy,rfl⟩
  ·exact .inl (.inl ⟨x,hx,e'⟩)
  ·exact .inl (.inr ⟨y,hy,e'⟩)
  ·exact .inr ⟨y,hy,e'⟩
theorem kn_lit {C:Pc} {f:Int→List UInt8} (h:DefOk C) (hd:Dk f (ownL C)) {l:Int} (hr:R64 l):knB f l=litB C l:=by
 unfold knB litB
 by_cases h0:0≤l
 ·rw [decide_eq_true h0,Bool.true_and,Bool.true_and]
  by_cases h2:l<2
  ·have e:l/2=0:=by omega
   rw [decide_eq_true h2,e]
   simp [knownB]
  ·rw [decide_eq_false h2,Bool.false_or]
   have hv:l/2≠0:=by omega
   have hR:R64 (l/2):=by unfold R64 at hr⊢;omega
   have h3:=known_own C (fun x hx=>own_two h.own hx) (l/2) hv
   cases hk:knownB C (l/2) with
   |true=>
    obtain ⟨x,hx,e⟩:=h3.1 hk
    have :(f (l/2)).isEmpty=false:=by
     rw [Bool.eq_false_iff]
     intro h5
     exact (hd _ hR).1 h5 x hx e
    rw [this];rfl
   |false=>
    have :(f (l/2)).isEmpty=true:=by
     rw [hd _ hR]
     intro x hx e
     have :=h3.2 ⟨x,hx,e⟩
     rw [hk] at this;cases this
    rw [this];rfl
 ·rw [decide_eq_false h0];rfl
structure ReB (C:Pc):Prop where
 lat:∀j:Nat,j<C.lat.length→litB C (C.lat[j]!).b=true
 ands:∀j:Nat,j<C.ands.length→litB C (C.ands[j]!).b=true∧litB C (C.ands[j]!).c=true∧(C.ands[j]!).b<(C.ands[j]!).a∧(C.ands[j]!).c<(C.ands[j]!).a
 o:C.outs.all (litB C)=true
 b:C.bads.all (litB C)=true
 v:C.invs.all (litB C)=true
 n:NamedTo C C.nms.length
structure Lens (C:Pc):Prop where
 m0:0≤C.mx
 m1:C.mx≤2048
 i:C.ins.length≤64
 l:C.lat.length≤64
 o:C.outs.length≤64
 b:C.bads.length≤64
 v:C.invs.length≤64
theorem Valid.lens {C:Pc} (h:Valid C):Lens C:=by
 have h1:=h.o
 have h2:=h.b
 have h3:=h.v
 simp only [allB,Bool.and_eq_true,decide_eq_true_eq] at h1 h2 h3
 exact ⟨h.m0,h.m1,h.i,h.l,by omega,by omega,by omega⟩
theorem Valid.defOk {C:Pc} (h:Valid C):DefOk C:=by
 refine ⟨h.own,fun j hj=> ?_,fun j hj h0=> ?_⟩
 ·have :=h.lat j hj
  simp only [latB,Bool.and_eq_true] at this
  exact this.1
 ·have :=h.ands j hj
  simp only [andB,prv,if_neg (show ¬j=0 by omega),Bool.and_eq_true,decide_eq_true_eq] at this
  exact this.1.1.1.1
theorem Valid.reB {C:Pc} (h:Valid C):ReB C:=by
 have h1:=h.o
 have h2:=h.b
 have h3:=h.v
 have hL:=h.lens
 simp only [allB,Bool.and_eq_true,decide_eq_true_eq] at h1 h2 h3
 refine ⟨fun j hj=> ?_,fun j hj=> ?_,h1.1,h2.1,h3.1,(named_names (fun k=>cnt_le hL.i hL.l hL.o hL.b hL.v k)).2 h.n⟩
 ·have :=h.lat j hj
  simp only [latB,Bool.and_eq_true] at this
  exact this.2
 ·have :=h.ands j hj
  simp only [andB,Bool.and_eq_true,decide_eq_true_eq] at this
  exact ⟨this.1.2,this.2,this.1.1.1.2,this.1.1.2⟩
theorem valid_of {C:Pc} (hL:Lens C) (hd:DefOk C) (hr:ReB C):Valid C:=by
 refine ⟨hL.m0,hL.m1,hL.i,hL.l,(named_names (fun k=>cnt_le hL.i hL.l hL.o hL.b hL.v k)).1 hr.n,fun j hj=> ?_,fun j hj=> ?_,hd.own,?_,?_,?_⟩
 ·simp only [latB,Bool.and_eq_true]
  exact ⟨hd.rst j hj,hr.lat j hj⟩
 ·obtain ⟨h1,h2,h3,h4⟩:=hr.ands j hj
  by_cases h0:j=0
  ·simp [andB,prv,h0] at h1 h2 h3 h4⊢
   subst h0
   exact ⟨⟨⟨h3,h4⟩,h1⟩,h2⟩
  ·have h5:=hd.ris j hj (by omega)
   simp only [andB,prv,if_neg h0,Bool.and_eq_true,decide_eq_true_eq]
   exact ⟨⟨⟨⟨h5,h3⟩,h4⟩,h1⟩,h2⟩
 ·have :=hL.o;simp only [allB,hr.o,Bool.true_and,decide_eq_true_eq];omega
 ·have :=hL.b;simp only [allB,hr.b,Bool.true_and,decide_eq_true_eq];omega
 ·have :=hL.v;simp only [allB,hr.v,Bool.true_and,decide_eq_true_eq];omega
def mx2 (x y:Int):Int:=if y>x then y else x
def mx5 (a b c d e:Int):Int:=mx2 (mx2 (mx2 (mx2 a b) c) d) e
theorem mx2_le (x y n:Int):mx2 x y≤n↔x≤n∧y≤n:=by unfold mx2;split<;>omega
theorem mx5_le (a b c d e n:Int):mx5 a b c d e≤n↔(((a≤n∧b≤n)∧c≤n)∧d≤n)∧e≤n:=by simp only [mx5,mx2_le]
theorem run_max5 (w:World) (ts:Array TypeId) (t:TypeId) (a b c d e:Int):(Builtin.max_ ts t #[.int .i64 a, .int .i64 b, .int .i64 c, .int .i64 d, .int .i64 e]).run Tryz.prog w= .ok (.int .i64 (mx5 a b c d e)) w:=by
 simp [Builtin.max_,Builtin.max2,mx5,mx2]
structure Kx (w wr:World) (H:Hd) (C:Pc) (r:Nat):Prop where
 cx:Cx w wr H C
 rs:At wr r 32 #[.int .i64 0]
theorem Kx.keep {w wr w':World} {H:Hd} {C:Pc} {r:Nat} (h:Kx w wr H C r) (hf:Fr [] wr w'):Kx w w' H C r:=⟨h.cx.keep hf,h.rs.keep hf⟩
theorem Kx.start (w:World) (H:Hd) (C:Pc):Kx w ((w.alloc (.cells (cvs H C) 27)).alloc (.cells #[.int .i64 0] 32)) H C (w.heap.size+1):=by
 refine ⟨(Cx.start w H C).keep (box_fr _ _),?_⟩
 have :=At.new (w.alloc (.cells (cvs H C) 27)) 32 #[.int .i64 0]
 simpa using this
theorem end_panic (R:Ending→World→Prop) (tmps:Array Value) (r:Nat) (wx:World) (h2:tmps.getD 2 undef= .pointer (some ⟨r,0,none⟩)) (hc:At wx r 32 #[.int .i64 0])
  (hR:R (.returned (.int .i64 9)) (wx.setCell ⟨r,0,none⟩ (.int .i64 9))):
  bodyPostD Tryz.prog Tryz.f23 R (Exit.panic [{ v:= .iface 32 (.int .i64 9),recovered:=false }])
   { tmps:=tmps,defers:=[{ target:=Target.fn (Fn.func 45) #[.pointer (some ⟨r,0,none⟩)],args:=#[] }] } wx:=by
 refine leaves_cons (f:=45) (args:=#[.pointer (some ⟨r,0,none⟩)]) (by simp) (by simp [go_sem]) ?_
 refine (catch_panicking ⟨r,0,none⟩ (.int .i64 0) [] _ (by rw [hc.cell];rfl) (hc.frozen 0)).mono ?_
 rintro e u' w'' ⟨rfl,rfl,rfl⟩
 have hc2:(wx.setCell ⟨r,0,none⟩ (.int .i64 9)).cell? ⟨r,0,none⟩=some (.int .i64 9):=by
  have :=(hc.set_ 0 (.int .i64 9)).cell 0
  rw [this];rfl
 have hr2:(results Tryz.f23 tmps).run Tryz.prog (wx.setCell ⟨r,0,none⟩ (.int .i64 9))= .ok (.int .i64 9) (wx.setCell ⟨r,0,none⟩ (.int .i64 9)):=by
  simp only [Array.getD_eq_getD_getElem?] at h2
  simp [results,Tryz.results23,go_sem,h2,hc2]
 exact ⟨_,hr2,hR⟩
theorem end_ret (R:Ending→World→Prop) (tmps:Array Value) (r:Nat) (wx:World) (h2:tmps.getD 2 undef= .pointer (some ⟨r,0,none⟩)) (hc:At wx r 32 #[.int .i64 0])
  (hR:R (.returned (.int .i64 0)) wx):
  bodyPostD Tryz.prog Tryz.f23 R Exit.ret
   { tmps:=tmps,defers:=[{ target:=Target.fn (Fn.func 45) #[.pointer (some ⟨r,0,none⟩)],args:=#[] }] } wx:=by
 refine leaves_cons (f:=45) (args:=#[.pointer (some ⟨r,0,none⟩)]) (by simp) (by simp [go_sem]) ?_
 refine (catch_idle ⟨r,0,none⟩ _).mono ?_
 rintro e u' w'' ⟨rfl,rfl,rfl⟩
 have hc2:w''.cell? ⟨r,0,none⟩=some (.int .i64 0):=by rw [hc.cell];rfl
 have hr2:(results Tryz.f23 tmps).run Tryz.prog w''= .ok (.int .i64 0) w'':=by
  simp only [Array.getD_eq_getD_getElem?] at h2
  simp [results,Tryz.results23,go_sem,h2,hc2]
 exact ⟨_,hr2,hR⟩
theorem all_kn {f:Int→List UInt8} {C:Pc} {xs:List Int} (hr:Ra xs) (h:∀l,R64 l→knB f l=litB C l):xs.all (knB f)=xs.all (litB C):=by
 rw [Bool.eq_iff_iff,List.all_eq_true,List.all_eq_true]
 have hh:∀x∈xs,knB f x=litB C x:=fun x hx=>by
  obtain ⟨j,hj,e⟩:=List.mem_iff_getElem.1 hx
  have :=hr j hj
  rw [List.getElem!_eq_getElem?_getD,List.getElem?_eq_getElem hj,e] at this
  exact h x this
 exact ⟨fun h1 x hx=>by rw [←hh x hx];exact h1 x hx,fun h1 x hx=>by rw [hh x hx];exact h1 x hx⟩
theorem check_calls (w:World) (H:Hd) (C:Pc) (h:CiAt w H C):
  Calls Tryz.prog 23 #[cval H C] w (ChkP C w):=by
 have HH:=Lib.hid h
 have hmr:=h.mr
 have hiL:=h.iL
 have hlL:=h.lL
 have hoL:=h.oL
 have hbL:=h.bL
 have hvL:=h.vL
 have hgL:=h.gL
 unfold R64 at hmr
 obtain ⟨hm1,hm2⟩:=hmr
 clear h
 have BAD:Hid (∀r wx,w.heap.size<r→Kx w wx H C r→¬Valid C→ChkP C w (.returned (.int .i64 9)) (wx.setCell ⟨r,0,none⟩ (.int .i64 9))):=fun r wx hr hk hv=>chk_no hv (hk.cx.fr.setCell (.inr (Nat.le_of_lt hr)) _)
 have YES:Hid (∀r wx,w.heap.size<r→Kx w wx H C r→Valid C→ChkP C w (.returned (.int .i64 0)) (wx.setCell ⟨r,0,none⟩ (.int .i64 0))):=fun r wx hr hk hv=>chk_yes hv (hk.cx.fr.setCell (.inr (Nat.le_of_lt hr)) _)
 have HKS:=Lib.hid (Kx.start w H C)
 have VL:=Lib.hid (fun h:Valid C=>h.lens)
 have VD:=Lib.hid (fun h:Valid C=>h.defOk)
 have VR:=Lib.hid (fun h:Valid C=>h.reB)
 have VO:=Lib.hid (fun (h1:Lens C) (h2:DefOk C) (h3:ReB C)=>valid_of h1 h2 h3)
 have KD:=Lib.hid (fun W hW h1 h2 h3 h4=>defined_calls W H C hW h1 h2 h3 h4)
 have KN:=Lib.hid (fun W hW=>named_calls W H C hW)
 have KL:Hid (∀(f:Int→List UInt8),DefOk C→Dk f (ownL C)→∀l,R64 l→knB f l=litB C l):=fun f h1 h2 l hl=>kn_lit h1 h2 hl
 have hmf:∀(fn:Fn) (first cap:Array Value) (w:World),(Instr.makeFunc fn first cap).run Tryz.prog w= .ok (.func fn first cap) w:=fun _ _ _ _=>rfl
 have hmax:=fun w ts t=>run_max5 w ts t C.ins.length C.lat.length C.outs.length C.bads.length C.invs.length
 simp only [cvs] at HKS
 obtain ⟨mx,ins,lat,outs,bads,invs,ands,nms⟩:=C
 obtain ⟨iA,iC,lA,lC,oA,oC,bA,bC,vA,vC,gA,gC,nA,nC⟩:=H
 simp only [cval,cvs] at *
 go_enter_defers Tryz.func23,Tryz.ntmps23
 go_upto_region 2 with fail
 obtain ⟨W0,hW0⟩:∃W,(w.alloc (.cells #[.int .i64 mx, .slice iA ins.length iC, .slice lA lat.length lC, .slice oA outs.length oC, .slice bA bads.length bC, .slice vA invs.length vC, .slice gA ands.length gC, .slice nA nms.length nC] 27)).alloc (.cells #[.int .i64 0] 32)=W:=⟨_,rfl⟩
 rw [hW0] at HKS⊢
 obtain ⟨r,hr0⟩:∃r,w.heap.size+1=r:=⟨_,rfl⟩
 rw [hr0] at HKS⊢
 have hr:w.heap.size<r:=by omega
 clear hW0 hr0
 have hx:=HKS.out.cx
 obtain ⟨c0,c1,c2,c3,c4,c5,c6,c7⟩:=hx.cells
 clear hx
 simp only at c0 c1 c2 c3 c4 c5 c6 c7
 by_cases m0:0≤mx
 ·have d0:decide (0≤mx)=true:=decide_eq_true m0
  by_cases m1:mx≤2048
  ·have d1:decide (mx≤2048)=true:=decide_eq_true m1
   obtain ⟨M,HMX⟩:∃M,Hid (mx5 ins.length lat.length outs.length bads.length invs.length=M):=⟨_,rfl⟩
   rw [HMX.out] at hmax
   by_cases m2:M≤64
   ·have d2:decide (M≤64)=true:=decide_eq_true m2
    have hm5:=(mx5_le ins.length lat.length outs.length bads.length invs.length 64).1 (by rw [HMX.out];exact m2)
    obtain ⟨⟨⟨⟨a1,a2⟩,a3⟩,a4⟩,a5⟩:=hm5
    have b1:ins.length≤64:=by omega
    have b2:lat.length≤64:=by omega
    have b3:outs.length≤64:=by omega
    have b4:bads.length≤64:=by omega
    have b5:invs.length≤64:=by omega
    have HLN:Hid (Lens ⟨mx,ins,lat,outs,bads,invs,ands,nms⟩):=⟨m0,m1,b1,b2,b3,b4,b5⟩
    clear a1 a2 a3 a4 a5
    go_wp2_with fail
    refine (need_yes _).mono ?_
    rintro e w9 ⟨rfl,rfl⟩
    clear hmax hmf
    go_wp2_with fail
    refine (KD.out _ (HH.out.keep HKS.out.cx.fr) b1 b2 m0 m1).mono ?_
    rintro e w1 ⟨hcase,hf⟩
    have HK1:=Lib.hid (HKS.out.keep hf)
    clear hf HKS c0 c1 c2 c3 c4 c5 c6 c7
    rcases hcase with ⟨hdo,g,b,n,f,rfl,hms,hdk⟩ |⟨hdo,rfl⟩
    ·have HDO:=Lib.hid hdo
     have HMS:=Lib.hid hms
     have HKL:=Lib.hid (KL.out f hdo hdk)
     clear hdo hms hdk
     have hx:=HK1.out.cx
     obtain ⟨c0,c1,c2,c3,c4,c5,c6,c7⟩:=hx.cells
     clear hx
     simp only at c0 c1 c2 c3 c4 c5 c6 c7
     go_wp2_with fail
     clear c0 c1 c2 c3 c4 c5 c6 c7
     go_loopg [42] lat.length (fun gg i wr=>∃k:Nat,k+gg=lat.length∧i= .int .i64 k∧Kx w wr ⟨iA,iC,lA,lC,oA,oC,bA,bC,vA,vC,gA,gC,nA,nC⟩ ⟨mx,ins,lat,outs,bads,invs,ands,nms⟩ r∧Ms wr g b n f∧(∀j,j<k→litB ⟨mx,ins,lat,outs,bads,invs,ands,nms⟩ (lat[j]!).b=true))
     case atStart=>exact ⟨0,by omega,rfl,HK1.out,HMS.out,fun j hj=>absurd hj (Nat.not_lt_zero _)⟩
     case round=>
      clear HK1 HMS
      obtain ⟨k,hk,rfl,hkx,hms,hl⟩:=hrel
      have HK:=Lib.hid hk
      have HX:=Lib.hid hkx
      have HM:=Lib.hid hms
      have HL:=Lib.hid hl
      have hkn:k≤lat.length:=by omega
      clear hk hkx hms hl
      by_cases hlt:k<lat.length
      ·obtain ⟨bb,o,x,y,z,hA,he,cx,cy,cz,_,⟨hy1,hy2⟩,_,_⟩:=(HH.out.keep HX.out.cx.fr).l.one HH.out.lr hlt
       simp only at hA
       subst hA
       go_upto_region 7 with fail
       obtain ⟨W1,hW1⟩:∃W,wr.alloc (.cells #[.int .i64 x, .int .i64 y, .int .i64 z] 63)=W:=⟨_,rfl⟩
       rw [hW1]
       have hO:At W1 wr.heap.size 63 #[.int .i64 x, .int .i64 y, .int .i64 z]:=hW1▸At.new _ _ _
       have HF1:Hid (Fr [] wr W1):=hW1▸box_fr _ _
       clear hW1 cx cy cz
       generalize wr.heap.size=ob at hO⊢
       have n1:W1.cell? ⟨ob,1,none⟩=some (.int .i64 y):=by rw [hO.cell];rfl
       have HX1:=Lib.hid (HX.out.keep HF1.out)
       have HM1:=Lib.hid (HM.out.keep HF1.out)
       clear hO
       go_wp2_with fail
       refine (known_calls W1 g b n f y HM1.out ⟨hy1,hy2⟩).mono ?_
       rw [HKL.out y ⟨hy1,hy2⟩]
       obtain ⟨q,HQ⟩:∃q,Hid (litB ⟨mx,ins,lat,outs,bads,invs,ands,nms⟩ y=q):=⟨_,rfl⟩
       rw [HQ.out]
       rintro e w2 ⟨rfl,hf⟩
       have HX2:=Lib.hid (HX1.out.keep hf)
       have HM2:=Lib.hid (HM1.out.keep hf)
       clear hf n1
       cases q with
       |true=>
        go_wp2_with fail
        refine (need_yes _).mono ?_
        rintro e w9 ⟨rfl,rfl⟩
        have HLN2:Hid (∀j,j<k+1→litB ⟨mx,ins,lat,outs,bads,invs,ands,nms⟩ (lat[j]!).b=true):=fun j hj=>by
         by_cases ej:j=k
         ·subst ej;rw [he.out];exact HQ.out
         ·exact HL.out j (by omega)
        go_wp2_with fail
        go_roundg (gk-1)
        case measure=>have :=HK.out;omega
        case rel=>exact ⟨k+1,by have :=HK.out;omega,by go_num,HX2.out,HM2.out,HLN2.out⟩
       |false=>
        go_wp2_with fail
        refine (need_no _).mono ?_
        unfold Fault
        rintro e w9 ⟨rfl,rfl⟩
        go_wp2_with fail
        exact end_panic _ _ r _ rfl HX2.out.rs (BAD.out r _ hr HX2.out (fun hv=>by have :=(VR.out hv).lat k hlt;rw [he.out] at this;rw [HQ.out] at this;cases this))
      ·obtain rfl :k=lat.length:=by omega
       have HK1:=HX
       have HMS:=HM
       have HRL:=HL
       clear HX HM HL HK hkn hlt
       have hx:=HK1.out.cx
       obtain ⟨c0,c1,c2,c3,c4,c5,c6,c7⟩:=hx.cells
       clear hx
       simp only at c0 c1 c2 c3 c4 c5 c6 c7
       go_wp2_with fail
       clear c0 c1 c2 c3 c4 c5 c6 c7
       go_loopg [55] ands.length (fun gg i wr=>∃k:Nat,k+gg=ands.length∧i= .int .i64 k∧Kx w wr ⟨iA,iC,lA,lC,oA,oC,bA,bC,vA,vC,gA,gC,nA,nC⟩ ⟨mx,ins,lat,outs,bads,invs,ands,nms⟩ r∧Ms wr g b n f∧(∀j,j<k→litB ⟨mx,ins,lat,outs,bads,invs,ands,nms⟩ (ands[j]!).b=true∧litB ⟨mx,ins,lat,outs,bads,invs,ands,nms⟩ (ands[j]!).c=true∧(ands[j]!).b<(ands[j]!).a∧(ands[j]!).c<(ands[j]!).a))
       case atStart=>exact ⟨0,by omega,rfl,HK1.out,HMS.out,fun j hj=>absurd hj (Nat.not_lt_zero _)⟩
       case round=>
        clear HK1 HMS
        obtain ⟨k,hk,rfl,hkx,hms,hl⟩:=hrel
        have HK:=Lib.hid hk
        have HX:=Lib.hid hkx
        have HM:=Lib.hid hms
        have HL:=Lib.hid hl
        have hkn:k≤ands.length:=by omega
        clear hk hkx hms hl
        by_cases hlt:k<ands.length
        ·obtain ⟨bb,o,x,y,z,hA,he,cx,cy,cz,_,⟨hy1,hy2⟩,hz1,hz2⟩:=(HH.out.keep HX.out.cx.fr).g.one HH.out.gr hlt
         simp only at hA
         subst hA
         have HVA:Hid (Valid ⟨mx,ins,lat,outs,bads,invs,ands,nms⟩→litB ⟨mx,ins,lat,outs,bads,invs,ands,nms⟩ y=true∧litB ⟨mx,ins,lat,outs,bads,invs,ands,nms⟩ z=true∧y<x∧z<x):=fun hv=>by
          have :=(VR.out hv).ands k hlt
          rw [he.out] at this
          exact this
         go_upto_region 12 with fail
         obtain ⟨W1,hW1⟩:∃W,wr.alloc (.cells #[.int .i64 x, .int .i64 y, .int .i64 z] 93)=W:=⟨_,rfl⟩
         rw [hW1]
         have hO:At W1 wr.heap.size 93 #[.int .i64 x, .int .i64 y, .int .i64 z]:=hW1▸At.new _ _ _
         have HF1:Hid (Fr [] wr W1):=hW1▸box_fr _ _
         clear hW1 cx cy cz
         generalize wr.heap.size=ob at hO⊢
         have HO:=Lib.hid hO
         have n1:W1.cell? ⟨ob,1,none⟩=some (.int .i64 y):=by rw [hO.cell];rfl
         have HX1:=Lib.hid (HX.out.keep HF1.out)
         have HM1:=Lib.hid (HM.out.keep HF1.out)
         clear hO
         go_wp2_with fail
         refine (known_calls W1 g b n f y HM1.out ⟨hy1,hy2⟩).mono ?_
         rw [HKL.out y ⟨hy1,hy2⟩]
         obtain ⟨q,HQ⟩:∃q,Hid (litB ⟨mx,ins,lat,outs,bads,invs,ands,nms⟩ y=q):=⟨_,rfl⟩
         rw [HQ.out]
         rintro e w2 ⟨rfl,hf⟩
         have HX2:=Lib.hid (HX1.out.keep hf)
         have HM2:=Lib.hid (HM1.out.keep hf)
         have HO2:=Lib.hid (HO.out.keep hf)
         clear hf n1
         have n0:w2.cell? ⟨ob,0,none⟩=some (.int .i64 x):=by rw [HO2.out.cell];rfl
         have n1:w2.cell? ⟨ob,1,none⟩=some (.int .i64 y):=by rw [HO2.out.cell];rfl
         have n2:w2.cell? ⟨ob,2,none⟩=some (.int .i64 z):=by rw [HO2.out.cell];rfl
         cases q with
         |true=>
          go_wp2_with fail
          refine (known_calls w2 g b n f z HM2.out ⟨hz1,hz2⟩).mono ?_
          rw [HKL.out z ⟨hz1,hz2⟩]
          obtain ⟨p,HP⟩:∃p,Hid (litB ⟨mx,ins,lat,outs,bads,invs,ands,nms⟩ z=p):=⟨_,rfl⟩
          rw [HP.out]
          rintro e w3 ⟨rfl,hf⟩
          have HX3:=Lib.hid (HX2.out.keep hf)
          have HM3:=Lib.hid (HM2.out.keep hf)
          have HO3:=Lib.hid (HO2.out.keep hf)
          clear hf n0 n1 n2
          have n0:w3.cell? ⟨ob,0,none⟩=some (.int .i64 x):=by rw [HO3.out.cell];rfl
          have n1:w3.cell? ⟨ob,1,none⟩=some (.int .i64 y):=by rw [HO3.out.cell];rfl
          have n2:w3.cell? ⟨ob,2,none⟩=some (.int .i64 z):=by rw [HO3.out.cell];rfl
          cases p with
          |true=>
           by_cases l1:y<x
           ·have t1:decide (y<x)=true:=decide_eq_true l1
            by_cases l2:z<x
            ·have t2:decide (z<x)=true:=decide_eq_true l2
             go_wp2_with fail
             refine (need_yes _).mono ?_
             rintro e w9 ⟨rfl,rfl⟩
             have HLN2:Hid (∀j,j<k+1→litB ⟨mx,ins,lat,outs,bads,invs,ands,nms⟩ (ands[j]!).b=true∧litB ⟨mx,ins,lat,outs,bads,invs,ands,nms⟩ (ands[j]!).c=true∧(ands[j]!).b<(ands[j]!).a∧(ands[j]!).c<(ands[j]!).a):=fun j hj=>by
              by_cases ej:j=k
              ·subst ej;rw [he.out];exact ⟨HQ.out,HP.out,l1,l2⟩
              ·exact HL.out j (by omega)
             go_wp2_with fail
             go_roundg (gk-1)
             case measure=>have :=HK.out;omega
             case rel=>exact ⟨k+1,by have :=HK.out;omega,by go_num,HX3.out,HM3.out,HLN2.out⟩
            ·have t2:decide (z<x)=false:=decide_eq_false l2
             go_wp2_with fail
             refine (need_no _).mono ?_
             unfold Fault
             rintro e w9 ⟨rfl,rfl⟩
             go_wp2_with fail
             exact end_panic _ _ r _ rfl HX3.out.rs (BAD.out r _ hr HX3.out (fun hv=>absurd (HVA.out hv).2.2.2 (by omega)))
           ·have t1:decide (y<x)=false:=decide_eq_false l1
            go_wp2_with fail
            refine (need_no _).mono ?_
            unfold Fault
            rintro e w9 ⟨rfl,rfl⟩
            go_wp2_with fail
            exact end_panic _ _ r _ rfl HX3.out.rs (BAD.out r _ hr HX3.out (fun hv=>absurd (HVA.out hv).2.2.1 (by omega)))
          |false=>
           go_wp2_with fail
           refine (need_no _).mono ?_
           unfold Fault
           rintro e w9 ⟨rfl,rfl⟩
           go_wp2_with fail
           exact end_panic _ _ r _ rfl HX3.out.rs (BAD.out r _ hr HX3.out (fun hv=>by have :=(HVA.out hv).2.1;rw [HP.out] at this;cases this))
         |false=>
          go_wp2_with fail
          refine (need_no _).mono ?_
          unfold Fault
          rintro e w9 ⟨rfl,rfl⟩
          go_wp2_with fail
          exact end_panic _ _ r _ rfl HX2.out.rs (BAD.out r _ hr HX2.out (fun hv=>by have :=(HVA.out hv).1;rw [HQ.out] at this;cases this))
        ·obtain rfl :k=ands.length:=by omega
         have HRA:=HL
         clear HL HK hkn hlt
         have hx:=HX.out.cx
         obtain ⟨c0,c1,c2,c3,c4,c5,c6,c7⟩:=hx.cells
         clear hx
         simp only at c0 c1 c2 c3 c4 c5 c6 c7
         go_wp2_with fail
         refine (all_calls wr g b n f oA oC outs HM.out (HH.out.keep HX.out.cx.fr).o HH.out.or_ HH.out.oL).mono ?_
         rw [all_kn HH.out.or_ HKL.out]
         obtain ⟨qo,HQO⟩:∃q,Hid (outs.all (litB ⟨mx,ins,lat,outs,bads,invs,ands,nms⟩)=q):=⟨_,rfl⟩
         rw [HQO.out]
         rintro e w2 ⟨rfl,hf⟩
         have HX2:=Lib.hid (HX.out.keep hf)
         have HM2:=Lib.hid (HM.out.keep hf)
         clear hf c0 c1 c2 c3 c4 c5 c6 c7
         have hx:=HX2.out.cx
         obtain ⟨c0,c1,c2,c3,c4,c5,c6,c7⟩:=hx.cells
         clear hx
         simp only at c0 c1 c2 c3 c4 c5 c6 c7
         cases qo with
         |false=>
          go_wp2_with fail
          refine (need_no _).mono ?_
          unfold Fault
          rintro e w9 ⟨rfl,rfl⟩
          go_wp2_with fail
          exact end_panic _ _ r _ rfl HX2.out.rs (BAD.out r _ hr HX2.out (fun hv=>by have :=(VR.out hv).o;simp only at this;rw [HQO.out] at this;cases this))
         |true=>
          go_wp2_with fail
          refine (all_calls w2 g b n f bA bC bads HM2.out (HH.out.keep HX2.out.cx.fr).b HH.out.br HH.out.bL).mono ?_
          rw [all_kn HH.out.br HKL.out]
          obtain ⟨qb,HQB⟩:∃q,Hid (bads.all (litB ⟨mx,ins,lat,outs,bads,invs,ands,nms⟩)=q):=⟨_,rfl⟩
          rw [HQB.out]
          rintro e w3 ⟨rfl,hf⟩
          have HX3:=Lib.hid (HX2.out.keep hf)
          have HM3:=Lib.hid (HM2.out.keep hf)
          clear hf c0 c1 c2 c3 c4 c5 c6 c7
          have hx:=HX3.out.cx
          obtain ⟨c0,c1,c2,c3,c4,c5,c6,c7⟩:=hx.cells
          clear hx
          simp only at c0 c1 c2 c3 c4 c5 c6 c7
          cases qb with
          |false=>
           go_wp2_with fail
           refine (need_no _).mono ?_
           unfold Fault
           rintro e w9 ⟨rfl,rfl⟩
           go_wp2_with fail
           exact end_panic _ _ r _ rfl HX3.out.rs (BAD.out r _ hr HX3.out (fun hv=>by have :=(VR.out hv).b;simp only at this;rw [HQB.out] at this;cases this))
          |true=>
           go_wp2_with fail
           refine (all_calls w3 g b n f vA vC invs HM3.out (HH.out.keep HX3.out.cx.fr).v HH.out.vr HH.out.vL).mono ?_
           rw [all_kn HH.out.vr HKL.out]
           obtain ⟨qv,HQV⟩:∃q,Hid (invs.all (litB ⟨mx,ins,lat,outs,bads,invs,ands,nms⟩)=q):=⟨_,rfl⟩
           rw [HQV.out]
           rintro e w4 ⟨rfl,hf⟩
           have HX4:=Lib.hid (HX3.out.keep hf)
           clear hf c0 c1 c2 c3 c4 c5 c6 c7
           have hx:=HX4.out.cx
           obtain ⟨c0,c1,c2,c3,c4,c5,c6,c7⟩:=hx.cells
           clear hx
           simp only at c0 c1 c2 c3 c4 c5 c6 c7
           cases qv with
           |false=>
            go_wp2_with fail
            refine (need_no _).mono ?_
            unfold Fault
            rintro e w9 ⟨rfl,rfl⟩
            go_wp2_with fail
            exact end_panic _ _ r _ rfl HX4.out.rs (BAD.out r _ hr HX4.out (fun hv=>by have :=(VR.out hv).v;simp only at this;rw [HQV.out] at this;cases this))
           |true=>
            go_wp2_with fail
            refine (KN.out w4 (HH.out.keep HX4.out.cx.fr)).mono ?_
            rintro e w5 ⟨qn,rfl,hqn,hf⟩
            have HQN:=Lib.hid hqn
            have HX5:=Lib.hid (HX4.out.keep hf)
            clear hf hqn c0 c1 c2 c3 c4 c5 c6 c7
            cases qn with
            |false=>
             go_wp2_with fail
             refine (need_no _).mono ?_
             unfold Fault
             rintro e w9 ⟨rfl,rfl⟩
             go_wp2_with fail
             exact end_panic _ _ r _ rfl HX5.out.rs (BAD.out r _ hr HX5.out (fun hv=>by have :=HQN.out.2 (VR.out hv).n;cases this))
            |true=>
             go_wp2_with fail
             refine (need_yes _).mono ?_
             rintro e w9 ⟨rfl,rfl⟩
             have hc:=HX5.out.rs.cell 0
             have hz:=HX5.out.rs.frozen 0
             simp at hc
             go_wp2_with fail
             have HRS:=HX5.out.rs.set_ 0 (.int .i64 0)
             simp at HRS
             exact end_ret _ _ r _ rfl HRS (YES.out r _ hr HX5.out (VO.out HLN.out HDO.out ⟨HRL.out,HRA.out,HQO.out,HQB.out,HQV.out,HQN.out.1 (by simp)⟩))
    ·unfold Fault
     go_wp2_with fail
     exact end_panic _ _ r _ rfl HK1.out.rs (BAD.out r _ hr HK1.out (fun hv=>hdo (VD.out hv)))
   ·have d2:decide (M≤64)=false:=decide_eq_false m2
    have HNV:Hid (¬Valid ⟨mx,ins,lat,outs,bads,invs,ands,nms⟩):=fun hv=>by
     have hl:=VL.out hv
     have h1:=hl.i
     have h2:=hl.l
     have h3:=hl.o
     have h4:=hl.b
     have h5:=hl.v
     simp only at h1 h2 h3 h4 h5
     exact m2 (by rw [←HMX.out,mx5_le];omega)
    go_wp2_with fail
    refine (need_no _).mono ?_
    unfold Fault
    rintro e w9 ⟨rfl,rfl⟩
    go_wp2_with fail
    exact end_panic _ _ r _ rfl HKS.out.rs (BAD.out r _ hr HKS.out (HNV.out))
  ·have d1:decide (mx≤2048)=false:=decide_eq_false m1
   have HNV:Hid (¬Valid ⟨mx,ins,lat,outs,bads,invs,ands,nms⟩):=fun hv=>by
    have hl:=(VL.out hv).m1
    simp only at hl
    omega
   go_wp2_with fail
   refine (need_no _).mono ?_
   unfold Fault
   rintro e w9 ⟨rfl,rfl⟩
   go_wp2_with fail
   exact end_panic _ _ r _ rfl HKS.out.rs (BAD.out r _ hr HKS.out (HNV.out))
 ·have d0:decide (0≤mx)=false:=decide_eq_false m0
  have HNV:Hid (¬Valid ⟨mx,ins,lat,outs,bads,invs,ands,nms⟩):=fun hv=>by
   have hl:=(VL.out hv).m0
   simp only at hl
   omega
  go_wp2_with fail
  refine (need_no _).mono ?_
  unfold Fault
  rintro e w9 ⟨rfl,rfl⟩
  go_wp2_with fail
  exact end_panic _ _ r _ rfl HKS.out.rs (BAD.out r _ hr HKS.out (HNV.out))
def outB (most x:Int):Bool:=decide (x<0) ||decide (most<x/2)
theorem lcheck1 (w:World) (a b:Nat) (most x:Int) (h1:w.cell? ⟨a,0,none⟩=some (.bool false)) (h2:w.cell? ⟨b,0,none⟩=some (.int .i64 most)) (hr:R64 x):
  Calls Tryz.prog 96 #[.int .i64 x, .pointer (some ⟨a,0,none⟩), .pointer (some ⟨b,0,none⟩)] w fun e w'=>e= .returned (.bool (outB most x))∧Fr [] w w':=by
 unfold R64 at hr
 obtain ⟨hr1,hr2⟩:=hr
 have e1:=Ext.cell h1
 have e2:=Ext.cell h2
 have hK:Hid (∀s,outB most x=s→Ending.returned (.bool s)= .returned (.bool (outB most x))):=fun s h=>by rw [h]
 by_cases l0:x<0
 ·have d0:decide (x<0)=true:=decide_eq_true l0
  have HB:Hid (outB most x=true):=(by simp [outB,d0]:outB most x=true)
  have KV:=Lib.hid (fun W=>lvar_neg W x l0)
  go_enter Tryz.func96,Tryz.ntmps96
  go_wp2_with fail
  refine wp_region_ext (by kernel_rfl) (by kernel_rfl) ?_
  repeat (go_big_quiet_step (exact call_same (KV.out _)))
  refine wpQuiet_nil ?_
  rintro w2 ⟨u2,hu2⟩
  have HF_w2:Hid (Fr [] w w2):=hu2▸u2.fr
  clear hu2 u2
  go_wp2_with fail
  go_ret
  exact ⟨hK.out _ HB.out,HF_w2.out⟩
 ·have d0:decide (x<0)=false:=decide_eq_false l0
  have KV:=Lib.hid (fun W=>lvar_nn W x (by omega) hr2)
  obtain ⟨q,HQ⟩:∃q,Hid (decide (most<x/2)=q):=⟨_,rfl⟩
  have HB:Hid (outB most x=q):=(by simp only [outB,d0,HQ.out,Bool.false_or]:outB most x=q)
  have dq:=HQ.out
  cases q with
  |true=>
   go_enter Tryz.func96,Tryz.ntmps96
   go_wp2_with fail
   refine wp_region_ext (by kernel_rfl) (by kernel_rfl) ?_
   repeat (go_big_quiet_step (exact call_same (KV.out _)))
   refine wpQuiet_nil ?_
   rintro w2 ⟨u2,hu2⟩
   have HF_w2:Hid (Fr [] w w2):=hu2▸u2.fr
   clear hu2 u2
   go_wp2_with fail
   go_ret
   exact ⟨hK.out _ HB.out,HF_w2.out⟩
  |false=>
   go_enter Tryz.func96,Tryz.ntmps96
   go_wp2_with fail
   refine wp_region_ext (by kernel_rfl) (by kernel_rfl) ?_
   repeat (go_big_quiet_step (exact call_same (KV.out _)))
   refine wpQuiet_nil ?_
   rintro w2 ⟨u2,hu2⟩
   have HF_w2:Hid (Fr [] w w2):=hu2▸u2.fr
   clear hu2 u2
   go_wp2_with fail
   go_ret
   exact ⟨hK.out _ HB.out,HF_w2.out⟩
def inB (most:Int) (xs:List Int):Bool:=xs.all fun x=>decide (0≤x)&&decide (x≤2*most+1)
theorem out_in (most:Int) (xs:List Int):(xs.any (outB most))= !inB most xs:=by
 unfold inB
 rw [List.not_all_eq_any_not]
 congr 1
 funext x
 unfold outB
 rw [Bool.eq_iff_iff]
 simp
 omega
def lcI (b:Bool):Int:=if b then 0 else 4
theorem lcheck_calls (w:World) (most:Int) (A:Option Addr) (c:Nat) (xs:List Int) (h0:0≤most) (h1:most≤2048) (hx:Rd w A xs) (hr:Ra xs) (hl:xs.length≤17592186044416):
  Calls Tryz.prog 53 #[.int .i64 most, .slice A xs.length c] w fun e w'=>e= .returned (.int .i64 (lcI (inB most xs)))∧Fr [] w w':=by
 have hmf:∀(fn:Fn) (first cap:Array Value) (w:World),(Instr.makeFunc fn first cap).run Tryz.prog w= .ok (.func fn first cap) w:=fun _ _ _ _=>rfl
 have d0:decide (most<0)=false:=decide_eq_false (by omega)
 have d1:decide (2048<most)=false:=decide_eq_false (by omega)
 have hK:Hid (∀s,lcI (inB most xs)=s→Ending.returned (.int .i64 s)= .returned (.int .i64 (lcI (inB most xs)))):=fun s h=>by rw [h]
 have HX:=Lib.hid hx
 have HR:=Lib.hid hr
 clear hx hr
 go_enter Tryz.func53,Tryz.ntmps53
 go_upto_region 2 with fail
 obtain ⟨W0,hW0⟩:∃W,(w.alloc (.cells #[.int .i64 most] 3)).alloc (.cells #[.bool false] 4)=W:=⟨_,rfl⟩
 rw [hW0]
 have HF0:Hid (Fr [] w W0):=hW0▸((box_fr _ _).then_ (box_fr _ _))
 have hb:At W0 w.heap.size 3 #[.int .i64 most]:=hW0▸(At.new w _ _).alloc _
 have ha:At W0 (w.heap.size+1) 4 #[.bool false]:=by
  rw [←hW0]
  have :=At.new (w.alloc (.cells #[.int .i64 most] 3)) 4 #[.bool false]
  simpa using this
 have KC:=Lib.hid (contains_ints W0 A c xs 96 #[.pointer (some ⟨w.heap.size+1,0,none⟩), .pointer (some ⟨w.heap.size,0,none⟩)] (outB most) enters45 (HX.out.keep HF0.out) HR.out hl
  (fun W hW x _ hx=>lcheck1 W _ _ most x (hW.cellS (by rw [ha.cell];rfl)) (hW.cellS (by rw [hb.cell];rfl)) hx))
 clear hW0 ha hb
 go_wp2_with fail
 refine KC.out.mono ?_
 rw [out_in]
 obtain ⟨q,HQ⟩:∃q,Hid (inB most xs=q):=⟨_,rfl⟩
 rw [HQ.out]
 rintro e w2 ⟨rfl,hf⟩
 have HF:=Lib.hid (HF0.out.then_ hf)
 clear hf
 cases q with
 |true=>
  go_wp2_with fail
  go_ret
  exact ⟨hK.out _ (by rw [HQ.out];rfl),HF.out⟩
 |false=>
  go_wp2_with fail
  go_ret
  exact ⟨hK.out _ (by rw [HQ.out];rfl),HF.out⟩
theorem zeroB (w:World):(zeroValue 4).run Tryz.prog w= .ok (.bool false) w:=by kernel_rfl
theorem elemB_inv {P:Program} {e:TypeId} (he:P.underlying e=some .bool) {v:Value} {z:DataW Unit×List MemPlace} (h:plainElem P e v=some z):∃b:Bool,v= .bool b∧z=(.lit (.bool b),[]):=by
 unfold plainElem at h
 rw [he] at h
 cases v<;>simp at h
 subst h
 exact ⟨_,rfl,rfl⟩
def Meb (w:World) (b n:Nat) (f:Int→Bool):Prop:=∃D:DataW Unit,w.ownsMap Tryz.prog 3 (plainElem Tryz.prog 4) b n D∧∀v,R64 v→D.atKey (.int .i64 v) (.lit (.bool false))= .lit (.bool (f v))
theorem Meb.lt {w:World} {b n:Nat} {f:Int→Bool} (h:Meb w b n f):b<w.heap.size:=by
 obtain ⟨D,h1,_⟩:=h
 exact h1.lt
theorem Meb.fr {w w':World} {S:List Nat} {b n:Nat} {f:Int→Bool} (h:Meb w b n f) (hf:Fr S w w') (hn:b∉S):Meb w' b n f:=by
 have hlt:=h.lt
 obtain ⟨D,⟨es,clock,hb,F,hs,hD⟩,h2⟩:=h
 exact ⟨D,⟨es,clock,(hf.block b hlt hn).trans hb,F,hs,hD⟩,h2⟩
theorem Meb.new (w:World):Meb (w.alloc (.map #[] 0)) w.heap.size 0 (fun _=>false):=
 ⟨.map [],World.ownsMap_made w _ _ _,fun v _=>rfl⟩
theorem lookb_gen {P:Program} {k e t:TypeId} (K:Maps.Keyed P k) (ht:P.underlying t=some (.map k e)) (he:P.underlying e=some .bool) {w:World} (hz:(zeroValue e).run P w= .ok (.bool false) w) {b n:Nat} {D:DataW Unit}
  (h1:w.ownsMap P k (plainElem P e) b n D) {key:Value} {kl:Lit} (hkey:keyOf P k key=some kl) {s:Bool} (h2:D.atKey kl (.lit (.bool false))= .lit (.bool s)):
  (Instr.lookup t (.map (some b)) key false).run P w= .ok (.bool s) w:=by
 obtain ⟨x,ps,hr,hx⟩:=h1.lookup K ht hz (plainElem_bool he false) hkey
 obtain ⟨y,rfl,hz⟩:=elemB_inv he hx
 have h4:=(Prod.mk.inj hz).1
 refine hr.trans ?_
 have h5:(DataW.lit (H:=Unit) (.bool y))= .lit (.bool s):=by rw [←h4];exact h2
 injection h5 with h5
 injection h5 with h5
 rw [←h5]
theorem Meb.look {w:World} {b n:Nat} {f:Int→Bool} (h:Meb w b n f) {v:Int} (hv:R64 v):
  (Instr.lookup 221 (.map (some b)) (.int .i64 v) false).run Tryz.prog w= .ok (.bool (f v)) w:=by
 obtain ⟨D,h1,h2⟩:=h
 exact lookb_gen (Maps.int_keyed Tryz.underlying3) Tryz.underlying221 Tryz.underlying4 (zeroB w) h1 (keyI hv) (h2 v hv)
theorem putb_at {D:DataW Unit} (hD:Maps.IsMap D) {v x:Int} {d:DataW Unit} {f:Int→Bool} {s:Bool} (hd:d= .lit (.bool s)) (h:R64 x→D.atKey (.int .i64 x) (.lit (.bool false))= .lit (.bool (f x))) (hx:R64 x):
  (D.put (.int .i64 v) d).atKey (.int .i64 x) (.lit (.bool false))= .lit (.bool (if x=v then s else f x)):=by
 by_cases e:x=v
 ·subst e
  rw [if_pos rfl,Maps.atKey_put_same hD (by simp [WideAt.IsKeyLit]),hd]
 ·rw [if_neg e,Maps.atKey_put_other (by simpa using e),h hx]
theorem mem_idx {α:Type} [Inhabited α] {l:List α} {p:α→Prop}:(∀j:Nat,j<l.length→p l[j]!)↔∀x∈l,p x:=by
 constructor
 ·intro h x hx
  obtain ⟨j,hj,e⟩:=List.mem_iff_getElem.1 hx
  have :=h j hj
  rwa [List.getElem!_eq_getElem?_getD,List.getElem?_eq_getElem hj,e] at this
 ·intro h j hj
  exact h _ (by rw [List.getElem!_eq_getElem?_getD,List.getElem?_eq_getElem hj];simp)
theorem sindex_ints (w:World) (A:Option Addr) (c:Nat) (xs:List Int) (n:Int) (h:Rd w A xs) (hr:Ra xs) (hl:xs.length≤17592186044416):
  Calls Tryz.prog 217 #[.slice A xs.length c, .int .i64 n] w (IxP (xs.any (n== ·)) w):=by
 have HH:=Lib.hid h
 have HR:=Lib.hid hr
 have YES:Hid (∀(k:Nat) W,k≤17592186044416→xs.any (n== ·)=true→Fr [] w W→IxP (xs.any (n== ·)) w (.returned (.int .i64 (k:Int))) W):=fun k W h1 h2 h3=>⟨k,rfl,by omega,by omega,by rw [h2];exact decide_eq_true (by omega),h3⟩
 have NO:Hid (∀W,xs.any (n== ·)=false→Fr [] w W→IxP (xs.any (n== ·)) w (.returned (.int .i64 (-1))) W):=fun W h2 h3=>⟨-1,rfl,by omega,by omega,by rw [h2];rfl,h3⟩
 clear h hr
 go_enter Tryz.func217,Tryz.ntmps217
 go_wp2_with fail
 go_loopg [8] xs.length (fun g i wr=>∃k:Nat,k+g=xs.length∧i= .int .i64 k∧Fr [] w wr∧NoneTo xs (n== ·) k)
 case atStart=>exact ⟨0,by omega,rfl,Fr.refl _ _,NoneTo.zero _ _⟩
 case round=>
  obtain ⟨k,hk,rfl,hx,hn⟩:=hrel
  have HK:=Lib.hid hk
  have HX:=Lib.hid hx
  have HN:=Lib.hid hn
  have hkn:k≤xs.length:=by omega
  clear hk hx hn
  by_cases hlt:k<xs.length
  ·obtain ⟨b,o,x,hA,he,cx,hx1,hx2⟩:=(HH.out.keep HX.out).one HR.out hlt
   subst hA
   obtain ⟨q,HQ⟩:∃q:Bool,Hid ((n==x)=q):=⟨(n==x),Lib.hid rfl⟩
   have hq:=HQ.out
   cases q with
   |true=>
    go_wp2_with fail
    go_ret
    exact YES.out k _ (by omega) (any_yes _ _ k hlt (by rw [he.out];exact HQ.out)) HX.out
   |false=>
    go_wp2_with fail
    go_roundg (gk-1)
    case measure=>have :=HK.out;omega
    case rel=>exact ⟨k+1,by have :=HK.out;omega,by go_num,HX.out,HN.out.step (by rw [he.out];exact HQ.out)⟩
  ·have HT:=Lib.hid (HN.out.all hlt)
   clear HN HK
   go_wp2_with fail
   go_ret
   exact NO.out _ HT.out HX.out
theorem scontains_ints (w:World) (A:Option Addr) (c:Nat) (xs:List Int) (n:Int) (h:Rd w A xs) (hr:Ra xs) (hl:xs.length≤17592186044416):
  Calls Tryz.prog 203 #[.slice A xs.length c, .int .i64 n] w fun e w'=>e= .returned (.bool (xs.any (n== ·)))∧Fr [] w w':=by
 have HC:=Lib.hid (sindex_ints w A c xs n h hr hl)
 clear h hr
 go_enter Tryz.func203,Tryz.ntmps203
 go_wp2_with fail
 refine HC.out.mono ?_
 rintro e w2 ⟨n,rfl,h1,h2,h3,hf⟩
 have H3:=Lib.hid h3
 have HF:=Lib.hid hf
 clear h3 hf
 go_wp2_with fail
 go_ret
 exact ⟨by rw [←H3.out];rfl,HF.out⟩
theorem Meb.store {w:World} {b n:Nat} {f:Int→Bool} (h:Meb w b n f) (hn:n<maxLen) {v:Int} (hv:R64 v) (s:Bool):
  ∃w',(Instr.mapUpdate 221 (.map (some b)) (.int .i64 v) (.bool s)).run Tryz.prog w= .ok () w'∧Meb w' b (n+1) (fun x=>if x=v then s else f x)∧Fr [b] w w':=by
 obtain ⟨D,h1,h2⟩:=h
 obtain ⟨w',hr,g1,g2⟩:=h1.update (Maps.int_keyed Tryz.underlying3) Tryz.underlying221 hn (keyI hv) (plainElem_bool Tryz.underlying4 s)
 exact ⟨w',hr,⟨_,g1,fun x hx=>putb_at h1.isMap rfl (fun hr=>h2 x hr) hx⟩,(Fr.refl _ w).grown g2 (fun k hk=>by cases hk;exact .inl (by simp))⟩
def Mel (w:World) (b n:Nat) (l:List Int):Prop:=∃f,Meb w b n f∧∀x,f x=true↔x∈l
theorem Mel.new (w:World):Mel (w.alloc (.map #[] 0)) w.heap.size 0 []:=⟨_,Meb.new w,fun x=>by simp⟩
theorem Mel.look {w:World} {b n:Nat} {l:List Int} (h:Mel w b n l) {v:Int} (hv:R64 v):
  (Instr.lookup 221 (.map (some b)) (.int .i64 v) false).run Tryz.prog w= .ok (.bool (decide (v∈l))) w:=by
 obtain ⟨f,h1,h2⟩:=h
 have e:decide (v∈l)=f v:=by
  rw [Bool.eq_iff_iff,decide_eq_true_iff]
  exact (h2 v).symm
 rw [e]
 exact h1.look hv
theorem Mel.store {w:World} {b n:Nat} {l:List Int} (h:Mel w b n l) (hn:n<maxLen) {v:Int} (hv:R64 v):
  ∃w',(Instr.mapUpdate 221 (.map (some b)) (.int .i64 v) (.bool true)).run Tryz.prog w= .ok () w'∧Mel w' b (n+1) (v::l)∧Fr [b] w w':=by
 obtain ⟨f,h1,h2⟩:=h
 obtain ⟨w',hr,g1,g2⟩:=h1.store hn hv true
 refine ⟨w',hr,⟨_,g1,fun x=> ?_⟩,g2⟩
 simp only [List.mem_cons]
 by_cases e:x=v
 ·simp [e]
 ·rw [if_neg e,h2 x]
  simp [e]
theorem Mel.fr {w w':World} {S:List Nat} {b n:Nat} {l:List Int} (h:Mel w b n l) (hf:Fr S w w') (hn:b∉S):Mel w' b n l:=by
 obtain ⟨f,h1,h2⟩:=h
 exact ⟨f,h1.fr hf hn,h2⟩
theorem Mel.keep {w w':World} {b n:Nat} {l:List Int} (h:Mel w b n l) (hf:Fr [] w w'):Mel w' b n l:=h.fr hf (by simp)
theorem Mel.congr {w:World} {b n:Nat} {l l':List Int} (h:Mel w b n l) (he:∀x,x∈l↔x∈l'):Mel w b n l':=by
 obtain ⟨f,h1,h2⟩:=h
 exact ⟨f,h1,fun x=>(h2 x).trans (he x)⟩
theorem Mel.lt {w:World} {b n:Nat} {l:List Int} (h:Mel w b n l):b<w.heap.size:=by
 obtain ⟨f,h1,h2⟩:=h
 exact h1.lt
theorem SvAt.has_lt {w:World} {L:SvL} {S:Sv} (h:SvAt w L S) {k:Nat} (hk:L.has k):k<w.heap.size:=by
 rcases hk with rfl |hk |hk |hk |hk |hk |hk |hk |⟨n,hn,hk⟩ |⟨c,hc,hk⟩
 ·exact h.obj.lt
 ·exact h.tr.lt k hk
 ·exact h.hp.lt k hk
 ·exact own_lt' h.rcs k hk
 ·exact own_lt' h.rws k hk
 ·exact own_lt' h.rph k hk
 ·exact own_lt' h.rmo k hk
 ·exact h.rco.lt k hk
 ·exact (h.ech n hn).lt k hk
 ·exact (h.ewh c hc).lt k hk
def SvL.shut (L:SvL) (w:World):SvL:={ L with lab:=fun k=>if k<w.heap.size then L.lab k else (L.id+1,0,0) }
theorem SvAt.shut {w:World} {L:SvL} {S:Sv} (h:SvAt w L S):SvAt w (L.shut w) S:=h.relab _ (fun k hk=>if_pos (h.has_lt hk))
theorem SvL.seal_ext (L:SvL) (w:World):L.ext (L.shut w) w:=⟨rfl,rfl,fun k hk e=>by
 simp only [SvL.shut] at e
 rwa [if_pos hk] at e⟩
theorem SvL.seal_new {L:SvL} {w:World} {k:Nat} (h:w.heap.size≤k):((L.shut w).lab k).1≠(L.shut w).id:=by
 simp only [SvL.shut]
 rw [if_neg (by omega)]
 simp
theorem SvL.seal_old {L:SvL} {w:World} {k:Nat} (h:k<w.heap.size):(L.shut w).lab k=L.lab k:=by
 simp only [SvL.shut]
 rw [if_pos h]
def SvL.far (L:SvL) (A:Option Addr):Prop:=∀k,k∈blks A→(L.lab k).1≠L.id
theorem SvL.not_own {L:SvL} {w:World} {k:Nat} (h:(L.lab k).1≠L.id):k∉L.own w:=fun hm=>h (SvL.mem_own.1 hm).2
theorem Rd.frF {w w':World} {A:Option Addr} {xs:List Int} {F:List Nat} (h:Rd w A xs) (hf:Fr F w w') (hn:∀k,k∈blks A→k∉F):Rd w' A xs:=by
 intro h0
 obtain ⟨b,o,rfl,hx⟩:=h h0
 exact ⟨b,o,rfl,fun j hj=>hf.cellN (hn b (by simp [blks])) (hx j hj)⟩
theorem Rd.blk {w:World} {A:Option Addr} {xs:List Int} (h:Rd w A xs) (h0:0<xs.length):∀k,k∈blks A→k<w.heap.size:=by
 obtain ⟨b,o,rfl,hx⟩:=h h0
 intro k hk
 simp [blks] at hk
 subst hk
 exact lt_of_cell (hx 0 h0)
theorem SvAt.setcore {w w1:World} {L:SvL} {S:Sv} (h:SvAt w L S) {A':Option Addr} {c':Nat} {F:List Nat} {ls:List Int} (hi:Ints w1 A' c' ls) (hf:Fr F w w1) (hF:∀k,k∈F→k<w.heap.size→L.lab k=(L.id,7,0))
  (hA:∀k,k∈blks A'→(k<w.heap.size∧L.lab k=(L.id,7,0))∨w.heap.size≤k):
  ∃L',SvAt (w1.setCell ⟨L.a,7,none⟩ (.slice A' ls.length c')) L' { S with core:=ls }∧L.ext L' w∧Fr (L.own w) w (w1.setCell ⟨L.a,7,none⟩ (.slice A' ls.length c'))∧L'={ L with oA:=A',oC:=c',lab:=L.re w (7,0) }:=by
 have hf2:Fr (L.a::F) w (w1.setCell ⟨L.a,7,none⟩ (.slice A' ls.length c')):=(hf.mono (fun k hk=> .inl (by simp [hk]))).setCell (.inl (by simp)) _
 have hF2:∀k,k∈L.a::F→k<w.heap.size→∃t,(t=(7,0)∨t=(0,0))∧L.lab k=(L.id,t):=by
  intro k hk hl
  rcases List.mem_cons.1 hk with rfl |hk
  ·exact ⟨_, .inr rfl,h.t0⟩
  ·exact ⟨_, .inl rfl,hF k hk hl⟩
 have o:=h.off (P:=fun t=>t=(7,0)∨t=(0,0)) hf2 hF2
 have o1:=h.off (P:=(· =(7,0))) hf (fun k hk hl=>⟨_,rfl,hF k hk hl⟩)
 have g:=h.tags (7,0)
 have hne:L.a∉blks A':=fun hk=>by
  rcases hA _ hk with ⟨_,h2⟩ |h2
  ·rw [h.t0] at h2;simp at h2
  ·have :=h.obj.lt;omega
 refine ⟨{ L with oA:=A',oC:=c',lab:=L.re w (7,0) },⟨?_,o.tr (by simp),o.hp (by simp),h.hmade,h.ecs,h.ews,o.rcs (by simp),o.rws (by simp),o.rph (by simp),o.rmo (by simp),?_,fun n hn=>o.ech n hn (by simp),fun c hc=>o.ewh c hc (by simp),
  g.t0,g.t1,g.t2,g.t3,g.t4,g.t5,g.t6,fun k hk=>SvL.re_part (hA k hk),g.t8,g.t9⟩,⟨rfl,rfl,fun k hk e=>SvL.re_own hk e⟩,SvL.part_fr hf2 (fun k hk hl=>by obtain ⟨t,_,e⟩:=hF2 k hk hl;rw [e]),rfl⟩
 ·have :=(o1.obj (by simp)).set_ 7 (.slice A' ls.length c')
  simpa [scs] using this
 ·exact hi.far (p:=⟨L.a,7,none⟩) hne _
theorem Sv.Ok.setcore {S:Sv} {m:Nat} (ok:S.Ok m) (l:List Int):({ S with core:=l }:Sv).Ok m:=⟨ok.vl,ok.tr,ok.hi,ok.hl,ok.ph,ok.wl,ok.ll,ok.wb,ok.wt,ok.lr,ok.ln,ok.lb,ok.hd,ok.rs⟩
theorem tv_le {x:Int} {v:Nat} (h0: -(v:Int)≤x) (h1:x≤v) (hv:v≤262143):0≤tv x∧tv x≤v:=by
 unfold tv
 split<;>omega
theorem max_e {x:Int} {v:Nat} (h0: -(v:Int)≤x) (h1:x≤v) (hv:v≤262143):(if x< -x then -x else x)=tv x∧IntKind.i64.wrap (-x)= -x:=⟨max_tv (by omega),IntWalk.i64_in _ (by omega)⟩
namespace Sv
theorem blameL_skip {S:Sv} {l:Int} {r g met:List Int} (h:tv l∉g∨S.T.levB (tv l)=0):blameL S (l::r) g met=blameL S r g met:=by
 rw [blameL,if_pos h]
theorem blameL_met {S:Sv} {l:Int} {r g met:List Int} (h:tv l∈g) (h1:S.T.levB (tv l)≠0) (h2:S.T.reaB (tv l)-1<0):blameL S (l::r) g met=blameL S r g (l::met):=by
 rw [blameL,if_neg (by rintro (x |x);exact x h;exact h1 x),if_pos h2]
theorem blameL_go {S:Sv} {l:Int} {r g met:List Int} (h:tv l∈g) (h1:S.T.levB (tv l)≠0) (h2:¬S.T.reaB (tv l)-1<0):blameL S (l::r) g met=blameL S r ((S.rc (S.T.reaB (tv l)-1).toNat).lits.map tv++g) met:=by
 rw [blameL,if_neg (by rintro (x |x);exact x h;exact h1 x),if_neg h2]
end Sv
theorem map_take_mem {l:List Int} {j:Nat} (hj:j<l.length) (g:List Int) (x:Int):x∈tv l[j]! ::((l.take j).map tv++g)↔x∈(l.take (j+1)).map tv++g:=by
 rw [List.take_add_one,List.getElem?_eq_getElem hj,Option.toList_some]
 simp only [List.getElem!_eq_getElem?_getD,List.getElem?_eq_getElem hj,Option.getD_some,List.map_append,List.mem_append,List.mem_cons,List.map_cons,List.map_nil,List.not_mem_nil,or_false]
 constructor
 ·rintro (h |h |h)
  ·exact .inl (.inr h)
  ·exact .inl (.inl h)
  ·exact .inr h
 ·rintro ((h |h) |h)
  ·exact .inr (.inl h)
  ·exact .inl h
  ·exact .inr (.inr h)
end Go.Proofs.YtjmmpfjcpdepjaaGreatDoor
