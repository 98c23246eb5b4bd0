/- Parts of a proof. -/
import Derived.Test.YtjmmpfjcpdepjaaGreatDoorGAD
import Derived.Laws.MakeOwn
set_option linter.unusedVariables false
set_option linter.unusedSimpArgs false
set_option maxHeartbeats 8000000
set_option maxRecDepth 100000
namespace Go.Proofs.YtjmmpfjcpdepjaaGreatDoor
open Go.RowKit
theorem box_fr' (w:World) (o:Obj):Fr [] w (w.alloc o):=(Fr.refl [] w).alloc o
theorem Ints.keep' {w w':World} {A:Option Addr} {c:Nat} {xs:List Int} (h:Ints w A c xs) (hf:Fr [] w w'):Ints w' A c xs:=h.fr hf (fun k hk hm=>by cases hm)
def foundI:Option Nat→Int
 |some n=>n
 |none=> -1
theorem SvAt.sethead {w:World} {L:SvL} {S:Sv} (h:SvAt w L S) (x:Nat):SvAt (w.setCell ⟨L.a,8,none⟩ (.int .i64 x)) L { S with head:=x }∧Fr (L.own w) w (w.setCell ⟨L.a,8,none⟩ (.int .i64 x)):=by
 have hf:Fr [L.a] w (w.setCell ⟨L.a,8,none⟩ (.int .i64 x)):=(Fr.refl _ w).setCell (.inl (by simp)) _
 obtain ⟨h1,_,h3⟩:=h.top (L':=L) (S':={ S with head:=x }) hf (by have :=h.obj.set_ 8 (.int .i64 x);simpa [scs] using this) ⟨rfl,rfl,rfl,rfl,rfl,rfl,rfl,rfl,rfl,rfl,rfl,rfl,rfl,rfl,rfl,rfl,rfl⟩ ⟨rfl,rfl,rfl,rfl,rfl,rfl,rfl⟩
 exact ⟨h1,h3⟩
theorem row_get {keep l0:List Nat} {i:Nat} (h:keep.length≤i) (hi:i<l0.length):(keep++l0.drop keep.length)[i]! =l0[i]! :=by
 simp only [List.getElem!_eq_getElem?_getD]
 rw [List.getElem?_append_right h,List.getElem?_drop,Nat.add_sub_cancel' h]
theorem row_len {keep l0:List Nat} (h:keep.length≤l0.length):(keep++l0.drop keep.length).length=l0.length:=by simp;omega
theorem row_put {keep l0:List Nat} (n:Nat) (h:keep.length<l0.length):(casts (keep++l0.drop keep.length)).take keep.length++[(n:Int)]++(casts (keep++l0.drop keep.length)).drop (keep.length+1)=casts ((keep++[n])++l0.drop (keep++[n]).length):=by
 simp only [casts,List.map_append,List.map_drop,List.length_append,List.length_singleton,List.map_cons,List.map_nil]
 congr 1
 ·congr 1
  rw [List.take_append_of_le_length (by simp)]
  exact List.take_of_length_le (by simp)
 ·rw [List.drop_append,List.drop_of_length_le (by simp),List.nil_append,List.drop_drop,List.length_map]
  congr 1
  omega
theorem row_cut {keep l0:List Nat}:(casts (keep++l0.drop keep.length)).take keep.length=casts keep:=by
 simp only [casts,List.map_append]
 rw [List.take_append_of_le_length (by simp)]
 exact List.take_of_length_le (by simp)
theorem visit_ff (S:Sv) (n:Nat) (off:Int):(S.visitF n off).2.1=false→(S.visitF n off).2.2=true:=by
 unfold Sv.visitF Sv.visitT
 split
 ·simp
 ·simp only
  split
  ·simp
  ·split
   ·simp
   ·split<;>simp
theorem followF_stop {S:Sv} {f:Nat} (h:¬S.head<S.T.lits.length):Sv.followF f S=(S,none):=by
 cases f with
 |zero=>rfl
 |succ f=>simp only [Sv.followF];rw [if_neg h]
theorem follow_calls (w:World) (L:SvL) (S:Sv) (h:SvAt w L S) (ok:S.Ok 0):
  Calls Tryz.prog 137 #[.pointer (some ⟨L.a,0,none⟩)] w (SvP (.int .i64 (foundI S.follow.2)) S.follow.1 L w):=by
 obtain ⟨RES,hRES⟩:∃RES,S.follow=RES:=⟨_,rfl⟩
 have HRES:Hid (Sv.followF (S.vars+1) S=RES):=hRES
 rw [hRES]
 have FIN:Hid (∀(S':Sv) (r:Option Nat),RES=(S',r)→∀W L',SvAt W L' S'→L.ext L' w→Fr (L.own w) w W→SvP (.int .i64 (foundI RES.2)) RES.1 L w (.returned (.int .i64 (foundI r))) W):=fun S' r e W L' g1 g2 g3=>by
  subst e
  exact ⟨rfl,L',g1,g2,g3⟩
 have HH:=Lib.hid h
 have HOK:=Lib.hid ok
 have HSN:Hid (w.heap.size=w.heap.size):=rfl
 clear hRES h ok
 go_enter Tryz.func137,Tryz.ntmps137
 go_wp2_with fail
 go_loopg [2] (S.vars+1) (fun g x2 wr=>∃(S1:Sv) (L1:SvL),Hid (Sv.followF g S1=RES)∧S1.vars+1≤g+S1.head∧Hid (S1.Ok 0)∧Hid (SvAt wr L1 S1)∧Hid (L.ext L1 w)∧Hid (Fr (L.own w) w wr))
 case atStart=>exact ⟨S,L,HRES.out,by omega,HOK.out,HH.out,SvL.ext_refl _ _,Fr.refl _ _⟩
 case round=>
  obtain ⟨S1,L1,HR1,hfu,HO1,H1,HE1,HF1⟩:=hrel
  have HFU:=Lib.hid hfu
  have hvl:=HO1.out.vl
  have hhd:=HO1.out.hd
  have hlv:S1.T.lits.length≤S1.vars:=by
   obtain ⟨R,hR⟩:=HO1.out.tr
   have :=hR.len_le
   rw [hR.lits,List.length_map]
   exact this
  have hea:L1.a=L.a:=HE1.out.1
  obtain ⟨c0,-,-,-,c4,-,-,-,c8,-⟩:=H1.out.cells
  rw [hea] at c0 c4 c8
  have HC0:=Lib.hid c0
  have HC4:=Lib.hid c4
  have HC8:=Lib.hid c8
  have HEA:=Lib.hid hea
  have e0:=Ext.cell c0
  have e8:=Ext.cell c8
  have KL:=Lib.hid (fun u:Ext wr=>trail_len u.v L1.tL S1.T (H1.out.tr.fr u.fr (by simp)))
  clear hea hfu c4
  by_cases hlt:S1.head<S1.T.lits.length
  ·obtain ⟨f,hf1⟩:∃f,gk=f+1:=⟨gk-1,by have :=HFU.out;omega⟩
   have hd:decide ((S1.head:Int)<(S1.T.lits.length:Int))=true:=decide_eq_true (by omega)
   go_wp2_with fail
   refine wp_region_ext (by kernel_rfl) (by kernel_rfl) ?_
   repeat (go_big_quiet_step (exact call_same (KL.out _)))
   refine wpQuiet_nil ?_
   rintro w2 ⟨u2,hu2⟩
   have HF_w2:Hid (Fr [] wr w2):=hu2▸u2.fr
   clear hu2 u2
   clear e0 e8 c0 c8 KL hd
   obtain ⟨x,hx⟩:∃x,S1.T.lits[S1.head]! =x:=⟨_,rfl⟩
   have hat:S1.T.atB (S1.head:Int)=x:=by
    unfold Tr.atB
    rw [if_pos (by omega),Int.toNat_natCast]
    exact hx
   have hxr: -(S1.vars:Int)≤x∧x≤S1.vars∧x≠0:=by
    obtain ⟨R,hR⟩:=HO1.out.tr
    have hm:x∈S1.T.lits:=by rw [←hx];exact get_mem hlt
    rw [hR.lits,List.mem_map] at hm
    obtain ⟨e,he,rfl⟩:=hm
    have hb:=hR.bound e he
    unfold tv at hb
    split at hb
    ·omega
    ·split at hb<;>omega
   have HX:=Lib.hid hx
   have KA:=Lib.hid (fun u:Ext w2=>trail_at u.v L1.tL S1.T (H1.out.tr.fr (HF_w2.out.then_ u.fr) (by simp)) (S1.head:Int))
   rw [hat] at KA
   have c0:=HF_w2.out.cellS HC0.out
   have c8:=HF_w2.out.cellS HC8.out
   have e0:=Ext.cell c0
   have e8:=Ext.cell c8
   have hw1:IntKind.i64.wrap (-x)= -x:=IntWalk.i64_in _ (by omega)
   clear hat hx
   go_wp2_with fail
   refine wp_region_ext (by kernel_rfl) (by kernel_rfl) ?_
   repeat (go_big_quiet_step (exact call_same (KA.out _)))
   refine wpQuiet_nil ?_
   rintro w3 ⟨u2,hu2⟩
   have HF_w3:Hid (Fr [] w2 w3):=hu2▸u2.fr
   clear hu2 u2
   obtain ⟨off,hoff⟩:∃off,-x=off:=⟨_,rfl⟩
   have hor: -(S1.vars:Int)≤off∧off≤S1.vars:=by omega
   have HOFF:=Lib.hid hoff
   rw [hoff]
   clear e0 e8 c0 c8 KA hw1 hoff hxr
   obtain ⟨cy,hcy⟩:∃cy,lcode off=cy:=⟨_,rfl⟩
   have KC:=Lib.hid (fun W=>code_calls W off (by omega) (by omega))
   simp only [hcy] at KC
   have hcl:cy<L1.ws.length:=by
    rw [H1.out.lenw,HO1.out.wl,←hcy]
    exact code_lt hor.1 hor.2
   have HCY:=Lib.hid hcy
   have HF3:=Lib.hid (HF_w2.out.then_ HF_w3.out)
   clear HF_w2 HF_w3 hcy
   obtain ⟨gw,hgw,sw,fw⟩:=H1.out.whd hcl
   have hw0:=H1.out.wat_eq hcl
   have HTK:=Lib.hid (fun W hW=>(H1.out.keep (w':=W) hW).take hcl)
   obtain ⟨⟨A0,c0,l0⟩,hx0⟩:∃x,L1.ws[cy]! =x:=⟨_,rfl⟩
   rw [hx0] at sw hw0 HTK
   simp only at sw hw0 HTK
   have HW0:=Lib.hid hw0
   have HSW:=Lib.hid sw
   have HFW:=Lib.hid fw
   have c4:=HF3.out.cellS HC4.out
   rw [hgw] at c4
   have s4:=HF3.out.cellS sw
   have e4:=Ext.cell c4
   have es:=Ext.cell s4
   have HCL:=Lib.hid hcl
   have HGW:=Lib.hid hgw
   clear hx0 hw0 sw fw hgw
   go_wp2_with fail
   refine wp_region_ext (by kernel_rfl) (by kernel_rfl) ?_
   repeat (go_big_quiet_step (exact call_same (KC.out _)))
   refine wpQuiet_nil ?_
   rintro w4 ⟨u2,hu2⟩
   have HF_w4:Hid (Fr [] w3 w4):=hu2▸u2.fr
   clear hu2 u2
   clear c4 s4 e4 es
   have HF4:=Lib.hid (HF3.out.then_ HF_w4.out)
   have hc4:=HC4.out
   rw [HGW.out] at hc4
   have HC44:=Lib.hid (HF4.out.cellS hc4)
   clear HF3 HF_w4 hc4
   go_upto_region 5 with fail
   refine wp_region_noPanic ?_
   refine wp_region_C (fun w':World=>Fr [] w4 w') 7 (by kernel_rfl) ((Fr.refl [] w4).drew) (fun hT0=> ?_)
   apply TB 5 [(0,[]),(1,[]),(2,[]),(3,[3,7]),(4,[])];kernel_rfl;rfl;· (repeat (apply TBc;rfl;rfl;(· intro w hSw;(try (have hSw:=hSw.resolve_left (List.cons_ne_nil _ _);(have s4:=hSw.cellS HC44.out)));go_simp<;>with_reducible rfl);try simp only [Act.put,q5,q6,q7]));exact TBn
   exact hT0;intro hT0
   refine R2 5 (by kernel_rfl) (by rfl) hT0 fun K hK hSx=> ?_
   (go_simp;refine (KC.out _).mono ?_;rintro e w5 ⟨rfl,rfl⟩;dsimp only)
   refine hK.out _ _ (.inr ?_) (fun hT6=> ?_)
   ·exact hSx
   clear hK K
   try simp only [Act.put,q5,q6,q7]
   apply TB 1 [(6,[])];kernel_rfl;rfl;· (repeat (apply TBc;rfl;rfl;(· intro w hSw;go_simp<;>with_reducible rfl);try simp only [Act.put,q5,q6,q7]));exact TBn
   exact hT6;intro hT6
   refine R2 7 (by kernel_rfl) (by rfl) hT6 fun K hK hSx=> ?_
   (have sb:=(HF4.out.then_ hSx).cellS HSW.out;have fb:World.frozen? _ _=_:=(World.frozen?_of_block ((HF4.out.then_ hSx).block gw (lt_of_cell HSW.out) (by simp))).trans HFW.out;go_simp)
   refine hK.out _ _ (.inl rfl) (fun hT8=> ?_)
   clear hK K
   try simp only [Act.put,q5,q6,q7]
   refine wpAnyC_done (by kernel_rfl) ?_ _
   refine NoPanic.normal ?_
   have ht:=HTK.out w4 HF4.out
   obtain ⟨gw2,hg2,_,_,L5,h5',he5,hf5',hi5',hn5⟩:=ht
   obtain rfl :gw=gw2:=by rw [HGW.out] at hg2;simpa using hg2
   obtain ⟨W5,hW5⟩:∃W,(w4.setCell ⟨gw,cy,none⟩ (.slice none 0 0)).drew=W:=⟨_,rfl⟩
   have h5:SvAt W5 L5 (S1.wset cy []):=hW5▸h5'.keep (Fr.refl [] _).drew
   have hf5:Fr (L1.own w4) w4 W5:=hW5▸hf5'.drew
   have hi5:Ints W5 A0 c0 (casts l0):=hW5▸hi5'.drew
   rw [hW5]
   clear h5' hf5' hi5'
   have hz1:wr.heap.size≤w4.heap.size:=HF4.out.size
   have hE5:L.ext L5 w:=SvL.ext_trans HE1.out (⟨he5.1,he5.2.1,fun k hk e=>he5.2.2 k (Nat.lt_of_lt_of_le hk hz1) e⟩:L1.ext L5 wr) HF1.out.size
   have hF5:Fr (L.own w) w W5:=SvL.own_then HE1.out HF1.out ((HF4.out.mono (fun k hk=>by cases hk)).trans hf5 (fun k hk=>by
    rw [SvL.mem_own] at hk
    rcases Nat.lt_or_ge k wr.heap.size with hl |hl
    ·exact .inl (SvL.mem_own.2 ⟨hl,hk.2⟩)
    ·exact .inr hl))
   have hn0:∀k,k∈blks A0→(L5.lab k).1≠L5.id:=fun k hk=>(hn5 k hk).1
   have hg0:∀k,k∈blks A0→k∈L.own w∨w.heap.size≤k:=fun k hk=>by
    have e1:=(hn5 k hk).2
    rw [SvL.mem_own] at e1
    rcases Nat.lt_or_ge k w.heap.size with hl |hl
    ·exact .inl (SvL.mem_own.2 ⟨hl,HE1.out.2.2 k hl (e1.2.trans HE1.out.2.1)⟩)
    ·exact .inr hl
   have HG0:=Lib.hid hg0
   have HVR:Hid (Sv.followF f { (Sv.visitsF off l0 [] (S1.wset cy [])).1 with head:=S1.head+1 }=RES∧(Sv.visitsF off l0 [] (S1.wset cy [])).2=none∨∃n,(Sv.visitsF off l0 [] (S1.wset cy [])).2=some n∧RES=((Sv.visitsF off l0 [] (S1.wset cy [])).1,some n)):=by
    have h1:=HR1.out
    rw [hf1] at h1
    simp only [Sv.followF] at h1
    rw [if_pos hlt,HX.out,HOFF.out,HCY.out,HW0.out] at h1
    have hvh:(Sv.visitsF off l0 [] (S1.wset cy [])).1.head=S1.head:=by
     have o2:(S1.wset cy []).Ok (0+l0.length):=HO1.out.wset (by rw [←H1.out.lenw];exact HCL.out) (fun n hn=>by cases hn) (by rw [HW0.out];simp)
     exact (o2.visits off l0 [] _ (fun n hn=>HO1.out.wb cy n (by have :=HW0.out;unfold Sv.wat at this;rw [this];exact hn)) (fun n hn=>by cases hn) (by show lcode off<(S1.watch.set _ _).length;rw [List.length_set,←H1.out.lenw,HCY.out];exact HCL.out)).2.2.1
    cases hv:(Sv.visitsF off l0 [] (S1.wset cy [])).2 with
    |none=>
     rw [hv] at h1
     simp only [hvh] at h1
     exact .inl ⟨h1,rfl⟩
    |some n=>
     rw [hv] at h1
     exact .inr ⟨n,rfl,h1.symm⟩
   have o2:(S1.wset cy []).Ok l0.length:=HO1.out.wset (by rw [←H1.out.lenw];exact HCL.out) (fun n hn=>by cases hn) (by rw [HW0.out];simp)
   have hl0n:∀n∈l0,n<S1.list.length:=fun n hn=>HO1.out.wb cy n (by have :=HW0.out;unfold Sv.wat at this;rw [this];exact hn)
   have HL0N:=Lib.hid hl0n
   have H1L:=Lib.hid (H1.out.lenw.trans HO1.out.wl)
   have hvis:=(o2.less (m':=([]:List Nat).length+l0.length) (by simp)).visits off l0 [] _ hl0n (fun n hn=>by cases hn) (by show lcode off<(S1.watch.set _ _).length;rw [List.length_set,←H1.out.lenw,HCY.out];exact HCL.out)
   have HVIS:=Lib.hid hvis
   obtain ⟨VR,hVR⟩:∃VR,Sv.visitsF off l0 [] (S1.wset cy [])=VR:=⟨_,rfl⟩
   rw [hVR] at HVR HVIS
   have HV0:=Lib.hid hVR
   have hll:=HO1.out.ll
   have H5:=Lib.hid h5
   have HE5:=Lib.hid hE5
   have HF5:=Lib.hid hF5
   have HI5:=Lib.hid hi5
   have HN5:=Lib.hid hn0
   have HO5:=Lib.hid o2
   have HWL5:Hid ((S1.wset cy []).watch.length=2*S1.vars+2):=(by show (S1.watch.set _ _).length=_;rw [List.length_set];exact HO1.out.wl:(S1.wset cy []).watch.length=2*S1.vars+2)
   have hla0:l0.length≤4398046511104:=by have :=HO1.out.room cy;have h2:=HW0.out;unfold Sv.wat at h2;rw [h2] at this;exact this
   have hca0:l0.length≤c0:=by
    have h2:=hi5.form
    have e:=casts_len l0
    rcases h2 with ⟨_,_,h3⟩ |⟨_,_,_,h3,_⟩
    ·rw [h3] at e
     simp at e
     omega
    ·omega
   clear h5 he5 hf5 hi5 hn5 hE5 hF5 hn0 hg0 o2 hl0n hvis hVR hW5 hz1 HTK hSx hg2 HSW HFW HGW HC44 HF4 H1 HC0 HC4 HC8
   try clear hT8
   try clear hT7
   try clear hT6
   have hform:=HI5.out.form
   rcases hform with ⟨rfl,rfl,hl0⟩ |⟨g0,rfl,hg0l,-,-⟩
   ·have hl00:l0=[]:=by
     have :=casts_len l0
     rw [hl0] at this
     exact List.eq_nil_of_length_eq_zero this.symm
    subst hl00
    clear hl0
    go_wp2_with fail
    go_loopg [5,56] ([]:List Nat).length (fun g2 x5 x56 wi=>∃(i:Nat) (keep:List Nat) (S2:Sv) (L2:SvL),i+g2=([]:List Nat).length∧keep.length≤i∧x5= .slice none keep.length 0∧x56= .int .i64 i∧Hid (Sv.visitsF off (([]:List Nat).drop i) keep S2=VR)∧Hid (S2.Ok (keep.length+(([]:List Nat).length-i)))∧Hid (∀n∈keep,n<S1.list.length)∧Hid (S2.list.length=S1.list.length∧S2.vars=S1.vars∧S2.watch.length=2*S1.vars+2)∧Hid (SvAt wi L2 S2)∧Hid (L.ext L2 w)∧Hid (Fr (L.own w) w wi)∧Hid (Ints wi none 0 (casts (keep++([]:List Nat).drop keep.length)))∧Hid (∀k,k∈blks none→(L2.lab k).1≠L2.id))
    case atStart=>exact ⟨0,[],S1.wset cy [],L5,by omega,Nat.le_refl _,rfl,rfl,HV0.out,HO5.out.less (by simp),(fun n hn=>by cases hn),⟨rfl,rfl,HWL5.out⟩,H5.out,HE5.out,HF5.out,HI5.out,HN5.out⟩
    case round=>
     obtain ⟨i,keep,S2,L2,hi,hki,rfl,rfl,HVS,HO2,HKN,HSM,H2,HE2,HF2,HI2,HN2⟩:=hrel
     have HI:=Lib.hid hi
     have hil:i≤([]:List Nat).length:=by omega
     clear hi
     by_cases hlt2:i<([]:List Nat).length
     ·simp at hlt2
     ·obtain rfl :i=([]:List Nat).length:=by omega
      clear HI
      have hcl2:cy<L2.ws.length:=by rw [H2.out.lenw,HSM.out.2.2];have :=HCL.out;rw [H1L.out] at this;exact this
      obtain ⟨gw,hgw,sw,fw⟩:=H2.out.whd hcl2
      obtain ⟨-,-,-,-,c4,-⟩:=H2.out.cells
      rw [hgw,HE2.out.1] at c4
      have HN3':Hid (L.a∉blks none):=fun hm=>HN2.out _ hm (H2.out.has_own (.inl (by rw [HE2.out.1])))
      have HN4':Hid (gw∉blks none):=fun hm=>HN2.out _ hm (H2.out.has_own (.inr (.inr (.inr (.inr (.inl (by rw [hgw];simp [blks])))))))
      have HC4':=Lib.hid c4
      have HSW':=Lib.hid sw
      have HFW':=Lib.hid fw
      have HGW':=Lib.hid hgw
      have hvs:=HVS.out
      rw [List.drop_length] at hvs
      simp only [Sv.visitsF] at hvs
      rw [HCY.out] at hvs
      have hw9:=H2.out.wat_eq hcl2
      have hr9:=H2.out.ewh cy hcl2
      have hl9:=HO2.out.room cy
      have hno9:∀k,k∈blks (L2.ws[cy]!).A→k∉blks none:=fun k hk hm=>HN2.out k hm (H2.out.has_own (.inr (.inr (.inr (.inr (.inr (.inr (.inr (.inr (.inr ⟨cy,hcl2,hk⟩))))))))))
      unfold Sv.wat at hw9 hvs
      rw [hw9] at hl9 hvs
      obtain ⟨⟨A9,c9,l9⟩,hx9⟩:∃x,L2.ws[cy]! =x:=⟨_,rfl⟩
      rw [hx9] at sw hr9 hl9 hvs hno9
      rw [hx9] at HSW'
      simp only at sw hr9 hl9 hvs HSW' hno9
      have HR9:=Lib.hid hr9
      have HV9:=Lib.hid hvs
      have hkeep:Ints wr none 0 (casts keep):=by
       have :=HI2.out.take_ keep.length
       rw [row_cut] at this
       exact this
      have HKP:=Lib.hid hkeep
      have hcl3:cy<L2.ws.length:=hcl2
      have HCL3:=Lib.hid hcl3
      have HRN:Hid (Sv.followF f { VR.1 with head:=S1.head+1 }=RES):=by
       rcases HVR.out with h1 |⟨n,h1,_⟩
       ·exact h1.1
       ·rw [←HV9.out] at h1
        simp at h1
      have hkl9:keep.length≤4398046511104:=by omega
      clear hx9 hw9 hr9 hvs hkeep sw fw hgw c4 hcl2
      go_upto_region 17 with fail
      refine wp_region_noPanic ?_
      refine wp_region_C (fun w':World=>Fr (blks none) wr w') 17 (by kernel_rfl) ((Fr.refl _ wr).drew) (fun hT0=> ?_)
      apply TB 11 [(0,[]),(1,[]),(2,[]),(3,[3,17]),(4,[]),(6,[]),(7,[]),(8,[]),(9,[]),(10,[10,17]),(11,[])];kernel_rfl;rfl;· (repeat (apply TBc;rfl;rfl;(· intro w hSw;(try (have hSw:=hSw.resolve_left (List.cons_ne_nil _ _);(have s4:=hSw.cellN HN3'.out HC4'.out;have s5:=hSw.cellN HN4'.out HSW'.out)));go_simp<;>with_reducible rfl);try simp only [Act.put,q5,q6,q7]));exact TBn
      exact hT0;intro hT0
      refine R2 5 (by kernel_rfl) (by rfl) hT0 fun K hK hSx=> ?_
      (go_simp;refine (KC.out _).mono ?_;rintro e w5 ⟨rfl,rfl⟩;dsimp only)
      refine hK.out _ _ (.inr ?_) (fun hT12=> ?_)
      ·first |exact hSx.then_ hf7 |exact hSx
      clear hK K
      try simp only [Act.put,q5,q6,q7]
      refine R2 12 (by kernel_rfl) (by rfl) hT12 fun K hK hSx=> ?_
      (go_simp;refine (KC.out _).mono ?_;rintro e w5 ⟨rfl,rfl⟩;dsimp only)
      refine hK.out _ _ (.inr ?_) (fun hT13=> ?_)
      ·first |exact hSx.then_ hf7 |exact hSx
      clear hK K
      try simp only [Act.put,q5,q6,q7]
      apply TB 2 [(13,[]),(14,[14,17])];kernel_rfl;rfl;· (repeat (apply TBc;rfl;rfl;(· intro w hSw;(try (have hSw:=hSw.resolve_left (List.cons_ne_nil _ _);(have s4:=hSw.cellN HN3'.out HC4'.out;have s5:=hSw.cellN HN4'.out HSW'.out)));go_simp<;>with_reducible rfl);try simp only [Act.put,q5,q6,q7]));exact TBn
      exact hT13;intro hT13
      refine R2 15 (by kernel_rfl) (by rfl) hT13 fun K hK hSx=> ?_
      (refine step_append_ints rfl _ _ rfl none 0 (casts keep) _ rfl (casts_len keep).symm ?hownyr17u16 A9 _ c9 (casts l9) (casts_len l9) rfl ?hrryr17u16 (by rw [casts_len,casts_len];omega) ?_;(case hownyr17u16=>first |exact HKP.out.drew |exact HKP.out);(case hrryr17u16=>first |exact HR9.out.drew |exact HR9.out);intro A' cap w7 hi7 hf7 hb7 hs7)
      refine hK.out _ _ (.inr ?_) (fun hT16=> ?_)
      ·first |exact hSx.then_ hf7 |exact hSx
      clear hK K
      try simp only [Act.put,q5,q6,q7]
      apply TB 1 [(16,[])];kernel_rfl;rfl;· (repeat (apply TBc;rfl;rfl;(· intro w hSw;go_simp<;>with_reducible rfl);try simp only [Act.put,q5,q6,q7]));exact TBn
      exact hT16;intro hT16
      refine R2 17 (by kernel_rfl) (by rfl) hT16 fun K hK hSx=> ?_
      (have sb:=hSx.cellN HN4'.out HSW'.out;have fb:World.frozen? _ _=_:=(World.frozen?_of_block (hSx.block gw (lt_of_cell HSW'.out) HN4'.out)).trans HFW'.out;go_simp)
      refine hK.out _ _ (.inl rfl) (fun hT18=> ?_)
      clear hK K
      try simp only [Act.put,q5,q6,q7]
      refine wpAnyC_done (by kernel_rfl) ?_ _
      refine NoPanic.normal ?_
      have hi8:Ints w7 A' cap (casts (keep++l9)):=by
       have :=hi7
       unfold casts at this⊢
       rw [List.map_append]
       exact this
      obtain ⟨gw2,hg2,_,L8,h8,ha8,hid8,hx8,hf8⟩:=H2.out.give (c:=cy) HCL3.out (A0:=none) HN2.out hi8 hSx (fun k hk=>(hb7 k hk).imp id (fun e=>by rw [e];exact Nat.le_refl _))
      obtain rfl :gw=gw2:=by rw [HGW'.out] at hg2;simpa using hg2
      simp only [List.length_append] at h8 hf8
      obtain ⟨W8,hW8⟩:∃W,w7.setCell ⟨gw,cy,none⟩ (.slice A' (keep.length+l9.length) cap)=W:=⟨_,rfl⟩
      rw [hW8] at h8 hf8⊢
      have hE8:L.ext L8 w:=by
       refine ⟨ha8.trans HE2.out.1,hid8.trans HE2.out.2.1,fun k hk e=> ?_⟩
       rcases hx8 k (Nat.lt_of_lt_of_le hk HF2.out.size) (e.trans HE2.out.2.1.symm) with h1 |h1
       ·exact HE2.out.2.2 k hk (h1.trans HE2.out.2.1)
       ·rcases HG0.out k h1 with h2 |h2
        ·exact (SvL.mem_own.1 h2).2
        ·omega
      have hF8:Fr (L.own w) w W8:=HF2.out.trans hf8 (fun k hk=>by
       rcases List.mem_append.1 hk with h1 |h1
       ·exact HG0.out k h1
       ·rw [SvL.mem_own] at h1
        rcases Nat.lt_or_ge k w.heap.size with hl |hl
        ·exact .inl (SvL.mem_own.2 ⟨hl,HE2.out.2.2 k hl (h1.2.trans HE2.out.2.1)⟩)
        ·exact .inr hl)
      have hS8:S2.wset cy (keep++l9)=VR.1:=by rw [←HV9.out]
      rw [hS8] at h8
      have hhv:=HVIS.out.2.2.1
      have hh9:VR.1.head=S1.head:=hhv
      have hvv:VR.1.vars=S1.vars:=HVIS.out.2.1
      have hlt8:S1.T.lits.length≤VR.1.T.lits.length:=by
       have :=Sv.visits_lits off [] [] (S1.wset cy [])
       rw [HV0.out] at this
       exact this
      have c8:=h8.cells.2.2.2.2.2.2.2.2.1
      have f8:=h8.obj.frozen 8
      rw [hh9] at c8
      rw [ha8.trans HE2.out.1] at c8 f8
      obtain ⟨h9,hf9⟩:=h8.sethead (S1.head+1)
      rw [ha8.trans HE2.out.1] at h9 hf9
      have H9:=Lib.hid h9
      have HF9:=Lib.hid (SvL.own_then hE8 hF8 hf9)
      have HE9:=Lib.hid hE8
      have HO9:Hid (({ VR.1 with head:=S1.head+1 }:Sv).Ok 0):=(by
       have o:=HVIS.out.1
       exact ⟨o.vl,o.tr,o.hi,o.hl,o.ph,o.wl,o.ll,o.wb,o.wt,o.lr,o.ln,o.lb,by show S1.head+1≤VR.1.T.lits.length;omega,o.rs⟩:({ VR.1 with head:=S1.head+1 }:Sv).Ok 0)
      have HVV8:=Lib.hid hvv
      have hhb:S1.head≤262143:=by omega
      clear hW8 h8 hf8 hE8 hF8 hS8 hhv hh9 hvv hlt8 h9 hf9 hi7 hf7 hb7 hs7 hi8 hx8 ha8 hid8 hSx
      go_wp2_with fail
      go_roundg f
      case measure=>omega
      case rel=>exact ⟨{ VR.1 with head:=S1.head+1 },L8,HRN.out,(by show VR.1.vars+1≤f+(S1.head+1);have :=HFU.out;have :=HVV8.out;omega),HO9.out,H9.out,HE9.out,HF9.out⟩
   ·go_wp2_with fail
    go_loopg [5,56] l0.length (fun g2 x5 x56 wi=>∃(i:Nat) (keep:List Nat) (S2:Sv) (L2:SvL),i+g2=l0.length∧keep.length≤i∧x5= .slice (some ⟨g0,0,none⟩) keep.length c0∧x56= .int .i64 i∧Hid (Sv.visitsF off (l0.drop i) keep S2=VR)∧Hid (S2.Ok (keep.length+(l0.length-i)))∧Hid (∀n∈keep,n<S1.list.length)∧Hid (S2.list.length=S1.list.length∧S2.vars=S1.vars∧S2.watch.length=2*S1.vars+2)∧Hid (SvAt wi L2 S2)∧Hid (L.ext L2 w)∧Hid (Fr (L.own w) w wi)∧Hid (Ints wi (some ⟨g0,0,none⟩) c0 (casts (keep++l0.drop keep.length)))∧Hid (∀k,k∈blks (some ⟨g0,0,none⟩)→(L2.lab k).1≠L2.id))
    case atStart=>exact ⟨0,[],S1.wset cy [],L5,by omega,Nat.le_refl _,rfl,rfl,HV0.out,HO5.out.less (by simp),(fun n hn=>by cases hn),⟨rfl,rfl,HWL5.out⟩,H5.out,HE5.out,HF5.out,HI5.out,HN5.out⟩
    case round=>
     obtain ⟨i,keep,S2,L2,hi,hki,rfl,rfl,HVS,HO2,HKN,HSM,H2,HE2,HF2,HI2,HN2⟩:=hrel
     have HI:=Lib.hid hi
     have hil:i≤l0.length:=by omega
     clear hi
     by_cases hlt2:i<l0.length
     ·have cn:=(HI2.out:Ints _ (some ⟨g0,0,none⟩) c0 _).cell (i:=i) (by rw [casts_len,row_len (by omega)];exact hlt2)
      rw [casts_get,row_get hki hlt2] at cn
      obtain ⟨n,hn⟩:∃n,l0[i]! =n:=⟨_,rfl⟩
      rw [hn] at cn
      have hmem:n∈l0:=by rw [←hn];simp only [List.getElem!_eq_getElem?_getD,List.getElem?_eq_getElem hlt2,Option.getD_some];exact List.getElem_mem hlt2
      have hnl:n<S2.list.length:=by rw [HSM.out.1];exact HL0N.out n hmem
      have hnb:n<2199023255552:=by have :=HO1.out.ll;have :=HSM.out.1;omega
      have hdr:l0.drop i=n::l0.drop (i+1):=by rw [List.drop_eq_getElem_cons hlt2,←hn];simp only [List.getElem!_eq_getElem?_getD,List.getElem?_eq_getElem hlt2,Option.getD_some]
      have hok1:=HO2.out.less (m':=(keep.length+(l0.length-(i+1)))+1) (by omega)
      have HVC:=visit_calls _ L2 S2 H2.out _ hok1 n hnl off
      have hvo:=hok1.visit hnl off
      have hff:=visit_ff S2 n off
      have hvs:=HVS.out
      rw [hdr] at hvs
      simp only [Sv.visitsF] at hvs
      rw [HE2.out.1] at HVC
      obtain ⟨⟨q1,st,okb⟩,hq⟩:∃q,S2.visitF n off=q:=⟨_,rfl⟩
      rw [hq] at HVC hvo hff hvs
      simp only at HVC hvo hff hvs
      have HVC:=Lib.hid HVC
      have HVO:=Lib.hid hvo
      have HFFF:=Lib.hid hff
      have HVS2:=Lib.hid hvs
      have HNB:=Lib.hid (HL0N.out n hmem)
      clear hq hvo hff hvs hdr hmem hn hnl hok1
      go_wp2_with fail
      clear cn
      refine HVC.out.mono ?_
      clear HVC
      rintro e w6 ⟨rfl,L3,h3,he3,hf3⟩
      have HE3:=Lib.hid (SvL.ext_trans HE2.out (by exact he3) HF2.out.size)
      have HF3':=Lib.hid (SvL.own_then HE2.out HF2.out hf3)
      have hg2:∀V:World,g0∉L2.own V:=fun V hm=>HN2.out g0 (by simp [blks]) (SvL.mem_own.1 hm).2
      have HI3:=Lib.hid (HI2.out.fr hf3 (fun k hk=>by simp [blks] at hk;subst hk;exact hg2 _))
      have HN3:Hid (∀k,k∈blks (some (⟨g0,0,none⟩:Addr))→(L3.lab k).1≠L3.id):=fun k hk e=>by
       have hl:k<_:=HI2.out.lt k hk
       exact HN2.out k hk (he3.2.2 k hl (e.trans he3.2.1))
      have H3:=Lib.hid h3
      clear h3 he3 hf3 hg2 HE2 HF2 H2 HI2 HN2
      cases st with
      |true=>
       cases okb with
       |true=>
        have hkl:keep.length<l0.length:=by omega
        have HB:Hid (Fr [] w6 (w6.alloc (.cells #[.int .i64 n] 3))):=box_fr' _ _
        have HCE:Hid ((w6.alloc (.cells #[.int .i64 n] 3)).cell? ⟨w6.heap.size,0,none⟩=some (.int .i64 n)):=(At.new w6 _ _).cell 0
        go_wp2_with (at_builtin;(refine wpList_append_in1 _ rfl _ _ rfl g0 c0 keep.length (casts (keep++l0.drop keep.length)) rfl (HI3.out.keep' HB.out) ⟨w6.heap.size,0,none⟩ 1 n rfl HCE.out (by rw [casts_len,row_len (by omega)];exact hkl) ?_;intro w7 hi7 hf7))
        rw [row_put n hkl] at hi7
        have HI7:=Lib.hid hi7
        have hF7:Fr [g0] w6 w7:=(HB.out.mono (fun k hk=>by cases hk)).then_ hf7
        have H7:=Lib.hid (H3.out.fr hF7 (fun k hk _=>by simp at hk;subst hk;exact HN3.out k (by simp [blks])))
        have HF7:=Lib.hid (HF3'.out.trans hF7 (fun k hk=>by simp at hk;subst hk;exact HG0.out k (by simp [blks])))
        have HVO2:=Lib.hid HVO.out
        have hvs:=HVS2.out
        simp only [if_true] at hvs
        have HVS3:=Lib.hid hvs
        have HKN2:Hid (∀j∈keep++[n],j<S1.list.length):=fun j hj=>by
         rcases List.mem_append.1 hj with h |h
         ·exact HKN.out j h
         ·simp at h;rw [h];exact HNB.out
        clear hi7 hf7 hF7 hvs HB HCE HI3 H3 HF3'
        have hvs:=HVS3.out
        try simp only [if_true] at hvs
        have HVS4:=Lib.hid hvs
        clear hvs
        go_roundg (gk-1)
        case measure=>have :=HI.out;omega
        case rel=>exact ⟨i+1,keep++[n],q1,L3,by have :=HI.out;omega,by simp;omega,by simp,by go_num,HVS4.out,HVO2.out.1.less (by simp;omega),HKN2.out,⟨by rw [HVO2.out.2.2.1];exact HSM.out.1,by rw [HVO2.out.2.1];exact HSM.out.2.1,by rw [HVO2.out.2.2.2.2];exact HSM.out.2.2⟩,H7.out,HE3.out,HF7.out,HI7.out,HN3.out⟩
       |false=>
        have hkl:keep.length<l0.length:=by omega
        have HB:Hid (Fr [] w6 (w6.alloc (.cells #[.int .i64 n] 3))):=box_fr' _ _
        have HCE:Hid ((w6.alloc (.cells #[.int .i64 n] 3)).cell? ⟨w6.heap.size,0,none⟩=some (.int .i64 n)):=(At.new w6 _ _).cell 0
        go_wp2_with (at_builtin;(refine wpList_append_in1 _ rfl _ _ rfl g0 c0 keep.length (casts (keep++l0.drop keep.length)) rfl (HI3.out.keep' HB.out) ⟨w6.heap.size,0,none⟩ 1 n rfl HCE.out (by rw [casts_len,row_len (by omega)];exact hkl) ?_;intro w7 hi7 hf7))
        rw [row_put n hkl] at hi7
        have HI7:=Lib.hid hi7
        have hF7:Fr [g0] w6 w7:=(HB.out.mono (fun k hk=>by cases hk)).then_ hf7
        have H7:=Lib.hid (H3.out.fr hF7 (fun k hk _=>by simp at hk;subst hk;exact HN3.out k (by simp [blks])))
        have HF7:=Lib.hid (HF3'.out.trans hF7 (fun k hk=>by simp at hk;subst hk;exact HG0.out k (by simp [blks])))
        have HVO2:=Lib.hid HVO.out
        have hvs:=HVS2.out
        simp only [if_true] at hvs
        have HVS3:=Lib.hid hvs
        have HKN2:Hid (∀j∈keep++[n],j<S1.list.length):=fun j hj=>by
         rcases List.mem_append.1 hj with h |h
         ·exact HKN.out j h
         ·simp at h;rw [h];exact HNB.out
        clear hi7 hf7 hF7 hvs HB HCE HI3 H3 HF3'
        have hcl2:cy<L3.ws.length:=by rw [H7.out.lenw,HVO2.out.2.2.2.2,HSM.out.2.2];have :=HCL.out;rw [H1L.out] at this;exact this
        obtain ⟨gw,hgw,sw,fw⟩:=H7.out.whd hcl2
        obtain ⟨-,-,-,-,c4,-⟩:=H7.out.cells
        rw [hgw,HE3.out.1] at c4
        have HN3':Hid (L.a∉blks (some ⟨g0,0,none⟩)):=fun hm=>HN3.out _ hm (H7.out.has_own (.inl (by rw [HE3.out.1])))
        have HN4':Hid (gw∉blks (some ⟨g0,0,none⟩)):=fun hm=>HN3.out _ hm (H7.out.has_own (.inr (.inr (.inr (.inr (.inl (by rw [hgw];simp [blks])))))))
        have HC4':=Lib.hid c4
        have HSW':=Lib.hid sw
        have HFW':=Lib.hid fw
        have HGW':=Lib.hid hgw
        have hvs:=HVS3.out
        try simp only [Bool.false_eq_true,if_false] at hvs
        rw [HCY.out] at hvs
        have HV9:=Lib.hid hvs
        have hcl3:cy<L3.ws.length:=hcl2
        have HCL3:=Lib.hid hcl3
        have HRN:Hid (RES=(VR.1,some n)):=by
         rcases HVR.out with h1 |⟨n',h1,h2⟩
         ·rw [←HV9.out] at h1
          simp at h1
         ·have e:n'=n:=by rw [←HV9.out] at h1;simpa using h1.symm
          rw [h2,e]
          rfl
        have hki1:keep.length+1≤i+1:=by omega
        have HIN:Hid (∀k:Nat,k<(casts (l0.drop (i+1))).length→w7.cell? ⟨g0,i+1+k,none⟩=some (.int .i64 (casts (l0.drop (i+1)))[k]!)):=fun k hk=>by
         rw [casts_len,List.length_drop] at hk
         have h1:=HI7.out.cell (i:=i+1+k) (by rw [casts_len,row_len (by simp;omega)];omega)
         rw [h1,casts_get,casts_get,row_get (by simp;omega) (by omega),drop_get]
        have hl0d:(casts (l0.drop (i+1))).length=l0.length-(i+1):=by rw [casts_len,List.length_drop]
        have HL0D:=Lib.hid hl0d
        have hi1i:IntKind.i64.wrap ((i:Int)+1)=(i:Int)+1:=IntWalk.i64_in _ (by omega)
        have hb1:(i:Int)+1≤l0.length:=by omega
        have hb0:(0:Int)≤(i:Int)+1:=by omega
        have hb2:i+1≤l0.length:=by omega
        have hb3:i+1≤c0:=by omega
        clear hvs sw fw hgw c4 hcl2 hl0d
        by_cases hcap:c0=i+1
        ·subst hcap
         refine wp_region_noPanic ?_
         refine wp_region_C (fun w':World=>Fr [g0] w7 w') 13 (by kernel_rfl) ((Fr.refl _ w7).drew) (fun hT0=> ?_)
         apply TB 10 [(0,[]),(1,[]),(2,[]),(3,[3,13]),(4,[]),(6,[]),(7,[]),(8,[]),(9,[]),(10,[])];kernel_rfl;rfl;· (repeat (apply TBc;rfl;rfl;(· intro w hSw;(try (have hSw:=hSw.resolve_left (List.cons_ne_nil _ _);(have s4:=hSw.cellN HN3'.out HC4'.out;have s5:=hSw.cellN HN4'.out HSW'.out)));go_simp<;>with_reducible rfl);try simp only [Act.put,q5,q6,q7]));exact TBn
         exact hT0;intro hT0
         refine R2 5 (by kernel_rfl) (by rfl) hT0 fun K hK hSx=> ?_
         (go_simp;refine (KC.out _).mono ?_;rintro e w5 ⟨rfl,rfl⟩;dsimp only)
         refine hK.out _ _ (.inr ?_) (fun hT11=> ?_)
         ·first |exact hSx.then_ hf8 |exact hSx
         clear hK K
         try simp only [Act.put,q5,q6,q7]
         refine R2 11 (by kernel_rfl) (by rfl) hT11 fun K hK hSx=> ?_
         (refine step_append_in rfl _ _ rfl g0 (i+1) (keep.length+1) (casts ((keep++[n])++l0.drop (keep++[n]).length)) rfl ?hownpr14u12 ⟨g0,0,none⟩ 0 0 [] rfl rfl (fun k hk=>absurd hk (by simp)) (by rw [casts_len,row_len (by simp;omega)];simp;omega) ?_;(case hownpr14u12=>first |exact HI7.out.drew |exact HI7.out);intro w8 hi8 hf8)
         refine hK.out _ _ (.inr ?_) (fun hT12=> ?_)
         ·first |exact hSx.then_ hf8 |exact hSx
         clear hK K
         try simp only [Act.put,q5,q6,q7]
         apply TB 1 [(12,[])];kernel_rfl;rfl;· (repeat (apply TBc;rfl;rfl;(· intro w hSw;go_simp<;>with_reducible rfl);try simp only [Act.put,q5,q6,q7]));exact TBn
         exact hT12;intro hT12
         refine R2 13 (by kernel_rfl) (by rfl) hT12 fun K hK hSx=> ?_
         (have sb:=hSx.cellN HN4'.out HSW'.out;have fb:World.frozen? _ _=_:=(World.frozen?_of_block (hSx.block gw (lt_of_cell HSW'.out) HN4'.out)).trans HFW'.out;go_simp)
         refine hK.out _ _ (.inl rfl) (fun hT14=> ?_)
         clear hK K
         try simp only [Act.put,q5,q6,q7]
         refine wpAnyC_done (by kernel_rfl) ?_ _
         refine NoPanic.normal ?_
         have hcut:(casts ((keep++[n])++l0.drop (keep++[n]).length)).take (keep.length+1)=casts (keep++[n]):=by
          have :=row_cut (keep:=keep++[n]) (l0:=l0)
          rw [List.length_append,List.length_singleton] at this
          rw [List.length_append,List.length_singleton]
          exact this
         have hdz:l0.drop (i+1)=[]:=List.drop_eq_nil_of_le (by omega)
         have hlz:l0.length-(i+1)=0:=by omega
         have hi9:Ints w8 (some ⟨g0,0,none⟩) (i+1) (casts ((keep++[n])++l0.drop (i+1))):=by
          have :=hi8.take_ (keep.length+1)
          rw [hcut,List.append_nil,List.take_append_of_le_length (by rw [casts_len];simp),List.take_of_length_le (by rw [casts_len];simp)] at this
          rw [hdz,List.append_nil]
          exact this
         obtain ⟨gw2,hg2,_,L8,h8,ha8,hid8,hx8,hf9⟩:=H7.out.give (c:=cy) HCL3.out (A0:=some ⟨g0,0,none⟩) HN3.out hi9 hSx (fun k hk=> .inl hk)
         obtain rfl :gw=gw2:=by rw [HGW'.out] at hg2;simpa using hg2
         have hlen9:((keep++[n])++l0.drop (i+1)).length=keep.length+1+(l0.length-(i+1)):=by simp;omega
         rw [hlen9,hlz] at h8 hf9
         have hE8:L.ext L8 w:=by
          refine ⟨ha8.trans HE3.out.1,hid8.trans HE3.out.2.1,fun k hk e=> ?_⟩
          rcases hx8 k (Nat.lt_of_lt_of_le hk HF7.out.size) (e.trans HE3.out.2.1.symm) with h1 |h1
          ·exact HE3.out.2.2 k hk (h1.trans HE3.out.2.1)
          ·rcases HG0.out k h1 with h2 |h2
           ·exact (SvL.mem_own.1 h2).2
           ·omega
         have hF8:=HF7.out.trans hf9 (fun k hk=>by
          rcases List.mem_append.1 hk with h1 |h1
          ·exact HG0.out k h1
          ·rw [SvL.mem_own] at h1
           rcases Nat.lt_or_ge k w.heap.size with hl |hl
           ·exact .inl (SvL.mem_own.2 ⟨hl,HE3.out.2.2 k hl (h1.2.trans HE3.out.2.1)⟩)
           ·exact .inr hl)
         have hS8:q1.wset cy ((keep++[n])++l0.drop (i+1))=VR.1:=by rw [←HV9.out]
         rw [hS8] at h8
         have FF:=Lib.hid (FIN.out VR.1 (some n) HRN.out _ L8 h8 hE8 hF8)
         clear hi8 hf8 hi9 h8 hE8 hF8 hS8 hSx hf9
         go_wp2_with fail
         go_ret
         exact FF.out
        ·have hcap2:c0-(i+1)≠0:=by omega
         refine wp_region_noPanic ?_
         refine wp_region_C (fun w':World=>Fr [g0] w7 w') 13 (by kernel_rfl) ((Fr.refl _ w7).drew) (fun hT0=> ?_)
         apply TB 10 [(0,[]),(1,[]),(2,[]),(3,[3,13]),(4,[]),(6,[]),(7,[]),(8,[]),(9,[]),(10,[])];kernel_rfl;rfl;· (repeat (apply TBc;rfl;rfl;(· intro w hSw;(try (have hSw:=hSw.resolve_left (List.cons_ne_nil _ _);(have s4:=hSw.cellN HN3'.out HC4'.out;have s5:=hSw.cellN HN4'.out HSW'.out)));go_simp<;>with_reducible rfl);try simp only [Act.put,q5,q6,q7]));exact TBn
         exact hT0;intro hT0
         refine R2 5 (by kernel_rfl) (by rfl) hT0 fun K hK hSx=> ?_
         (go_simp;refine (KC.out _).mono ?_;rintro e w5 ⟨rfl,rfl⟩;dsimp only)
         refine hK.out _ _ (.inr ?_) (fun hT11=> ?_)
         ·first |exact hSx.then_ hf8 |exact hSx
         clear hK K
         try simp only [Act.put,q5,q6,q7]
         refine R2 11 (by kernel_rfl) (by rfl) hT11 fun K hK hSx=> ?_
         (refine step_append_in rfl _ _ rfl g0 c0 (keep.length+1) (casts ((keep++[n])++l0.drop (keep++[n]).length)) rfl ?hownqr14u12 ⟨g0,i+1,none⟩ (l0.length-(i+1)) (c0-(i+1)) (casts (l0.drop (i+1))) HL0D.out rfl ?hrrqr14u12 (by rw [casts_len,casts_len,row_len (by simp;omega),List.length_drop];omega) ?_;(case hownqr14u12=>first |exact HI7.out.drew |exact HI7.out);(case hrrqr14u12=>exact (fun k hk=>by rw [addr_add];exact HIN.out k hk));intro w8 hi8 hf8)
         refine hK.out _ _ (.inr ?_) (fun hT12=> ?_)
         ·first |exact hSx.then_ hf8 |exact hSx
         clear hK K
         try simp only [Act.put,q5,q6,q7]
         apply TB 1 [(12,[])];kernel_rfl;rfl;· (repeat (apply TBc;rfl;rfl;(· intro w hSw;go_simp<;>with_reducible rfl);try simp only [Act.put,q5,q6,q7]));exact TBn
         exact hT12;intro hT12
         refine R2 13 (by kernel_rfl) (by rfl) hT12 fun K hK hSx=> ?_
         (have sb:=hSx.cellN HN4'.out HSW'.out;have fb:World.frozen? _ _=_:=(World.frozen?_of_block (hSx.block gw (lt_of_cell HSW'.out) HN4'.out)).trans HFW'.out;go_simp)
         refine hK.out _ _ (.inl rfl) (fun hT14=> ?_)
         clear hK K
         try simp only [Act.put,q5,q6,q7]
         refine wpAnyC_done (by kernel_rfl) ?_ _
         refine NoPanic.normal ?_
         have hcut:(casts ((keep++[n])++l0.drop (keep++[n]).length)).take (keep.length+1)=casts (keep++[n]):=by
          have :=row_cut (keep:=keep++[n]) (l0:=l0)
          rw [List.length_append,List.length_singleton] at this
          rw [List.length_append,List.length_singleton]
          exact this
         have hi9:Ints w8 (some ⟨g0,0,none⟩) c0 (casts ((keep++[n])++l0.drop (i+1))):=by
          have :=hi8.take_ (keep.length+1+(l0.length-(i+1)))
          rw [hcut] at this
          have e:(casts (keep++[n])++casts (l0.drop (i+1))).length=keep.length+1+(l0.length-(i+1)):=by
           rw [List.length_append,casts_len,casts_len,List.length_drop,List.length_append,List.length_singleton]
          rw [List.take_append_of_le_length (by rw [e];exact Nat.le_refl _),List.take_of_length_le (by rw [e];exact Nat.le_refl _)] at this
          unfold casts at this⊢
          rw [List.map_append]
          exact this
         obtain ⟨gw2,hg2,_,L8,h8,ha8,hid8,hx8,hf9⟩:=H7.out.give (c:=cy) HCL3.out (A0:=some ⟨g0,0,none⟩) HN3.out hi9 hSx (fun k hk=> .inl hk)
         obtain rfl :gw=gw2:=by rw [HGW'.out] at hg2;simpa using hg2
         have hlen9:((keep++[n])++l0.drop (i+1)).length=keep.length+1+(l0.length-(i+1)):=by simp;omega
         rw [hlen9] at h8 hf9
         have hE8:L.ext L8 w:=by
          refine ⟨ha8.trans HE3.out.1,hid8.trans HE3.out.2.1,fun k hk e=> ?_⟩
          rcases hx8 k (Nat.lt_of_lt_of_le hk HF7.out.size) (e.trans HE3.out.2.1.symm) with h1 |h1
          ·exact HE3.out.2.2 k hk (h1.trans HE3.out.2.1)
          ·rcases HG0.out k h1 with h2 |h2
           ·exact (SvL.mem_own.1 h2).2
           ·omega
         have hF8:=HF7.out.trans hf9 (fun k hk=>by
          rcases List.mem_append.1 hk with h1 |h1
          ·exact HG0.out k h1
          ·rw [SvL.mem_own] at h1
           rcases Nat.lt_or_ge k w.heap.size with hl |hl
           ·exact .inl (SvL.mem_own.2 ⟨hl,HE3.out.2.2 k hl (h1.2.trans HE3.out.2.1)⟩)
           ·exact .inr hl)
         have hS8:q1.wset cy ((keep++[n])++l0.drop (i+1))=VR.1:=by rw [←HV9.out]
         rw [hS8] at h8
         have FF:=Lib.hid (FIN.out VR.1 (some n) HRN.out _ L8 h8 hE8 hF8)
         clear hi8 hf8 hi9 h8 hE8 hF8 hS8 hSx hf9
         go_wp2_with fail
         go_ret
         exact FF.out
      |false=>
       have hokt:=HFFF.out rfl
       subst hokt
       have hvs:=HVS2.out
       simp only [Bool.false_eq_true,if_false,if_true] at hvs
       have HVS4:=Lib.hid hvs
       clear hvs
       go_wp2_with fail
       go_roundg (gk-1)
       case measure=>have :=HI.out;omega
       case rel=>exact ⟨i+1,keep,q1,L3,by have :=HI.out;omega,by omega,rfl,by go_num,HVS4.out,HVO.out.1.less (by simp),HKN.out,⟨by rw [HVO.out.2.2.1];exact HSM.out.1,by rw [HVO.out.2.1];exact HSM.out.2.1,by rw [HVO.out.2.2.2.2];exact HSM.out.2.2⟩,H3.out,HE3.out,HF3'.out,HI3.out,HN3.out⟩
     ·obtain rfl :i=l0.length:=by omega
      clear HI
      have hcl2:cy<L2.ws.length:=by rw [H2.out.lenw,HSM.out.2.2];have :=HCL.out;rw [H1L.out] at this;exact this
      obtain ⟨gw,hgw,sw,fw⟩:=H2.out.whd hcl2
      obtain ⟨-,-,-,-,c4,-⟩:=H2.out.cells
      rw [hgw,HE2.out.1] at c4
      have HN3':Hid (L.a∉blks (some ⟨g0,0,none⟩)):=fun hm=>HN2.out _ hm (H2.out.has_own (.inl (by rw [HE2.out.1])))
      have HN4':Hid (gw∉blks (some ⟨g0,0,none⟩)):=fun hm=>HN2.out _ hm (H2.out.has_own (.inr (.inr (.inr (.inr (.inl (by rw [hgw];simp [blks])))))))
      have HC4':=Lib.hid c4
      have HSW':=Lib.hid sw
      have HFW':=Lib.hid fw
      have HGW':=Lib.hid hgw
      have hvs:=HVS.out
      rw [List.drop_length] at hvs
      simp only [Sv.visitsF] at hvs
      rw [HCY.out] at hvs
      have hw9:=H2.out.wat_eq hcl2
      have hr9:=H2.out.ewh cy hcl2
      have hl9:=HO2.out.room cy
      have hno9:∀k,k∈blks (L2.ws[cy]!).A→k∉blks (some ⟨g0,0,none⟩):=fun k hk hm=>HN2.out k hm (H2.out.has_own (.inr (.inr (.inr (.inr (.inr (.inr (.inr (.inr (.inr ⟨cy,hcl2,hk⟩))))))))))
      unfold Sv.wat at hw9 hvs
      rw [hw9] at hl9 hvs
      obtain ⟨⟨A9,c9,l9⟩,hx9⟩:∃x,L2.ws[cy]! =x:=⟨_,rfl⟩
      rw [hx9] at sw hr9 hl9 hvs hno9
      rw [hx9] at HSW'
      simp only at sw hr9 hl9 hvs HSW' hno9
      have HR9:=Lib.hid hr9
      have HV9:=Lib.hid hvs
      have hkeep:Ints wr (some ⟨g0,0,none⟩) c0 (casts keep):=by
       have :=HI2.out.take_ keep.length
       rw [row_cut] at this
       exact this
      have HKP:=Lib.hid hkeep
      have hcl3:cy<L2.ws.length:=hcl2
      have HCL3:=Lib.hid hcl3
      have HRN:Hid (Sv.followF f { VR.1 with head:=S1.head+1 }=RES):=by
       rcases HVR.out with h1 |⟨n,h1,_⟩
       ·exact h1.1
       ·rw [←HV9.out] at h1
        simp at h1
      have hkl9:keep.length≤4398046511104:=by omega
      clear hx9 hw9 hr9 hvs hkeep sw fw hgw c4 hcl2
      go_upto_region 17 with fail
      refine wp_region_noPanic ?_
      refine wp_region_C (fun w':World=>Fr (blks (some ⟨g0,0,none⟩)) wr w') 17 (by kernel_rfl) ((Fr.refl _ wr).drew) (fun hT0=> ?_)
      apply TB 11 [(0,[]),(1,[]),(2,[]),(3,[3,17]),(4,[]),(6,[]),(7,[]),(8,[]),(9,[]),(10,[10,17]),(11,[])];kernel_rfl;rfl;· (repeat (apply TBc;rfl;rfl;(· intro w hSw;(try (have hSw:=hSw.resolve_left (List.cons_ne_nil _ _);(have s4:=hSw.cellN HN3'.out HC4'.out;have s5:=hSw.cellN HN4'.out HSW'.out)));go_simp<;>with_reducible rfl);try simp only [Act.put,q5,q6,q7]));exact TBn
      exact hT0;intro hT0
      refine R2 5 (by kernel_rfl) (by rfl) hT0 fun K hK hSx=> ?_
      (go_simp;refine (KC.out _).mono ?_;rintro e w5 ⟨rfl,rfl⟩;dsimp only)
      refine hK.out _ _ (.inr ?_) (fun hT12=> ?_)
      ·first |exact hSx.then_ hf7 |exact hSx
      clear hK K
      try simp only [Act.put,q5,q6,q7]
      refine R2 12 (by kernel_rfl) (by rfl) hT12 fun K hK hSx=> ?_
      (go_simp;refine (KC.out _).mono ?_;rintro e w5 ⟨rfl,rfl⟩;dsimp only)
      refine hK.out _ _ (.inr ?_) (fun hT13=> ?_)
      ·first |exact hSx.then_ hf7 |exact hSx
      clear hK K
      try simp only [Act.put,q5,q6,q7]
      apply TB 2 [(13,[]),(14,[14,17])];kernel_rfl;rfl;· (repeat (apply TBc;rfl;rfl;(· intro w hSw;(try (have hSw:=hSw.resolve_left (List.cons_ne_nil _ _);(have s4:=hSw.cellN HN3'.out HC4'.out;have s5:=hSw.cellN HN4'.out HSW'.out)));go_simp<;>with_reducible rfl);try simp only [Act.put,q5,q6,q7]));exact TBn
      exact hT13;intro hT13
      refine R2 15 (by kernel_rfl) (by rfl) hT13 fun K hK hSx=> ?_
      (refine step_append_ints rfl _ _ rfl (some ⟨g0,0,none⟩) c0 (casts keep) _ rfl (casts_len keep).symm ?hownxr17u16 A9 _ c9 (casts l9) (casts_len l9) rfl ?hrrxr17u16 (by rw [casts_len,casts_len];omega) ?_;(case hownxr17u16=>first |exact HKP.out.drew |exact HKP.out);(case hrrxr17u16=>first |exact HR9.out.drew |exact HR9.out);intro A' cap w7 hi7 hf7 hb7 hs7)
      refine hK.out _ _ (.inr ?_) (fun hT16=> ?_)
      ·first |exact hSx.then_ hf7 |exact hSx
      clear hK K
      try simp only [Act.put,q5,q6,q7]
      apply TB 1 [(16,[])];kernel_rfl;rfl;· (repeat (apply TBc;rfl;rfl;(· intro w hSw;go_simp<;>with_reducible rfl);try simp only [Act.put,q5,q6,q7]));exact TBn
      exact hT16;intro hT16
      refine R2 17 (by kernel_rfl) (by rfl) hT16 fun K hK hSx=> ?_
      (have sb:=hSx.cellN HN4'.out HSW'.out;have fb:World.frozen? _ _=_:=(World.frozen?_of_block (hSx.block gw (lt_of_cell HSW'.out) HN4'.out)).trans HFW'.out;go_simp)
      refine hK.out _ _ (.inl rfl) (fun hT18=> ?_)
      clear hK K
      try simp only [Act.put,q5,q6,q7]
      refine wpAnyC_done (by kernel_rfl) ?_ _
      refine NoPanic.normal ?_
      have hi8:Ints w7 A' cap (casts (keep++l9)):=by
       have :=hi7
       unfold casts at this⊢
       rw [List.map_append]
       exact this
      obtain ⟨gw2,hg2,_,L8,h8,ha8,hid8,hx8,hf8⟩:=H2.out.give (c:=cy) HCL3.out (A0:=(some ⟨g0,0,none⟩)) HN2.out hi8 hSx (fun k hk=>(hb7 k hk).imp id (fun e=>by rw [e];exact Nat.le_refl _))
      obtain rfl :gw=gw2:=by rw [HGW'.out] at hg2;simpa using hg2
      simp only [List.length_append] at h8 hf8
      obtain ⟨W8,hW8⟩:∃W,w7.setCell ⟨gw,cy,none⟩ (.slice A' (keep.length+l9.length) cap)=W:=⟨_,rfl⟩
      rw [hW8] at h8 hf8⊢
      have hE8:L.ext L8 w:=by
       refine ⟨ha8.trans HE2.out.1,hid8.trans HE2.out.2.1,fun k hk e=> ?_⟩
       rcases hx8 k (Nat.lt_of_lt_of_le hk HF2.out.size) (e.trans HE2.out.2.1.symm) with h1 |h1
       ·exact HE2.out.2.2 k hk (h1.trans HE2.out.2.1)
       ·rcases HG0.out k h1 with h2 |h2
        ·exact (SvL.mem_own.1 h2).2
        ·omega
      have hF8:Fr (L.own w) w W8:=HF2.out.trans hf8 (fun k hk=>by
       rcases List.mem_append.1 hk with h1 |h1
       ·exact HG0.out k h1
       ·rw [SvL.mem_own] at h1
        rcases Nat.lt_or_ge k w.heap.size with hl |hl
        ·exact .inl (SvL.mem_own.2 ⟨hl,HE2.out.2.2 k hl (h1.2.trans HE2.out.2.1)⟩)
        ·exact .inr hl)
      have hS8:S2.wset cy (keep++l9)=VR.1:=by rw [←HV9.out]
      rw [hS8] at h8
      have hhv:=HVIS.out.2.2.1
      have hh9:VR.1.head=S1.head:=hhv
      have hvv:VR.1.vars=S1.vars:=HVIS.out.2.1
      have hlt8:S1.T.lits.length≤VR.1.T.lits.length:=by
       have :=Sv.visits_lits off l0 [] (S1.wset cy [])
       rw [HV0.out] at this
       exact this
      have c8:=h8.cells.2.2.2.2.2.2.2.2.1
      have f8:=h8.obj.frozen 8
      rw [hh9] at c8
      rw [ha8.trans HE2.out.1] at c8 f8
      obtain ⟨h9,hf9⟩:=h8.sethead (S1.head+1)
      rw [ha8.trans HE2.out.1] at h9 hf9
      have H9:=Lib.hid h9
      have HF9:=Lib.hid (SvL.own_then hE8 hF8 hf9)
      have HE9:=Lib.hid hE8
      have HO9:Hid (({ VR.1 with head:=S1.head+1 }:Sv).Ok 0):=(by
       have o:=HVIS.out.1
       exact ⟨o.vl,o.tr,o.hi,o.hl,o.ph,o.wl,o.ll,o.wb,o.wt,o.lr,o.ln,o.lb,by show S1.head+1≤VR.1.T.lits.length;omega,o.rs⟩:({ VR.1 with head:=S1.head+1 }:Sv).Ok 0)
      have HVV8:=Lib.hid hvv
      have hhb:S1.head≤262143:=by omega
      clear hW8 h8 hf8 hE8 hF8 hS8 hhv hh9 hvv hlt8 h9 hf9 hi7 hf7 hb7 hs7 hi8 hx8 ha8 hid8 hSx
      go_wp2_with fail
      go_roundg f
      case measure=>omega
      case rel=>exact ⟨{ VR.1 with head:=S1.head+1 },L8,HRN.out,(by show VR.1.vars+1≤f+(S1.head+1);have :=HFU.out;have :=HVV8.out;omega),HO9.out,H9.out,HE9.out,HF9.out⟩

  ·have hd:decide ((S1.head:Int)<(S1.T.lits.length:Int))=false:=decide_eq_false (by omega)
   have HRZ:Hid (RES=(S1,none)):=by
    have h1:=HR1.out
    rw [followF_stop hlt] at h1
    exact h1.symm
   go_wp2_with fail
   refine wp_region_ext (by kernel_rfl) (by kernel_rfl) ?_
   repeat (go_big_quiet_step (exact call_same (KL.out _)))
   refine wpQuiet_nil ?_
   rintro w2 ⟨u2,hu2⟩
   have HF_w2:Hid (Fr [] wr w2):=hu2▸u2.fr
   clear hu2 u2
   have FF:=Lib.hid (FIN.out S1 none HRZ.out w2 L1 (H1.out.keep HF_w2.out) HE1.out (HF1.out.then_ (HF_w2.out.mono (fun k hk=>by cases hk))))
   clear e0 e8 c0 c8 KL hd
   go_wp2_with fail
   go_ret
   exact FF.out
theorem PC.len {V:Hp} (h:PC V):V.items.length≤V.at_.length:=by
 have hn:(V.items.map Int.toNat).Nodup:=by
  unfold List.Nodup
  rw [List.pairwise_map,List.pairwise_iff_getElem]
  intro i j hi hj hij e
  have ri:=h.rng i hi
  have rj:=h.rng j hj
  have gi:V.items[i]! =V.items[i]:=by simp [List.getElem!_eq_getElem?_getD,List.getElem?_eq_getElem hi]
  have gj:V.items[j]! =V.items[j]:=by simp [List.getElem!_eq_getElem?_getD,List.getElem?_eq_getElem hj]
  have :=h.inj hi hj (by rw [gi,gj];rw [gi] at ri;rw [gj] at rj;omega)
  omega
 have :=nodup_lt_len V.at_.length _ hn (fun x hx=>by
  rw [List.mem_map] at hx
  obtain ⟨y,hy,rfl⟩:=hx
  obtain ⟨i,hi,e⟩:=List.getElem_of_mem hy
  have ri:=h.rng i hi
  have gi:V.items[i]! =V.items[i]:=by simp [List.getElem!_eq_getElem?_getD,List.getElem?_eq_getElem hi]
  rw [gi,e] at ri
  omega)
 simpa using this
theorem HpL.ext_refl (L:HpL) (w:World):L.ext L w:=⟨rfl,fun _ h=> .inl h,fun h=>h⟩
theorem heap_pushC (w:World) (L:HpL) (H:Hp) (h:HpAt w L H) (hi:HI H) (hl:H.at_.length≤262145) (x:Int):
  Calls Tryz.prog 119 #[.pointer (some ⟨L.a,0,none⟩), .int .i64 x] w fun e w'=>∃b,e= .returned (.bool b)∧∃L',HpAt w' L' (Sv.pushC H x)∧L.ext L' w∧Fr L.fp w w':=by
 unfold Sv.pushC
 have hll:=hi.pc.len
 by_cases hb:H.isB x=true∧H.pl x<0
 ·rw [if_pos hb]
  refine (heap_push_yes w L H h hi.pc.rng x hb.1 hb.2 (by omega)).mono ?_
  rintro e w' ⟨rfl,L',h1,h2,h3⟩
  exact ⟨_,rfl,L',h1,h2,h3⟩
 ·rw [if_neg hb]
  refine (heap_push_no w L H h x ?_).mono ?_
  ·cases hc:H.isB x with
   |false=>exact .inl rfl
   |true=>exact .inr ⟨rfl,Int.not_lt.1 fun h=>hb ⟨hc,h⟩⟩
  rintro e w' ⟨rfl,rfl⟩
  exact ⟨_,rfl,L,h,HpL.ext_refl _ _,Fr.refl _ _⟩
theorem heap_raiseC (w:World) (L:HpL) (H:Hp) (h:HpAt w L H) (hi:HI H) (x b:Int):
  Calls Tryz.prog 215 #[.pointer (some ⟨L.a,0,none⟩), .int .i64 x, .int .i64 b] w fun e w'=>e= .returned (.tuple #[])∧HpAt w' L (Sv.raiseC H x b)∧Fr L.fp w w':=by
 unfold Sv.raiseC
 by_cases hb:H.isB x=true∧0≤b∧b≤1099511627776∧H.sc x≤1125899906842624-b
 ·rw [if_pos hb]
  obtain ⟨h1,h2,h3,h4⟩:=hb
  have hx:=Hp.isB_true h1
  have hs:=hi.sc0 x.toNat (by rw [←hi.same];omega)
  have hpl:H.pl x<H.items.length:=by
   unfold Hp.pl
   by_cases h0:0≤H.at_[x.toNat]!
   ·have :=(hi.pc.inv x.toNat (by omega) h0).1
    omega
   ·omega
  exact heap_raise_yes w L H h hi.pc.rng x b h1 h2 h3 h4 hs hpl
 ·rw [if_neg hb]
  refine (heap_raise_no w L H h x b hb).mono ?_
  rintro e w' ⟨rfl,rfl⟩
  exact ⟨rfl,h,Fr.refl _ _⟩
theorem HI.pushC {H:Hp} (h:HI H) (x:Int):HI (Sv.pushC H x)∧(Sv.pushC H x).at_.length=H.at_.length:=by
 unfold Sv.pushC
 split
 ·rename_i hb
  have :=h.push hb.1 hb.2
  exact ⟨this.1,this.2.2.2.1⟩
 ·exact ⟨h,rfl⟩
theorem SvAt.phset {w:World} {L:SvL} {S:Sv} (h:SvAt w L S) {v:Nat} (hv:v<S.phase.length) (b:Bool):
  ∃gp,L.pA=some ⟨gp,0,none⟩∧w.cell? ⟨gp,v,none⟩=some (.bool S.phase[v]!)∧w.frozen? ⟨gp,v,none⟩=false∧SvAt (w.setCell ⟨gp,v,none⟩ (.bool b)) L { S with phase:=S.phase.set v b }∧Fr (L.own w) w (w.setCell ⟨gp,v,none⟩ (.bool b)):=by
 have r:=h.rph
 unfold Bools at r
 obtain ⟨gp,hg,hgl⟩:∃gp,L.pA=some ⟨gp,0,none⟩∧gp<w.heap.size:=by
  rcases r.2 with ⟨_,h2⟩ |⟨g,cap,cur,hv,_,hg,_⟩
  ·omega
  ·simp only [Value.slice.injEq,true_and] at hv
   exact ⟨g,hv.1,At.lt (t:=4) hg⟩
 rw [hg] at r
 have hlab:L.lab gp=(L.id,5,0):=h.t5 gp (by rw [hg];simp [blks])
 have hf:Fr [gp] w (w.setCell ⟨gp,v,none⟩ (.bool b)):=(Fr.refl _ w).setCell (.inl (by simp)) _
 have o:=h.off (P:=(· =(5,0))) hf (fun k hk hl=>⟨_,rfl,by simp at hk;subst hk;exact hlab⟩)
 have hst:=(World.ownsRow.stored r v (.bool b)).1
 refine ⟨gp,hg,?_,World.ownsRow.frozenAt r v,⟨?_,o.tr (by decide),o.hp (by decide),h.hmade,h.ecs,h.ews,o.rcs (by decide),o.rws (by decide),?_,o.rmo (by decide),o.rco (by decide),fun n hn=>o.ech n hn (by simp),fun n hn=>o.ewh n hn (by simp),
  h.t0,h.t1,h.t2,h.t3,h.t4,h.t5,h.t6,h.t7,h.t8,h.t9⟩,SvL.part_fr hf (fun k hk hl=>by simp at hk;subst hk;rw [hlab])⟩
 ·rw [World.ownsRow.cellAt r v (by omega)]
  simp only [List.getElem?_map,List.getElem?_eq_getElem hv,Option.map_some,List.getElem!_eq_getElem?_getD,Option.getD_some]
 ·have :=o.obj (by decide)
  simp only [scs,List.length_set] at this⊢
  exact this
 ·unfold Bools
  simp only [List.length_set,List.map_set]
  rw [hg]
  exact hst
theorem SvAt.phcell {w:World} {L:SvL} {S:Sv} (h:SvAt w L S) {v:Nat} (hv:v<S.phase.length):
  ∃gp,L.pA=some ⟨gp,0,none⟩∧w.cell? ⟨gp,v,none⟩=some (.bool S.phase[v]!)∧w.frozen? ⟨gp,v,none⟩=false:=by
 obtain ⟨gp,h1,h2,h3,_⟩:=h.phset hv false
 exact ⟨gp,h1,h2,h3⟩
namespace Sv
def back1 (S:Sv) (l:Int):Sv:={ S with phase:=S.phase.set (tv l).toNat (decide (0<l)),H:=pushC S.H (tv l) }
theorem backL_go {S:Sv} {level l:Int} {r:List Int} (h:¬S.T.levB (tv l)≤level):backL level (l::r) S=backL level r (S.back1 l):=by
 simp only [backL]
 rw [if_neg h]
 rfl
theorem backL_stop {S:Sv} {level l:Int} {r:List Int} (h:S.T.levB (tv l)≤level):backL level (l::r) S=S:=by
 simp only [backL]
 rw [if_pos h]
theorem Ok.back1 {S:Sv} {m:Nat} (ok:S.Ok m) (l:Int):(S.back1 l).Ok m:=by
 obtain ⟨h1,h2⟩:=ok.hi.pushC (tv l)
 exact ⟨ok.vl,ok.tr,h1,by show (Sv.pushC S.H (tv l)).at_.length=_;rw [h2];exact ok.hl,by show (S.phase.set _ _).length=_;rw [List.length_set];exact ok.ph,ok.wl,ok.ll,ok.wb,ok.wt,ok.lr,ok.ln,ok.lb,ok.hd,ok.rs⟩
theorem Ok.cut {S:Sv} {m:Nat} (ok:S.Ok m) (level:Nat) (hl:level<S.T.levels.length):
  ({ S with T:=S.T.backF level,head:=min S.head (S.T.backF level).lits.length }:Sv).Ok m∧(S.T.backF level).levels.length=level:=by
 obtain ⟨R,hR⟩:=ok.tr
 have hb:=hR.back level hl
 have hd:=hb.dep
 have hb2:TRep (S.T.backF level) S.vars (R.filter (fun e:St=>decide (e.l≤(level:Int)))) (S.T.backF level).levels.length:=by
  rw [hd]
  exact hb
 refine ⟨⟨ok.vl,⟨_,hb2⟩,ok.hi,ok.hl,ok.ph,ok.wl,ok.ll,ok.wb,ok.wt,ok.lr,ok.ln,ok.lb,Nat.min_le_right _ _,fun v=> ?_⟩,hd⟩
 have e:=hb.reaB v
 have e0:=hR.reaB v
 have hok:=ok.rs v
 show 0≤(S.T.backF level).reaB v∧(S.T.backF level).reaB v≤_
 rw [e]
 cases hk:look (R.filter (fun e:St=>decide (e.l≤(level:Int)))) v with
 |none=>simp
 |some x=>
  obtain ⟨hm,hv⟩:=look_some hk
  have hx:=look_mem hR.nd (List.mem_filter.1 hm).1
  rw [hv] at hx
  rw [hx] at e0
  simp only at e0⊢
  rw [←e0]
  exact hok
theorem backL_same (level:Int):∀(r:List Int) (S:Sv) (m:Nat),S.Ok m→(backL level r S).Ok m∧(backL level r S).T=S.T∧(backL level r S).head=S.head∧(backL level r S).vars=S.vars∧(backL level r S).list=S.list
 |[],S,m,ok=>⟨ok,rfl,rfl,rfl,rfl⟩
 |l::r,S,m,ok=>by
  by_cases h:S.T.levB (tv l)≤level
  ·rw [backL_stop h]
   exact ⟨ok,rfl,rfl,rfl,rfl⟩
  ·rw [backL_go h]
   exact backL_same level r _ m (ok.back1 l)
theorem Ok.back {S:Sv} {m:Nat} (ok:S.Ok m) (level:Nat):(S.back level).Ok m∧(S.back level).vars=S.vars∧(S.back level).list=S.list:=by
 unfold Sv.back
 split
 ·exact ⟨ok,rfl,rfl⟩
 ·rename_i h
  obtain ⟨h1,h2,h3,h4,h5⟩:=backL_same (level:Int) S.T.lits.reverse S m ok
  have :=(h1.cut level (by rw [h2];omega)).1
  exact ⟨this,h4,h5⟩
end Sv
theorem max_tv {x:Int} (h: -9223372036854775808<x):(if x< -x then -x else x)=tv x:=by
 by_cases h0:x<0
 ·rw [if_pos (by omega),tv_neg h0 h]
 ·rw [if_neg (by omega),tv_nat (by omega)]
theorem rev_take {l:List Int} {n:Nat} (h:n<l.length):(l.take (n+1)).reverse=l[n]! ::(l.take n).reverse:=by
 rw [List.take_add_one,List.reverse_append]
 simp only [List.getElem!_eq_getElem?_getD,List.getElem?_eq_getElem h,Option.toList_some,List.reverse_cons,List.reverse_nil,List.nil_append,List.cons_append,Option.getD_some]
theorem Sv.Ok.set_lit {S:Sv} {m:Nat} (ok:S.Ok m) {i:Nat} (h:i<S.T.lits.length):1≤tv S.T.lits[i]! ∧tv S.T.lits[i]! ≤S.vars∧ -(S.vars:Int)≤S.T.lits[i]! ∧S.T.lits[i]! ≤S.vars∧S.T.lits[i]! ≠0:=by
 obtain ⟨R,hR⟩:=ok.tr
 have hm:S.T.lits[i]! ∈S.T.lits:=get_mem h
 generalize S.T.lits[i]! =x at hm⊢
 rw [hR.lits,List.mem_map] at hm
 obtain ⟨e,he,rfl⟩:=hm
 have hb:=hR.bound e he
 have hv:=ok.vl
 refine ⟨hb.2.2.1,hb.2.2.2,?_⟩
 have h3:=hb.2.2.1
 have h4:=hb.2.2.2
 unfold tv at h3 h4
 split at h3
 ·omega
 ·split at h3
  ·rename_i h5 h6
   rw [if_neg h5,if_pos h6] at h4
   omega
  ·rename_i h5 h6
   rw [if_neg h5,if_neg h6] at h4
   omega
theorem Sv.Ok.tinv {S:Sv} {m:Nat} (ok:S.Ok m):S.T.Inv:=by
 obtain ⟨R,hR⟩:=ok.tr
 exact hR.inv
theorem Sv.Ok.len_le {S:Sv} {m:Nat} (ok:S.Ok m):S.T.lits.length≤S.vars:=by
 obtain ⟨R,hR⟩:=ok.tr
 have :=hR.len_le
 rw [hR.lits,List.length_map]
 exact this
theorem atB_nat {T:Tr} {i:Nat} (h:i<T.lits.length):T.atB (i:Int)=T.lits[i]! :=by
 unfold Tr.atB
 rw [if_pos (by omega),Int.toNat_natCast]
theorem ext_wid {L L':SvL} {w w':World} (h:L.ext L' w') (hs:w.heap.size≤w'.heap.size):L.ext L' w:=⟨h.1,h.2.1,fun k hk e=>h.2.2 k (Nat.lt_of_lt_of_le hk hs) e⟩
theorem back_calls (w:World) (L:SvL) (S:Sv) (h:SvAt w L S) (m:Nat) (ok:S.Ok m) (level:Nat) (hlv:level<4611686018427387904):
  Calls Tryz.prog 115 #[.pointer (some ⟨L.a,0,none⟩), .int .i64 level] w (SvP (.tuple #[]) (S.back level) L w):=by
 have HH:=Lib.hid h
 have HOK:=Lib.hid ok
 have hvl:=ok.vl
 have hln:=ok.len_le
 obtain ⟨c0,-⟩:=h.cells
 have e0:=Ext.cell c0
 have KD:=Lib.hid (trail_depth w L.tL S.T h.tr)
 have KL:=Lib.hid (trail_len w L.tL S.T h.tr)
 by_cases hs:S.T.levels.length≤level
 ·have hb:S.back level=S:=by unfold Sv.back;rw [if_pos hs]
  rw [hb]
  have FIN:Hid (SvP (.tuple #[]) S L w (.returned (.tuple #[])) w):=⟨rfl,L,h,SvL.ext_refl _ _,Fr.refl _ _⟩
  have hd:decide ((S.T.levels.length:Int)≤(level:Int))=true:=decide_eq_true (by omega)
  clear h ok hb
  go_enter Tryz.func115,Tryz.ntmps115
  go_wp2_with fail
  refine KD.out.mono ?_
  rintro e w1 ⟨rfl,rfl⟩
  go_wp2_with fail
  refine bodyPost_ret (results_none rfl _ _ _) rfl ?_
  exact FIN.out
 ·have hd:decide ((S.T.levels.length:Int)≤(level:Int))=false:=decide_eq_false (by omega)
  obtain ⟨Q,hQ⟩:∃Q,Sv.backL (level:Int) S.T.lits.reverse S=Q:=⟨_,rfl⟩
  have hb:S.back level={ Q with T:=Q.T.backF level,head:=min Q.head (Q.T.backF level).lits.length }:=by unfold Sv.back;rw [if_neg hs,hQ]
  have hQs:=Sv.backL_same (level:Int) S.T.lits.reverse S m ok
  rw [hQ] at hQs
  obtain ⟨B,hB⟩:∃B,S.back level=B:=⟨_,rfl⟩
  rw [hB] at hb⊢
  have HB:=Lib.hid hb
  have HQ:=Lib.hid hQ
  have HQS:=Lib.hid hQs
  have HT0:Hid (S.T.lits.take S.T.lits.length=S.T.lits):=List.take_length
  have HLV:=Lib.hid (Nat.lt_of_not_le hs)
  clear h ok hb hQ hB hQs e0
  go_enter Tryz.func115,Tryz.ntmps115
  go_wp2_with fail
  refine KD.out.mono ?_
  rintro e w1 ⟨rfl,rfl⟩
  go_wp2_with fail
  refine KL.out.mono ?_
  rintro e w1 ⟨rfl,rfl⟩
  clear KD KL
  go_wp2_with fail
  clear c0
  go_loopg [4] S.T.lits.length (fun g x4 wr=>∃(S1:Sv) (L1:SvL),g≤S.T.lits.length∧x4= .int .i64 ((g:Int)-1)∧Hid (Sv.backL (level:Int) (S.T.lits.take g).reverse S1=Q)∧Hid (S1.T=S.T∧S1.vars=S.vars∧S1.head=S.head)∧Hid (S1.Ok m)∧Hid (SvAt wr L1 S1)∧Hid (L.ext L1 w)∧Hid (Fr (L.own w) w wr))
  case atStart=>exact ⟨S,L,Nat.le_refl _,by go_num,by rw [HT0.out];exact HQ.out,⟨rfl,rfl,rfl⟩,HOK.out,HH.out,SvL.ext_refl _ _,Fr.refl _ _⟩
  case round=>
   obtain ⟨S1,L1,hg,rfl,HB1,HSM,HO1,H1,HE1,HF1⟩:=hrel
   have hea:L1.a=L.a:=HE1.out.1
   obtain ⟨c0,c1,-,-,-,c5,-,-,c8,-⟩:=H1.out.cells
   rw [hea] at c0 c1 c5 c8
   have HC0:=Lib.hid c0
   have HC1:=Lib.hid c1
   have HC5:=Lib.hid c5
   have HC8:=Lib.hid c8
   have HEA:=Lib.hid hea
   clear hea
   by_cases hg0:gk=0
   ·subst hg0
    have HQ1:Hid (S1=Q):=HB1.out
    have hdl:decide ((0:Int)≤(((0:Nat):Int)-1))=false:=by decide
    clear c0 c1 c5 c8

    have KB:=trail_back wr L1.tL S1.T H1.out.tr HO1.out.tinv (level:Int)
    rw [Int.toNat_natCast,HSM.out.1] at KB
    have KB:=Lib.hid KB
    have c0:=HC0.out
    go_wp2_with fail
    refine KB.out.mono ?_
    clear KB
    rintro e w2 ⟨rfl,ht2,hf2⟩
    obtain ⟨L2,g2,ge2,gf2⟩:=H1.out.trail ht2 (TrL.ext_refl _ _) hf2
    have hta:S1.T.backF level=Q.T.backF level:=by rw [HQ1.out]
    rw [HSM.out.1.symm.trans (by rw [HSM.out.1]) ] at g2
    have G2:Hid (SvAt w2 L2 { Q with T:=Q.T.backF level }):=by
     have e1:S.T=Q.T:=by rw [←HQ1.out,HSM.out.1]
     rw [←e1,←HQ1.out]
     exact g2
    have HE2:=Lib.hid (SvL.ext_trans HE1.out ge2 HF1.out.size)
    have HF2:=Lib.hid (SvL.own_then HE1.out HF1.out gf2)
    have HEA2:Hid (L2.a=L.a):=HE2.out.1
    have hcs:=G2.out.cells
    rw [HEA2.out] at hcs
    obtain ⟨d0,-,-,-,-,-,-,-,d8,-⟩:=hcs
    have HD0:=Lib.hid d0
    have HD8:=Lib.hid d8
    have hfz:=G2.out.obj.frozen 8
    rw [HEA2.out] at hfz
    have HFZ:=Lib.hid hfz
    have KL:=Lib.hid (fun W (hW:Fr [] w2 W)=>trail_len W L2.tL (Q.T.backF level) (G2.out.tr.fr hW (by simp)))
    have hmin:(if (Q.T.backF level).lits.length<Q.head then ((Q.T.backF level).lits.length:Int) else (Q.head:Int))=((min Q.head (Q.T.backF level).lits.length:Nat):Int):=by
     rw [Nat.min_def]
     split<;>split<;>omega
    clear c0 ht2 hf2 g2 ge2 gf2 hta d0 d8 hfz
    go_upto_region 10 with fail
    refine wp_region_noPanic ?_
    refine wp_region_C (fun w':World=>Fr [] w2 w') 13 (by kernel_rfl) ((Fr.refl [] w2).drew) (fun hT0=> ?_)
    apply TB 9 [(0,[]),(1,[]),(2,[]),(3,[]),(4,[4,13]),(5,[]),(6,[]),(7,[]),(8,[8,13])];kernel_rfl;rfl;· (repeat (apply TBc;rfl;rfl;(· intro w hSw;(try (have hSw:=hSw.resolve_left (List.cons_ne_nil _ _);(have s8:=hSw.cellS HD8.out;have s0:=hSw.cellS HD0.out)));go_simp<;>with_reducible rfl);try simp only [Act.put,q5,q6,q7]));exact TBn
    exact hT0;intro hT0
    refine R2 9 (by kernel_rfl) (by rfl) hT0 fun K hK hSx=> ?_
    (go_simp;refine (KL.out _ hSx).mono ?_;rintro e w5 ⟨rfl,rfl⟩;dsimp only)
    refine hK.out _ _ (.inr ?_) (fun hT10=> ?_)
    ·exact hSx
    clear hK K
    try simp only [Act.put,q5,q6,q7]
    apply TB 3 [(10,[]),(11,[]),(12,[])];kernel_rfl;rfl;· (repeat (apply TBc;rfl;rfl;(· intro w hSw;go_simp<;>with_reducible rfl);try simp only [Act.put,q5,q6,q7]));exact TBn
    exact hT10;intro hT10
    refine R2 13 (by kernel_rfl) (by rfl) hT10 fun K hK hSx=> ?_
    (have sb:=hSx.cellS HD8.out;have fb:World.frozen? _ _=_:=(World.frozen?_of_block (hSx.block L.a (lt_of_cell HD8.out) (by simp))).trans HFZ.out;go_simp)
    refine hK.out _ _ (.inl rfl) (fun hT14=> ?_)
    clear hK K
    try simp only [Act.put,q5,q6,q7]
    refine wpAnyC_done (by kernel_rfl) ?_ _
    refine NoPanic.normal ?_
    have g5:=G2.out.sethead (min Q.head (Q.T.backF level).lits.length)
    rw [HEA2.out] at g5
    try simp only [hmin]
    have h6:=g5.1.keep (Fr.refl [] _).drew
    have f6:=g5.2.drew
    have hF:Fr (L.own w) w _:=SvL.own_then HE2.out HF2.out f6
    have FF:Hid (SvP (.tuple #[]) B L w (.returned (.tuple #[])) _):=⟨rfl,L2,by rw [HB.out];exact h6,HE2.out,hF⟩
    go_wp2_with fail
    go_end0
    exact FF.out
   ·obtain ⟨i,rfl⟩:∃i,gk=i+1:=⟨gk-1,by omega⟩
    have hil:i<S.T.lits.length:=by omega
    have hei:((i+1:Nat):Int)-1=(i:Int):=by omega
    rw [hei]
    have hdl:decide ((0:Int)≤(i:Int))=true:=decide_eq_true (by omega)
    obtain ⟨x,hx⟩:∃x,S.T.lits[i]! =x:=⟨_,rfl⟩
    have hb1:=HB1.out
    rw [rev_take hil,hx] at hb1
    have HBX:=Lib.hid hb1
    have hxr:=HOK.out.set_lit hil
    rw [hx] at hxr
    obtain ⟨hx1,hx2,hx3,hx4,hx5⟩:=hxr
    have KA:=Lib.hid (trail_at wr L1.tL S1.T H1.out.tr (i:Int))
    rw [HSM.out.1,atB_nat hil,hx] at KA
    have KV:=Lib.hid (trail_level wr L1.tL S1.T H1.out.tr (tv x))
    obtain ⟨lv,hlv1⟩:∃lv,S1.T.levB (tv x)=lv:=⟨_,rfl⟩
    rw [hlv1] at KV
    have HLX:=Lib.hid hlv1
    have hmx:=max_tv (x:=x) (by omega)
    obtain ⟨v,hv⟩:∃v:Nat,tv x=v:=⟨(tv x).toNat,by omega⟩
    rw [hv] at hx1 hx2 KV hmx
    have HV:=Lib.hid hv
    have hw1:IntKind.i64.wrap (-x)= -x:=IntWalk.i64_in _ (by omega)
    clear hb1 hx hlv1 hv HB1
    go_wp2_with fail
    refine KA.out.mono ?_
    rintro e w1 ⟨rfl,rfl⟩
    clear KA
    by_cases hle:lv≤(level:Int)
    ·have hd2:decide (lv≤(level:Int))=true:=decide_eq_true hle
     have HQ1:Hid (S1=Q):=by
      have :=HBX.out
      rw [Sv.backL_stop (by rw [HLX.out];exact hle)] at this
      exact this
     go_wp2_with fail
     refine KV.out.mono ?_
     rintro e w1 ⟨rfl,rfl⟩
     clear KV
     clear c0 c1 c5 c8
     have KB:=trail_back wr L1.tL S1.T H1.out.tr HO1.out.tinv (level:Int)
     rw [Int.toNat_natCast,HSM.out.1] at KB
     have KB:=Lib.hid KB
     have c0:=HC0.out
     go_wp2_with fail
     refine KB.out.mono ?_
     clear KB
     rintro e w2 ⟨rfl,ht2,hf2⟩
     obtain ⟨L2,g2,ge2,gf2⟩:=H1.out.trail ht2 (TrL.ext_refl _ _) hf2
     have hta:S1.T.backF level=Q.T.backF level:=by rw [HQ1.out]
     rw [HSM.out.1.symm.trans (by rw [HSM.out.1]) ] at g2
     have G2:Hid (SvAt w2 L2 { Q with T:=Q.T.backF level }):=by
      have e1:S.T=Q.T:=by rw [←HQ1.out,HSM.out.1]
      rw [←e1,←HQ1.out]
      exact g2
     have HE2:=Lib.hid (SvL.ext_trans HE1.out ge2 HF1.out.size)
     have HF2:=Lib.hid (SvL.own_then HE1.out HF1.out gf2)
     have HEA2:Hid (L2.a=L.a):=HE2.out.1
     have hcs:=G2.out.cells
     rw [HEA2.out] at hcs
     obtain ⟨d0,-,-,-,-,-,-,-,d8,-⟩:=hcs
     have HD0:=Lib.hid d0
     have HD8:=Lib.hid d8
     have hfz:=G2.out.obj.frozen 8
     rw [HEA2.out] at hfz
     have HFZ:=Lib.hid hfz
     have KL:=Lib.hid (fun W (hW:Fr [] w2 W)=>trail_len W L2.tL (Q.T.backF level) (G2.out.tr.fr hW (by simp)))
     have hmin:(if (Q.T.backF level).lits.length<Q.head then ((Q.T.backF level).lits.length:Int) else (Q.head:Int))=((min Q.head (Q.T.backF level).lits.length:Nat):Int):=by
      rw [Nat.min_def]
      split<;>split<;>omega
     clear c0 ht2 hf2 g2 ge2 gf2 hta d0 d8 hfz
     go_upto_region 10 with fail
     refine wp_region_noPanic ?_
     refine wp_region_C (fun w':World=>Fr [] w2 w') 13 (by kernel_rfl) ((Fr.refl [] w2).drew) (fun hT0=> ?_)
     apply TB 9 [(0,[]),(1,[]),(2,[]),(3,[]),(4,[4,13]),(5,[]),(6,[]),(7,[]),(8,[8,13])];kernel_rfl;rfl;· (repeat (apply TBc;rfl;rfl;(· intro w hSw;(try (have hSw:=hSw.resolve_left (List.cons_ne_nil _ _);(have s8:=hSw.cellS HD8.out;have s0:=hSw.cellS HD0.out)));go_simp<;>with_reducible rfl);try simp only [Act.put,q5,q6,q7]));exact TBn
     exact hT0;intro hT0
     refine R2 9 (by kernel_rfl) (by rfl) hT0 fun K hK hSx=> ?_
     (go_simp;refine (KL.out _ hSx).mono ?_;rintro e w5 ⟨rfl,rfl⟩;dsimp only)
     refine hK.out _ _ (.inr ?_) (fun hT10=> ?_)
     ·exact hSx
     clear hK K
     try simp only [Act.put,q5,q6,q7]
     apply TB 3 [(10,[]),(11,[]),(12,[])];kernel_rfl;rfl;· (repeat (apply TBc;rfl;rfl;(· intro w hSw;go_simp<;>with_reducible rfl);try simp only [Act.put,q5,q6,q7]));exact TBn
     exact hT10;intro hT10
     refine R2 13 (by kernel_rfl) (by rfl) hT10 fun K hK hSx=> ?_
     (have sb:=hSx.cellS HD8.out;have fb:World.frozen? _ _=_:=(World.frozen?_of_block (hSx.block L.a (lt_of_cell HD8.out) (by simp))).trans HFZ.out;go_simp)
     refine hK.out _ _ (.inl rfl) (fun hT14=> ?_)
     clear hK K
     try simp only [Act.put,q5,q6,q7]
     refine wpAnyC_done (by kernel_rfl) ?_ _
     refine NoPanic.normal ?_
     have g5:=G2.out.sethead (min Q.head (Q.T.backF level).lits.length)
     rw [HEA2.out] at g5
     try simp only [hmin]
     have h6:=g5.1.keep (Fr.refl [] _).drew
     have f6:=g5.2.drew
     have hF:Fr (L.own w) w _:=SvL.own_then HE2.out HF2.out f6
     have FF:Hid (SvP (.tuple #[]) B L w (.returned (.tuple #[])) _):=⟨rfl,L2,by rw [HB.out];exact h6,HE2.out,hF⟩
     go_wp2_with fail
     go_end0
     exact FF.out
    ·have hd2:decide (lv≤(level:Int))=false:=decide_eq_false hle
     have HB2:Hid (Sv.backL (level:Int) (S.T.lits.take i).reverse (S1.back1 x)=Q):=by
      have :=HBX.out
      rw [Sv.backL_go (by rw [HLX.out];exact hle)] at this
      exact this
     have hvp:v<S1.phase.length:=by
      rw [HO1.out.ph,HSM.out.2.1]
      omega
     obtain ⟨gp,hgp,sp,fp,h2,hf2⟩:=H1.out.phset hvp (decide (0<x))
     have c1':=h2.cells.2.1
     rw [HEA.out] at c1'
     have c0':=h2.cells.1
     rw [HEA.out] at c0'
     rw [hgp] at c5
     have hvl2:(v:Int)<(S1.phase.length:Int):=by omega
     go_wp2_with fail
     refine KV.out.mono ?_
     rintro e w1 ⟨rfl,rfl⟩
     clear KV
     go_upto_region 8 with fail
     obtain ⟨W2,hW2⟩:∃W,wr.setCell ⟨gp,v,none⟩ (.bool (decide (0<x)))=W:=⟨_,rfl⟩
     rw [hW2] at h2 hf2 c0' c1'⊢
     have hhl:S1.H.at_.length≤262145:=by rw [HO1.out.hl,HSM.out.2.1];omega
     have KP:=Lib.hid (heap_pushC W2 L1.hL S1.H h2.hp HO1.out.hi hhl (v:Int))
     have H2:=Lib.hid h2
     have HF2:=Lib.hid hf2
     clear c0 c1 c5 c8 sp fp hW2 h2 hf2 hgp hd2 hmx hw1 c0'
     go_wp2_with fail
     refine KP.out.mono ?_
     clear KP
     rintro e w3 ⟨b,rfl,hL3,h3,he3,hf3⟩
     obtain ⟨L3,g3,ge3,gf3⟩:=H2.out.heap h3 he3 hf3
     have G3:Hid (SvAt w3 L3 (S1.back1 x)):=by
      unfold Sv.back1
      rw [HV.out,Int.toNat_natCast]
      exact g3
     have HF3:Hid (Fr (L1.own wr) wr w3):=HF2.out.trans gf3 (fun k hk=>by
      rw [SvL.mem_own] at hk
      rcases Nat.lt_or_ge k wr.heap.size with hl |hl
      ·exact .inl (SvL.mem_own.2 ⟨hl,hk.2⟩)
      ·exact .inr hl)
     have GE3:=Lib.hid (ext_wid ge3 HF2.out.size)
     clear g3 h3 he3 hf3 ge3 gf3 c1'
     go_wp2_with fail
     go_roundg i
     case measure=>omega
     case rel=>exact ⟨S1.back1 x,L3,by omega,by go_num,HB2.out,⟨HSM.out.1,HSM.out.2.1,HSM.out.2.2⟩,HO1.out.back1 x,G3.out,SvL.ext_trans HE1.out GE3.out HF1.out.size,SvL.own_then HE1.out HF1.out HF3.out⟩
theorem made_ints (W:World) (n:Nat) (h:n≤maxLen):Ints (W.alloc (.cells (madeCells #[.int .i64 0] n) 3)) (some ⟨W.heap.size,0,none⟩) n (List.replicate n 0):=by
 have :=World.ownsRow_lit (base:=0) (e:=3) (size:=1) W (madeCells #[.int .i64 0] n) n (Nat.zero_le _) h (by rw [size_madeCells];omega)
 rw [toList_madeCells_one] at this
 unfold Ints
 rw [List.length_replicate,List.map_replicate]
 exact this
theorem infoBool:(Tryz.prog.info? 4).map (fun i=>(i.zero,i.size,i.bytes))=some (some (.bool false),1,1):=by kernel_rfl
theorem run_make_bool (W:World) (z:Int) (h0:0≤z) (h1:z≤1099511627776):
  (Instr.makeSlice 119 (.int .i64 z) (.int .i64 z)).run Tryz.prog W= .ok (.slice (some ⟨W.heap.size,0,none⟩) z.toNat z.toNat) (W.alloc (.cells (madeCells #[.bool false] z.toNat) 4)):=by
 obtain ⟨i0,hi,hz0,hz1,hz2⟩:=info_parts infoBool
 obtain ⟨n,rfl⟩:=Int.eq_ofNat_of_zero_le h0
 have hr:=run_make (P:=Tryz.prog) W 119 4 i0 (.bool false) Tryz.underlying119 hi hz0 .i64 .i64 n n (by omega) (Int.le_refl _) (by rw [hz2];omega) (by omega)
 simp only [Int.toNat_natCast] at hr⊢
 rw [hz1,Nat.mul_one] at hr
 exact hr
theorem made_bools (W:World) (n:Nat) (h:n≤maxLen):Bools (W.alloc (.cells (madeCells #[.bool false] n) 4)) (some ⟨W.heap.size,0,none⟩) n (List.replicate n false):=by
 have :=World.ownsRow_lit (base:=0) (e:=4) (size:=1) W (madeCells #[.bool false] n) n (Nat.zero_le _) h (by rw [size_madeCells];omega)
 rw [toList_madeCells_one] at this
 unfold Bools
 rw [List.length_replicate,List.map_replicate]
 exact this
theorem SvAt.setc {w:World} {L:SvL} {S:Sv} (h:SvAt w L S) (i:Nat) (v:Value) (S':Sv) (he:(scs L S).setIfInBounds i v=scs L S')
  (hS:S'.T=S.T∧S'.H=S.H∧S'.list=S.list∧S'.watch=S.watch∧S'.phase=S.phase∧S'.model=S.model∧S'.core=S.core):
  SvAt (w.setCell ⟨L.a,i,none⟩ v) L S'∧Fr (L.own w) w (w.setCell ⟨L.a,i,none⟩ v):=by
 have hf:Fr [L.a] w (w.setCell ⟨L.a,i,none⟩ v):=(Fr.refl _ w).setCell (.inl (by simp)) _
 obtain ⟨h1,_,h3⟩:=h.top (L':=L) (S':=S') hf (by have :=h.obj.set_ i v;rw [he] at this;exact this) ⟨rfl,rfl,rfl,rfl,rfl,rfl,rfl,rfl,rfl,rfl,rfl,rfl,rfl,rfl,rfl,rfl,rfl⟩ hS
 exact ⟨h1,h3⟩
theorem SvAt.model {w w1:World} {L:SvL} {S:Sv} (h:SvAt w L S) {g n:Nat} {ms:List Bool} (hr:Bools w1 (some ⟨g,0,none⟩) n ms) (hg:w.heap.size≤g) (hf:Fr [] w w1):
  ∃L',SvAt (w1.setCell ⟨L.a,6,none⟩ (.slice (some ⟨g,0,none⟩) ms.length n)) L' { S with model:=ms }∧L.ext L' w∧Fr (L.own w) w (w1.setCell ⟨L.a,6,none⟩ (.slice (some ⟨g,0,none⟩) ms.length n))∧
   L'={ L with mA:=some ⟨g,0,none⟩,mC:=n,lab:=L.re w (6,0) }:=by
 have hf2:Fr [L.a] w (w1.setCell ⟨L.a,6,none⟩ (.slice (some ⟨g,0,none⟩) ms.length n)):=(hf.mono (fun k hk=>by cases hk)).setCell (.inl (by simp)) _
 have hF:∀k,k∈[L.a]→k<w.heap.size→L.lab k=(L.id,0,0):=fun k hk _=>by simp at hk;subst hk;exact h.t0
 have o:=h.off (P:=(· =(0,0))) hf2 (fun k hk hl=>⟨_,rfl,hF k hk hl⟩)
 have gt:=h.tags (6,0)
 have hne:L.a≠g:=by have :=h.obj.lt;omega
 refine ⟨{ L with mA:=some ⟨g,0,none⟩,mC:=n,lab:=L.re w (6,0) },⟨?_,o.tr (by decide),o.hp (by decide),h.hmade,h.ecs,h.ews,o.rcs (by decide),o.rws (by decide),o.rph (by decide),?_,o.rco (by decide),fun n hn=>o.ech n hn (by simp),fun n hn=>o.ewh n hn (by simp),
  gt.t0,gt.t1,gt.t2,gt.t3,gt.t4,gt.t5,fun k hk=> ?_,gt.t7,gt.t8,gt.t9⟩,⟨rfl,rfl,fun k hk e=>SvL.re_own hk e⟩,SvL.part_fr hf2 (fun k hk hl=>by rw [hF k hk hl]),rfl⟩
 ·have :=(hf.at_ h.obj (by simp)).set_ 6 (.slice (some ⟨g,0,none⟩) ms.length n)
  simpa [scs] using this
 ·have hf3:Fr [L.a] w1 (w1.setCell ⟨L.a,6,none⟩ (.slice (some ⟨g,0,none⟩) ms.length n)):=(Fr.refl _ w1).setCell (.inl (by simp)) _
  refine wild_fr hr hf3 (fun k hk hm=> ?_)
  simp [blks] at hk hm
  omega
 ·simp [blks] at hk
  subst hk
  exact SvL.re_new hg
theorem SvAt.moset {w:World} {L:SvL} {S:Sv} (h:SvAt w L S) {v:Nat} (hv:v<S.model.length) (b:Bool):
  ∃gp,L.mA=some ⟨gp,0,none⟩∧w.cell? ⟨gp,v,none⟩=some (.bool S.model[v]!)∧w.frozen? ⟨gp,v,none⟩=false∧SvAt (w.setCell ⟨gp,v,none⟩ (.bool b)) L { S with model:=S.model.set v b }∧Fr (L.own w) w (w.setCell ⟨gp,v,none⟩ (.bool b)):=by
 have r:=h.rmo
 unfold Bools at r
 obtain ⟨gp,hg,hgl⟩:∃gp,L.mA=some ⟨gp,0,none⟩∧gp<w.heap.size:=by
  rcases r.2 with ⟨_,h2⟩ |⟨g,cap,cur,hv,_,hg,_⟩
  ·omega
  ·simp only [Value.slice.injEq,true_and] at hv
   exact ⟨g,hv.1,At.lt (t:=4) hg⟩
 rw [hg] at r
 have hlab:L.lab gp=(L.id,6,0):=h.t6 gp (by rw [hg];simp [blks])
 have hf:Fr [gp] w (w.setCell ⟨gp,v,none⟩ (.bool b)):=(Fr.refl _ w).setCell (.inl (by simp)) _
 have o:=h.off (P:=(· =(6,0))) hf (fun k hk hl=>⟨_,rfl,by simp at hk;subst hk;exact hlab⟩)
 have hst:=(World.ownsRow.stored r v (.bool b)).1
 refine ⟨gp,hg,?_,World.ownsRow.frozenAt r v,⟨?_,o.tr (by decide),o.hp (by decide),h.hmade,h.ecs,h.ews,o.rcs (by decide),o.rws (by decide),o.rph (by decide),?_,o.rco (by decide),fun n hn=>o.ech n hn (by simp),fun n hn=>o.ewh n hn (by simp),
  h.t0,h.t1,h.t2,h.t3,h.t4,h.t5,h.t6,h.t7,h.t8,h.t9⟩,SvL.part_fr hf (fun k hk hl=>by simp at hk;subst hk;rw [hlab])⟩
 ·rw [World.ownsRow.cellAt r v (by omega)]
  simp only [List.getElem?_map,List.getElem?_eq_getElem hv,Option.map_some,List.getElem!_eq_getElem?_getD,Option.getD_some]
 ·have :=o.obj (by decide)
  simp only [scs,List.length_set] at this⊢
  exact this
 ·unfold Bools
  simp only [List.length_set,List.map_set]
  rw [hg]
  exact hst
namespace Sv
def pop (S:Sv):Sv:={ S with H:=S.H.popF }
theorem Ok.pop {S:Sv} {m:Nat} (ok:S.Ok m) (h0:0<S.H.items.length):S.pop.Ok m:=by
 have h:=ok.hi.pop h0
 exact ⟨ok.vl,ok.tr,h.1,by show S.H.popF.at_.length=_;rw [h.2.2.2.1];exact ok.hl,ok.ph,ok.wl,ok.ll,ok.wb,ok.wt,ok.lr,ok.ln,ok.lb,ok.hd,ok.rs⟩
theorem pickF_no {S:Sv} {f:Nat} (h:S.H.items.length=0):pickF f S=(S,0):=by
 cases f with
 |zero=>rfl
 |succ f=>simp only [pickF];rw [if_pos h]
theorem pickF_go {S:Sv} {f:Nat} (h:S.H.items.length≠0) (hv:S.val (S.H.it 0)≠0):pickF (f+1) S=pickF f S.pop:=by
 simp only [pickF]
 rw [if_neg h,if_pos (by exact hv)]
 rfl
theorem pickF_yes {S:Sv} {f:Nat} (h:S.H.items.length≠0) (hv:S.val (S.H.it 0)=0):pickF (f+1) S=(S.pop,if S.phase[(S.H.it 0).toNat]! =true then S.H.it 0 else -(S.H.it 0)):=by
 simp only [pickF]
 rw [if_neg h,if_neg (by exact not_not_intro hv)]
 rfl
theorem Ok.pickF {m:Nat}:∀(f:Nat) (S:Sv),S.Ok m→(pickF f S).1.Ok m∧(Sv.pickF f S).1.T=S.T∧(Sv.pickF f S).1.vars=S.vars∧(Sv.pickF f S).1.list=S.list∧(Sv.pickF f S).1.head=S.head∧ -(S.vars:Int)≤(Sv.pickF f S).2∧(Sv.pickF f S).2≤S.vars
 |0,S,ok=>⟨ok,rfl,rfl,rfl,rfl,by simp only [Sv.pickF];omega,by simp only [Sv.pickF];omega⟩
 |f+1,S,ok=>by
  by_cases h:S.H.items.length=0
  ·rw [pickF_no h]
   exact ⟨ok,rfl,rfl,rfl,rfl,by simp only;omega,by simp only;omega⟩
  ·have hp:=ok.pop (by omega)
   by_cases hv:S.val (S.H.it 0)=0
   ·rw [pickF_yes h hv]
    have hr:=ok.hi.pc.rng 0 (by omega)
    have hl:=ok.hl
    have e:S.H.it 0=S.H.items[0]! :=it_nat S.H 0
    refine ⟨hp,rfl,rfl,rfl,rfl,?_⟩
    simp only
    split<;>omega
   ·rw [pickF_go h hv]
    exact Ok.pickF f S.pop hp
theorem Ok.pick {S:Sv} {m:Nat} (ok:S.Ok m):S.pick.1.Ok m∧S.pick.1.T=S.T∧S.pick.1.vars=S.vars∧S.pick.1.list=S.list∧S.pick.1.head=S.head∧ -(S.vars:Int)≤S.pick.2∧S.pick.2≤S.vars:=Ok.pickF _ _ ok
end Sv
theorem pick_calls (w:World) (L:SvL) (S:Sv) (h:SvAt w L S) (m:Nat) (ok:S.Ok m):
  Calls Tryz.prog 174 #[.pointer (some ⟨L.a,0,none⟩)] w (SvP (.int .i64 S.pick.2) S.pick.1 L w):=by
 obtain ⟨RES,hRES⟩:∃RES,S.pick=RES:=⟨_,rfl⟩
 have HRES:Hid (Sv.pickF (S.H.items.length+1) S=RES):=hRES
 rw [hRES]
 have FIN:Hid (∀(S':Sv) (r:Int),RES=(S',r)→∀W L',SvAt W L' S'→L.ext L' w→Fr (L.own w) w W→SvP (.int .i64 RES.2) RES.1 L w (.returned (.int .i64 r)) W):=fun S' r e W L' g1 g2 g3=>by
  subst e
  exact ⟨rfl,L',g1,g2,g3⟩
 have HH:=Lib.hid h
 have HOK:=Lib.hid ok
 have hvl:=ok.vl
 clear hRES h ok
 go_enter Tryz.func174,Tryz.ntmps174
 go_wp2_with fail
 go_loopg [] (S.H.items.length+1) (fun g wr=>∃(S1:Sv) (L1:SvL),Hid (Sv.pickF g S1=RES)∧S1.H.items.length+1≤g∧Hid (S1.T=S.T∧S1.vars=S.vars)∧Hid (S1.Ok m)∧Hid (SvAt wr L1 S1)∧Hid (L.ext L1 w)∧Hid (Fr (L.own w) w wr))
 case atStart=>exact ⟨S,L,HRES.out,Nat.le_refl _,⟨rfl,rfl⟩,HOK.out,HH.out,SvL.ext_refl _ _,Fr.refl _ _⟩
 case round=>
  obtain ⟨S1,L1,HR1,hg,HSM,HO1,H1,HE1,HF1⟩:=hrel
  have HG:=Lib.hid hg
  have hea:L1.a=L.a:=HE1.out.1
  obtain ⟨-,c1,-⟩:=H1.out.cells
  rw [hea] at c1
  have HEA:=Lib.hid hea
  have hll:=HO1.out.hi.pc.len
  have hhl:=HO1.out.hl
  have hsv:S1.vars=S.vars:=HSM.out.2
  clear hea hg
  by_cases h0:S1.H.items.length=0
  ·have hn:S1.H.items=[]:=List.eq_nil_of_length_eq_zero h0
   have KP:=Lib.hid (heap_pop_no wr L1.hL S1.H H1.out.hp hn)
   have HK:Hid (RES=(S1,0)):=by
    have :=HR1.out
    rw [Sv.pickF_no h0] at this
    exact this.symm
   clear hn
   go_wp2_with fail
   refine KP.out.mono ?_
   rintro e w2 ⟨rfl,rfl⟩
   clear c1
   have FF:=Lib.hid (FIN.out S1 0 HK.out _ L1 H1.out HE1.out HF1.out)
   go_wp2_with fail
   go_ret
   exact FF.out
  ·obtain ⟨f,rfl⟩:∃f,gk=f+1:=⟨gk-1,by have :=HG.out;omega⟩
   obtain ⟨n,hn⟩:∃n,S1.H.items.length=n+1:=⟨S1.H.items.length-1,by omega⟩
   have KP:=Lib.hid (heap_pop_yes wr L1.hL S1.H H1.out.hp HO1.out.hi.pc.rng n hn (by omega))
   have hr:=HO1.out.hi.pc.rng 0 (by omega)
   have hev:S1.H.it 0=S1.H.items[0]! :=it_nat S1.H 0
   rw [←hev] at hr
   obtain ⟨v,hv⟩:∃v:Nat,S1.H.it 0=v:=⟨(S1.H.it 0).toNat,by omega⟩
   rw [hv] at hr KP
   have HP:=Lib.hid (HO1.out.hi.pop (by omega))
   have HV:=Lib.hid hv
   have HN:=Lib.hid hn
   have HOP:=Lib.hid (HO1.out.pop (by omega))
   clear hev hv hn
   go_wp2_with fail
   refine KP.out.mono ?_
   clear KP c1
   rintro e w2 ⟨rfl,hp2,hf2⟩
   obtain ⟨L2,g2,ge2,gf2⟩:=H1.out.heap hp2 (HpL.ext_refl _ _) hf2
   have G2:Hid (SvAt w2 L2 S1.pop):=g2
   have HE2:=Lib.hid (SvL.ext_trans HE1.out ge2 HF1.out.size)
   have HF2:=Lib.hid (SvL.own_then HE1.out HF1.out gf2)
   have hea2:L2.a=L.a:=HE2.out.1
   obtain ⟨c0,-,-,-,-,c5,-⟩:=G2.out.cells
   rw [hea2] at c0 c5
   have hvp:v<S1.pop.phase.length:=by rw [HOP.out.ph];show v<S1.vars+1;omega
   obtain ⟨gp,hgp,sp,fp⟩:=G2.out.phcell hvp
   rw [hgp] at c5
   obtain ⟨b,hb⟩:∃b,S1.pop.phase[v]! =b:=⟨_,rfl⟩
   rw [hb] at sp
   have HB:=Lib.hid hb
   have hvl2:(v:Int)<(S1.pop.phase.length:Int):=by omega
   obtain ⟨pl,hpl⟩:∃pl,S1.pop.phase.length=pl:=⟨_,rfl⟩
   rw [hpl] at c5 hvl2 hvp
   have KV:=trail_value w2 L2.tL S1.pop.T G2.out.tr (v:Int) (by omega) (by omega) HOP.out.small
   obtain ⟨y,hy⟩:∃y,S1.pop.T.valF (v:Int)=y:=⟨_,rfl⟩
   rw [hy] at KV
   have KV:=Lib.hid KV
   have HY:=Lib.hid hy
   have hw1:IntKind.i64.wrap (-(v:Int))= -(v:Int):=IntWalk.i64_in _ (by omega)
   clear hb hy hpl g2 ge2 gf2 hf2 hp2 hea2 hgp fp
   by_cases hy0:y=0
   ·have hd:decide (y≠0)=false:=by simp [hy0]
    have hd2:(y !=0)=false:=by simp [hy0]
    have HK:Hid (RES=(S1.pop,if b=true then (v:Int) else -(v:Int))):=by
     have :=HR1.out
     rw [Sv.pickF_yes h0 (by rw [HV.out];exact HY.out.trans hy0),HV.out,Int.toNat_natCast] at this
     rw [←HB.out]
     exact this.symm
    subst hy0
    cases b with
    |true=>
     have FF:=Lib.hid (FIN.out S1.pop (v:Int) HK.out _ L2 G2.out HE2.out HF2.out)
     go_wp2_with fail
     refine KV.out.mono ?_
     rintro e w3 ⟨rfl,rfl⟩
     clear KV
     go_wp2_with fail
     go_ret
     exact FF.out
    |false=>
     have FF:=Lib.hid (FIN.out S1.pop (-(v:Int)) HK.out _ L2 G2.out HE2.out HF2.out)
     go_wp2_with fail
     refine KV.out.mono ?_
     rintro e w3 ⟨rfl,rfl⟩
     clear KV
     go_wp2_with fail
     go_ret
     exact FF.out
   ·have hd2:(y !=0)=true:=by simp [hy0]
    have HK:Hid (Sv.pickF f S1.pop=RES):=by
     have :=HR1.out
     rw [Sv.pickF_go h0 (by rw [HV.out];exact fun h=>hy0 (HY.out.symm.trans h))] at this
     exact this
    go_wp2_with fail
    refine KV.out.mono ?_
    rintro e w3 ⟨rfl,rfl⟩
    clear KV
    go_wp2_with fail
    go_roundg f
    case measure=>omega
    case rel=>exact ⟨S1.pop,L2,HK.out,by have :=HG.out;have :=HP.out.2.2.1;have e:S1.pop.H.items.length=S1.H.popF.items.length:=rfl;omega,⟨HSM.out.1,HSM.out.2⟩,HOP.out,G2.out,HE2.out,HF2.out⟩
theorem Sv.Ok.keep {S:Sv} {m:Nat} (ok:S.Ok m):S.keep.Ok m:=
 ⟨ok.vl,ok.tr,ok.hi,ok.hl,ok.ph,ok.wl,ok.ll,ok.wb,ok.wt,ok.lr,ok.ln,ok.lb,ok.hd,ok.rs⟩
theorem keep_calls (w:World) (L:SvL) (S:Sv) (h:SvAt w L S) (m:Nat) (ok:S.Ok m):
  Calls Tryz.prog 175 #[.pointer (some ⟨L.a,0,none⟩)] w (SvP (.tuple #[]) S.keep L w):=by
 have HH:=Lib.hid h
 have HOK:=Lib.hid ok
 have hvl:=ok.vl
 obtain ⟨-,-,c2,-,-,-,d6,-⟩:=h.cells
 obtain ⟨n,hn⟩:∃n,((S.vars:Int)+1).toNat=n:=⟨_,rfl⟩
 have hn1:n=S.vars+1:=by omega
 have hmk:=fun W=>run_make_bool W ((S.vars:Int)+1) (by omega) (by omega)
 simp only [hn] at hmk
 have hw1:IntKind.i64.wrap ((S.vars:Int)+1)=(S.vars:Int)+1:=IntWalk.i64_in _ (by omega)
 have HN:=Lib.hid hn1
 have hf6:=(h.obj.alloc (.cells (madeCells #[.bool false] n) 4)).frozen 6
 have hs6:=(box_fr' w (.cells (madeCells #[.bool false] n) 4)).cellS d6
 obtain ⟨L1,g1,ge1,gf1,gl1⟩:=h.model (made_bools w n (by unfold maxLen;omega)) (Nat.le_refl _) ((Fr.refl [] w).alloc _)
 rw [List.length_replicate] at g1 gf1
 obtain ⟨W1,hW1⟩:∃W,(w.alloc (.cells (madeCells #[.bool false] n) 4)).setCell ⟨L.a,6,none⟩ (.slice (some ⟨w.heap.size,0,none⟩) n n)=W:=⟨_,rfl⟩
 have HW1:=Lib.hid hW1
 rw [hW1] at g1 gf1
 have G1:=Lib.hid g1
 have GE1:=Lib.hid ge1
 have GF1:=Lib.hid gf1
 have hea:L1.a=L.a:=ge1.1
 have hc6:=g1.cells.2.2.2.2.2.2.1
 rw [gl1] at hc6
 simp only [List.length_replicate] at hc6
 have HC6:=Lib.hid hc6
 clear g1 ge1 gf1 gl1 hW1 hn hn1 h ok hea hc6 d6
 go_enter Tryz.func175,Tryz.ntmps175
 go_upto_region 1 with fail
 rw [HW1.out]
 clear hmk hw1 hf6 c2 hs6
 have c6:=HC6.out
 go_wp2_with fail
 clear c6
 go_loopg [17] n (fun g x17 wr=>∃(i:Nat) (L2:SvL) (ms:List Bool),i+g=n∧x17= .int .i64 i∧Hid (ms.length=n)∧Hid (∀j:Nat,j<i→ms[j]! =decide (0<S.val (j:Int)))∧Hid (SvAt wr L2 { S with model:=ms })∧Hid (L.ext L2 w)∧Hid (Fr (L.own w) w wr))
 case atStart=>exact ⟨0,L1,List.replicate n false,by omega,rfl,List.length_replicate,fun j hj=>absurd hj (Nat.not_lt_zero _),G1.out,GE1.out,GF1.out⟩
 case round=>
  obtain ⟨i,L2,ms,hi,rfl,HML,HMS,H2,HE2,HF2⟩:=hrel
  have HI:=Lib.hid hi
  have hin:i≤n:=by omega
  have hea:L2.a=L.a:=HE2.out.1
  clear hi
  by_cases hlt:i<n
  ·obtain ⟨gp,hgp,sp,fp,h3,hf3⟩:=H2.out.moset (v:=i) (by show i<ms.length;rw [HML.out];exact hlt) (decide (0<S.val (i:Int)))
   obtain ⟨c0,-,-,-,-,-,c6,-⟩:=H2.out.cells
   rw [hea] at c0 c6
   simp only [HML.out] at c6
   rw [hgp] at c6
   have HC0:=Lib.hid c0
   have HC6':=Lib.hid c6
   have HSP:=Lib.hid sp
   have HFP:=Lib.hid fp
   have H3:=Lib.hid h3
   have HF3:=Lib.hid hf3
   have hd:decide ((i:Int)<(n:Int))=true:=decide_eq_true (by omega)
   have hnb:n≤262144:=by have :=HN.out;omega
   have hlt2:(i:Int)<(n:Int):=by omega
   obtain ⟨y,hy⟩:∃y,S.T.valF (i:Int)=y:=⟨_,rfl⟩
   have KV:=Lib.hid (fun W (hW:Fr [] wr W)=>trail_value W L2.tL S.T (H2.out.tr.fr hW (by simp)) (i:Int) (by omega) (by omega) HOK.out.small)
   simp only [hy] at KV
   have HY:Hid (S.val (i:Int)=y):=hy
   rw [HY.out] at H3 HF3
   clear hgp sp fp h3 hf3 c0 c6 hea hy
   go_upto_region 4 with fail
   refine wp_region_noPanic ?_
   refine wp_region_C (fun w':World=>Fr [] wr w') 13 (by kernel_rfl) ((Fr.refl [] wr).drew) (fun hT0=> ?_)
   apply TB 10 [(0,[]),(1,[]),(2,[]),(3,[3,13]),(4,[]),(5,[]),(6,[]),(7,[]),(8,[8,13]),(9,[])];kernel_rfl;rfl;· (repeat (apply TBc;rfl;rfl;(· intro w hSw;(try (have hSw:=hSw.resolve_left (List.cons_ne_nil _ _);(have s0:=hSw.cellS HC0.out;have s6:=hSw.cellS HC6'.out)));go_simp<;>with_reducible rfl);try simp only [Act.put,q5,q6,q7]));exact TBn
   exact hT0;intro hT0
   refine R2 10 (by kernel_rfl) (by rfl) hT0 fun K hK hSx=> ?_
   (go_simp;refine (KV.out _ hSx).mono ?_;rintro e w5 ⟨rfl,rfl⟩;dsimp only)
   refine hK.out _ _ (.inr ?_) (fun hT11=> ?_)
   ·exact hSx
   clear hK K
   try simp only [Act.put,q5,q6,q7]
   apply TB 2 [(11,[]),(12,[])];kernel_rfl;rfl;· (repeat (apply TBc;rfl;rfl;(· intro w hSw;go_simp<;>with_reducible rfl);try simp only [Act.put,q5,q6,q7]));exact TBn
   exact hT11;intro hT11
   refine R2 13 (by kernel_rfl) (by rfl) hT11 fun K hK hSx=> ?_
   (have sb:=hSx.cellS HSP.out;have fb:World.frozen? _ _=_:=(World.frozen?_of_block (hSx.block gp (lt_of_cell HSP.out) (by simp))).trans HFP.out;go_simp)
   refine hK.out _ _ (.inl rfl) (fun hT14=> ?_)
   clear hK K
   try simp only [Act.put,q5,q6,q7]
   refine wpAnyC_done (by kernel_rfl) ?_ _
   refine NoPanic.normal ?_
   have h5:=H3.out.keep (Fr.refl [] _).drew
   have f5:=HF3.out.drew
   have HMS2:Hid (∀j:Nat,j<i+1→(ms.set i (decide (0<y)))[j]! =decide (0<S.val (j:Int))):=fun j hj=>by
    rw [getB_set]
    by_cases e:i=j
    ·subst e
     rw [if_pos ⟨rfl,by rw [HML.out];exact hlt⟩,HY.out]
    ·rw [if_neg (fun x=>e x.1)]
     exact HMS.out j (by omega)
   obtain ⟨W5,hW5⟩:∃W,((wr.setCell ⟨gp,i,none⟩ (.bool (decide (0<y)))).drew)=W:=⟨_,rfl⟩
   rw [hW5] at h5 f5
   have H5:=Lib.hid h5
   have F5:=Lib.hid f5
   try rw [hW5]
   clear h5 f5 hW5
   go_wp2_with fail
   go_roundg (n-(i+1))
   case measure=>have :=HI.out;omega
   case rel=>exact ⟨i+1,L2,ms.set i (decide (0<y)),by omega,by go_num,(by rw [List.length_set];exact HML.out),HMS2.out,H5.out,HE2.out,SvL.own_then HE2.out HF2.out F5.out⟩
  ·obtain rfl :i=n:=by omega
   have hd:decide ((i:Int)<(i:Int))=false:=by simp
   have f14:=H2.out.obj.frozen 14
   rw [hea] at f14
   obtain ⟨-,-,-,-,-,-,-,-,-,-,-,-,-,-,s14⟩:=H2.out.cells
   rw [hea] at s14
   obtain ⟨h3,hf3⟩:=H2.out.setc 14 (.bool true) ({ S with model:=ms,has:=true }:Sv) rfl ⟨rfl,rfl,rfl,rfl,rfl,rfl,rfl⟩
   rw [hea] at h3 hf3
   have hK:({ S with model:=ms,has:=true }:Sv)=S.keep:=by
    unfold Sv.keep
    congr 1
    apply List.ext_getElem
    ·rw [HML.out,List.length_map,List.length_range,HN.out]
    ·intro j h1 h2
     have :=HMS.out j (by rw [HML.out] at h1;exact h1)
     simp only [List.getElem_map,List.getElem_range]
     rw [←this]
     simp [List.getElem!_eq_getElem?_getD,List.getElem?_eq_getElem h1]
   rw [hK] at h3
   have FF:Hid (SvP (.tuple #[]) S.keep L w (.returned (.tuple #[])) _):=⟨rfl,L2,h3,HE2.out,SvL.own_then HE2.out HF2.out hf3⟩
   clear h3 hf3 hK
   go_wp2_with fail
   go_end0
   exact FF.out
end Go.Proofs.YtjmmpfjcpdepjaaGreatDoor
