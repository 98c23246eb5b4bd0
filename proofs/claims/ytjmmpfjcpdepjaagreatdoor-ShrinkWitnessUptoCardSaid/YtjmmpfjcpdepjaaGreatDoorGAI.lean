/- Parts of a proof. -/
import Derived.Test.YtjmmpfjcpdepjaaGreatDoorGAH
set_option linter.unusedVariables false
set_option linter.unusedSimpArgs false
namespace Go.Proofs.YtjmmpfjcpdepjaaGreatDoor
open Go.RowKit
def LdP (S1:Sv) (l:List Int) (lev:Int) (L:SvL) (w:World) (e:Ending) (w':World):Prop:=
 ∃(A':Option Addr) (c':Nat),e= .returned (.tuple #[.slice A' l.length c', .int .i64 lev])∧∃L',SvAt w' L' S1∧L.ext L' w∧Ints w' A' c' l∧(∀k,k∈blks A'→w.heap.size≤k∧(L'.lab k).1≠L'.id)∧Fr (L.own w) w w'
set_option maxRecDepth 100000 in
set_option maxHeartbeats 16000000 in
theorem learned_calls (w:World) (L:SvL) (S:Sv) (h:SvAt w L S) (m:Nat) (ok:S.Ok m) (n:Nat) (hn:n<S.list.length) (S1:Sv) (l:List Int) (lev:Int) (hres:S.learned n=some (S1,l,lev)):
  Calls Tryz.prog 168 #[.pointer (some ⟨L.a,0,none⟩), .int .i64 n] w (LdP S1 l lev L w):=by
 have hvl:=ok.vl
 have hll:=ok.ll
 have hNl:=ok.len_le
 obtain ⟨GE,xe,hLL,hS1,hl,hlev⟩:∃(GE:Sv.Gr) (xe:Int),Sv.learnL (S.T.lits.length+1) ⟨S,[],0,[0]⟩ n 0 S.T.lits.reverse=some (GE,xe)∧GE.S=S1∧
   (Sv.second GE.S.T (GE.learn.set 0 (-xe)).length 1 (GE.learn.set 0 (-xe)) 0).1=l∧(Sv.second GE.S.T (GE.learn.set 0 (-xe)).length 1 (GE.learn.set 0 (-xe)) 0).2=lev:=by
  unfold Sv.learned at hres
  cases hq:Sv.learnL (S.T.lits.length+1) ⟨S,[],0,[0]⟩ n 0 S.T.lits.reverse with
  |none=>rw [hq] at hres;cases hres
  |some q=>
   obtain ⟨G,x⟩:=q
   rw [hq] at hres
   simp only [Option.some.injEq,Prod.mk.injEq] at hres
   exact ⟨G,x,rfl,hres.1,hres.2.1,hres.2.2⟩
 have HLL:=Lib.hid hLL
 have HS1:=Lib.hid hS1
 have HL:=Lib.hid hl
 have HLEV:=Lib.hid hlev
 have HOK:=Lib.hid ok
 have HG0:=Lib.hid (GrAt.new h)
 have HNE0:Hid (Sv.Near S m ⟨S,[],0,[0]⟩):=⟨rfl,rfl,rfl,rfl,ok,fun x hx=>by simp at hx;subst hx;omega,by simp⟩
 have HE0:=Lib.hid (L.seal_ext w)
 have HF0:Hid (Fr [] w (((w.alloc (.map #[] 0)).alloc (.cells #[.int .i64 0] 3)).alloc (.cells #[.pointer (some ⟨L.a,0,none⟩), .map (some w.heap.size), .int .i64 0, .slice (some ⟨w.heap.size+1,0,none⟩) 1 1] 223))):=(((Fr.refl [] w).alloc _).alloc _).alloc _
 have c0:=HF0.out.cellS h.cells.1
 have hmm:=@run_makeMap Tryz.prog
 have KL:=Lib.hid (trail_len _ L.tL S.T (h.tr.fr HF0.out (by simp)))
 have hw1:IntKind.i64.wrap ((S.T.lits.length:Int)-1)=(S.T.lits.length:Int)-1:=IntWalk.i64_in _ (by omega)
 clear hLL hS1 hl hlev hres h ok
 go_enter Tryz.func168,Tryz.ntmps168
 go_wp2_with fail
 refine KL.out.mono ?_
 clear KL
 rintro e w1 ⟨rfl,hw⟩
 obtain ⟨W1,hW1⟩:∃W1,W1=w1:=⟨_,rfl⟩
 rw [hw] at HG0 HF0
 have hSZ:w.heap.size+1<w1.heap.size:=by rw [←hw];simp
 clear hw hmm c0 hW1 W1
 go_wp2_with fail
 clear hw1
 go_loopg [1,7,8] (S.T.lits.length+1) (fun g x1 x7 x8 wr=>∃(G1:Sv.Gr) (n1 sk:Int) (j:Nat) (L1:SvL) (X1:GrL) (nm:Nat),x1= .int .i64 n1∧x7= .int .i64 sk∧x8= .int .i64 ((j:Int)-1)∧j≤S.T.lits.length∧ -1≤n1∧n1<S.list.length∧ -(S.vars:Int)≤sk∧sk≤S.vars∧
   Hid (Sv.learnL g G1 n1 sk (S.T.lits.take j).reverse=some (GE,xe))∧Hid (GrAt wr L1 X1 nm G1)∧Hid (Sv.Near S m G1)∧Hid (nm+1048577*g≤300000000000∧G1.learn.length+1048577*g≤300000000001∧G1.opn+1048577*(g:Int)≤300000000000∧(g:Int)-262145≤G1.opn)∧
   Hid (X1.gb=w.heap.size+1+1)∧Hid (∀k,k∈X1.own→w.heap.size≤k)∧Hid (L.ext L1 w)∧Hid (Fr (L.own w) w wr))
 case atStart=>exact ⟨⟨S,[],0,[0]⟩,n,0,S.T.lits.length,L.shut w,_,0,rfl,rfl,rfl,Nat.le_refl _,by omega,by omega,by omega,by omega,by rw [List.take_length];exact HLL.out,HG0.out,HNE0.out,⟨by omega,by simp;omega,by simp;omega,by simp;omega⟩,rfl,fun k hk=>by simp [GrL.own,blks] at hk;omega,HE0.out,HF0.out.mono (fun k hk=>by cases hk)⟩
 case round=>
  obtain ⟨G1,n1,sk,j,L1,X1,nm,rfl,rfl,rfl,hj,hn1,hn2,hsk1,hsk2,HR,HB,HN,HBD,HXG,HXN,HE,HF⟩:=hrel
  obtain ⟨f,rfl⟩:∃f,gk=f+1:=⟨gk-1,by
   rcases gk with _ |g
   ·exact absurd HR.out (by rw [Sv.learnL_zero];simp)
   ·omega⟩
  have HR1:Hid (Sv.learn2 f (Sv.learn1 G1 n1 sk) (S.T.lits.take j).reverse=some (GE,xe)):=by rw [←Sv.learnL_eq];exact HR.out
  clear HR HLL HG0 HNE0 HE0 HF0
  by_cases hp:0≤n1
  ·obtain ⟨nn,rfl⟩:∃nn:Nat,n1=nn:=⟨n1.toNat,by omega⟩
   have hnn:nn<S.list.length:=by omega
   have hnc:nn<L1.cs.length:=by rw [HB.out.sv.lenc,HN.out.len];exact hnn
   obtain ⟨gc,hgc,x0,x1,x2⟩:=HB.out.sv.rcell hnc
   have hrc:=HB.out.sv.rc_eq hnc
   obtain ⟨hfz,-⟩:=HB.out.sv.act hnc hgc G1.S.used
   have HB2:=Lib.hid (HB.out.act hnc hgc G1.S.used)
   have hcs:(L1.cs.set nn { L1.cs[nn]! with act:=(G1.S.used:Int) })[nn]! ={ L1.cs[nn]! with act:=(G1.S.used:Int) }:=by rw [getB_set,if_pos ⟨rfl,hnc⟩]
   obtain ⟨⟨A,c,ls,b,ac⟩,hx⟩:∃x,L1.cs[nn]! =x:=⟨_,rfl⟩
   rw [hx] at x0 hrc hcs HB2
   simp only [Cw.rc] at x0 hrc HB2
   have HCS:=Lib.hid hcs
   have HNE1:=Lib.hid (HN.out.acted nn)
   have hlits:(G1.S.rc nn).lits=ls:=by rw [hrc]
   have HLA:Hid (L1.a=L.a):=HE.out.1
   obtain ⟨c0,-,-,c3,-,-,-,-,-,c9,-⟩:=HB.out.sv.cells
   rw [HLA.out] at c0 c3 c9
   rw [hgc] at c3
   have hlc:L1.cs.length=S.list.length:=by rw [HB.out.sv.lenc,HN.out.len]
   rw [hlc] at c3
   obtain ⟨-,-,-,d3,-⟩:=HB2.out.sv.cells
   simp only [List.length_set] at d3
   rw [HLA.out,hgc,hlc] at d3
   have y0:((wr.setCell ⟨gc,nn*3+2,none⟩ (.int .i64 G1.S.used)).drew).cell? ⟨gc,nn*3,none⟩=some (.slice A ls.length c):=by
    have hnc':nn<(L1.cs.set nn { A:=A,c:=c,lits:=ls,lrn:=b,act:=(G1.S.used:Int) }).length:=by rw [List.length_set];exact hnc
    obtain ⟨g',hg',z0,-,-⟩:=HB2.out.sv.rcell hnc'
    rw [hgc] at hg'
    obtain rfl :gc=g':=by simpa using hg'
    rw [hcs] at z0
    exact z0
   have HRW:Hid (Ints (wr.setCell ⟨gc,nn*3+2,none⟩ (.int .i64 G1.S.used)).drew A c ls):=by
    have hnc':nn<(L1.cs.set nn { A:=A,c:=c,lits:=ls,lrn:=b,act:=(G1.S.used:Int) }).length:=by rw [List.length_set];exact hnc
    have :=HB2.out.sv.ech nn hnc'
    rw [hcs] at this
    exact this
   have HL8:Hid (∀k,k∈blks A→(L1.lab k).1=L1.id):=fun k hk=>by
    have :=HB.out.sv.t8 nn hnc k (by rw [hx];exact hk)
    rw [this]
   have HT8:Hid (∀k,k∈blks A→L1.lab k=(L1.id,8,nn)):=fun k hk=>HB.out.sv.t8 nn hnc k (by rw [hx];exact hk)
   have HLB:Hid (ls.length≤1048576):=by have :=HN.out.ok.lb nn;rw [hlits] at this;exact this
   have HLR:Hid (∀x∈ls,-(S.vars:Int)≤x∧x≤S.vars):=fun x hx=>by
    have :=HN.out.ok.lr nn x (by rw [hlits];exact hx)
    rw [HN.out.vars] at this
    exact this.2
   have HLE:Hid (Sv.learn1 G1 nn sk=Sv.meets sk ls { G1 with S:=G1.S.acted nn }):=by
    show _=_
    unfold Sv.learn1
    rw [if_pos (by omega),Int.toNat_natCast,hlits]
   have HF2:Hid (Fr (L.own w) w (wr.setCell ⟨gc,nn*3+2,none⟩ (.int .i64 G1.S.used)).drew):=(HF.out.setCell (by
    rcases Nat.lt_or_ge gc w.heap.size with hl |hl
    ·left
     rw [SvL.mem_own]
     exact ⟨hl,HE.out.2.2 gc hl (by rw [HB.out.sv.t3 gc (by rw [hgc];simp [blks])];exact HE.out.2.1)⟩
    ·exact .inr hl) _).drew
   have HGB:Hid (∀k,k∈X1.own→w.heap.size≤k):=HXN.out
   clear hcs hrc hx hlits hgc hlc
   go_wp2_with fail
   go_region
   obtain ⟨W2,hW2⟩:∃W,(wr.setCell ⟨gc,nn*3+2,none⟩ (.int .i64 G1.S.used)).drew=W:=⟨_,rfl⟩
   rw [hW2] at HB2 d3 y0 HRW HF2⊢
   have c0':=HB2.out.sv.cells.1
   clear hW2 c0 c3 c9 x0 x1 x2 hfz HB
   go_wp2_with fail
   clear d3 y0 c0'
   obtain ⟨L2,hL2⟩:∃L2,{ L1 with cs:=L1.cs.set nn { A:=A,c:=c,lits:=ls,lrn:=b,act:=(G1.S.used:Int) } }=L2:=⟨_,rfl⟩
   have hlab2:L2.lab=L1.lab∧L2.id=L1.id∧L2.a=L1.a∧L2.hL=L1.hL:=by rw [←hL2];exact ⟨rfl,rfl,rfl,rfl⟩
   have HL2:=Lib.hid hlab2
   rw [hL2] at HB2
   have HE2:Hid (L.ext L2 w):=⟨hlab2.2.2.1.trans HE.out.1,hlab2.2.1.trans HE.out.2.1,fun k hk e=>HE.out.2.2 k hk (by rw [←hlab2.1];exact e)⟩
   have HRF:Hid (∀k,k∈blks A→L2.lab k=(L2.id,8,nn)):=fun k hk=>by rw [hlab2.1,hlab2.2.1];exact HT8.out k hk
   have HGS:Hid (({ G1 with S:=G1.S.acted nn }:Sv.Gr)={ G1 with S:={ G1.S with list:=G1.S.list.set nn { G1.S.rc nn with act:=G1.S.used } } }):=rfl
   clear hL2 hlab2 HL8 HT8 HCS HE HF
   go_loopg [46] ls.length (fun g2 x46 wi=>∃(k:Nat) (Gk:Sv.Gr) (Xk:GrL) (nk:Nat),k+g2=ls.length∧x46= .int .i64 k∧Hid (Sv.meets sk (ls.drop k) Gk=Sv.learn1 G1 nn sk)∧Hid (GrAt wi L2 Xk nk Gk)∧Hid (Sv.Near S m Gk)∧Hid (nk≤nm+k∧Gk.learn.length≤G1.learn.length+k∧Gk.opn≤G1.opn+k∧G1.opn≤Gk.opn)∧
     Hid (Xk.gb=w.heap.size+1+1)∧Hid (∀k,k∈Xk.own→w.heap.size≤k)∧Hid (Ints wi A c ls)∧Hid (Fr (L.own w) w wi))
   case atStart=>exact ⟨0,{ G1 with S:=G1.S.acted nn },X1,nm,by omega,rfl,HLE.out.symm,HGS.out▸HB2.out,HNE1.out,⟨by omega,by simp,by simp,by simp⟩,HXG.out,HGB.out,HRW.out,HF2.out⟩
   case round=>
    obtain ⟨k,Gk,Xk,nk,hk,rfl,HM,HBk,HNk,HBDk,HXGk,HXNk,HIk,HFk⟩:=hrel
    have HK:=Lib.hid hk
    have hkl:k≤ls.length:=by omega
    have hlb:=HLB.out
    clear hk
    by_cases hlt:k<ls.length
    ·obtain ⟨ga,hA,hgl⟩:=HIk.out.pos hlt
     subst hA
     have cy:=HIk.out.cell hlt
     obtain ⟨y,hy⟩:∃y,ls[k]! =y:=⟨_,rfl⟩
     rw [hy] at cy
     have hyr:=HLR.out y (by rw [←hy];exact get_mem hlt)
     have hdr:ls.drop k=y::ls.drop (k+1):=by
      rw [List.drop_eq_getElem_cons hlt,←hy]
      simp only [List.getElem!_eq_getElem?_getD,List.getElem?_eq_getElem hlt,Option.getD_some]
     have HDR:=Lib.hid hdr
     obtain ⟨hyr1,hyr2⟩:=hyr
     clear hdr hy hgl
     by_cases hns:y=sk
     ·have hd:(y==sk)=true:=by simp [hns]
      have HM2:Hid (Sv.meets sk (ls.drop (k+1)) Gk=Sv.learn1 G1 nn sk):=by
       have :=HM.out
       rw [HDR.out,Sv.meets,if_neg (fun h=>h hns)] at this
       exact this
      clear hns
      go_wp2_with fail
      go_roundg (ls.length-(k+1))
      case measure=>have :=HK.out;omega
      case rel=>exact ⟨k+1,Gk,Xk,nk,by have :=HK.out;omega,by go_num,HM2.out,HBk.out,HNk.out,(by have :=HBDk.out;exact ⟨by omega,by omega,by omega,by omega⟩),HXGk.out,HXNk.out,HIk.out,HFk.out⟩
     ·have hd:(y==sk)=false:=by simp [hns]
      have HM2:Hid (Sv.meets sk (ls.drop (k+1)) (Sv.meet Gk y)=Sv.learn1 G1 nn sk):=by
       have :=HM.out
       rw [HDR.out,Sv.meets,if_pos hns] at this
       exact this
      have KM:=Lib.hid (meet_calls wr L2 Xk nk Gk HBk.out m HNk.out.ok y (by rw [HNk.out.vars];exact hyr1) (by rw [HNk.out.vars];exact hyr2) (by have :=HBDk.out;have :=HBD.out;unfold maxLen;omega) (by have :=HBDk.out;have :=HBD.out;omega) (by have :=HBDk.out;have :=HBD.out;omega) (by have :=HBDk.out;have :=HBD.out;omega))
      rw [HXGk.out] at KM
      clear hns
      go_wp2_with fail
      refine KM.out.mono ?_
      clear KM cy
      rintro e wj ⟨rfl,Xj,nj,hbj,hnj,hgj,hmj,haj,hfj⟩
      have HBj:=Lib.hid hbj
      have HNj:=Lib.hid (HNk.out.meet ⟨hyr1,hyr2⟩)
      have hsm:=Sv.meet_same Gk y
      have HBDj:Hid (nj≤nm+(k+1)∧(Sv.meet Gk y).learn.length≤G1.learn.length+(k+1)∧(Sv.meet Gk y).opn≤G1.opn+((k+1:Nat):Int)∧G1.opn≤(Sv.meet Gk y).opn):=by
       have :=HBDk.out
       exact ⟨by omega,by omega,by omega,by omega⟩
      have hz:w.heap.size≤wr.heap.size:=HFk.out.size
      have HXNj:Hid (∀k,k∈Xj.own→w.heap.size≤k):=fun q hq=>by
       simp only [GrL.own,List.mem_cons] at hq
       rcases hq with rfl |rfl |hq
       ·exact HXNk.out _ (by simp [GrL.own,hgj])
       ·exact HXNk.out _ (by simp [GrL.own,hmj])
       ·rcases haj q hq with h5 |h5
        ·exact HXNk.out _ (by simp [GrL.own,h5])
        ·omega
      have HXGj:Hid (Xj.gb=w.heap.size+1+1):=hgj.trans HXGk.out
      have HFj:=Lib.hid (HBk.out.own_fr HE2.out HFk.out HXNk.out hfj)
      have HIj:Hid (Ints wj (some ⟨ga,0,none⟩) c ls):=HIk.out.fr hfj (fun q hq hm=>by
       have h5:=HRF.out q hq
       rcases List.mem_append.1 hm with h6 |h6
       ·exact HBk.out.far q h6 (by rw [h5])
       ·have h7:=HBk.out.sv.t2 q h6
        rw [h5] at h7
        simp at h7)
      clear hbj hnj hgj hmj haj hfj hsm hz
      go_wp2_with fail
      go_roundg (ls.length-(k+1))
      case measure=>have :=HK.out;omega
      case rel=>exact ⟨k+1,Sv.meet Gk y,Xj,nj,by have :=HK.out;omega,by go_num,HM2.out,HBj.out,HNj.out,HBDj.out,HXGj.out,HXNj.out,HIj.out,HFj.out⟩
    ·obtain rfl :k=ls.length:=by omega
     have HG5:Hid (Gk=Sv.learn1 G1 nn sk):=by
      have :=HM.out
      rw [List.drop_length] at this
      exact this
     have HR5:Hid (Sv.learn2 f Gk (S.T.lits.take j).reverse=some (GE,xe)):=by rw [HG5.out];exact HR1.out
     have HBD5:Hid (nk+1048577*f≤300000000000∧Gk.learn.length+1048577*f≤300000000001∧Gk.opn+1048577*(f:Int)≤300000000000∧(f:Int)-262144≤Gk.opn):=by
      have :=HBDk.out
      have :=HBD.out
      have :=HLB.out
      exact ⟨by omega,by omega,by omega,by omega⟩
     clear HM HR1 HG5 HBDk HBD HLB HIk HRF HRW HLE HK hlb
     obtain ⟨G5,hG5⟩:∃G5,G5=Gk:=⟨_,rfl⟩
     obtain ⟨X5,hX5⟩:∃X5,X5=Xk:=⟨_,rfl⟩
     rw [←hG5] at HR5 HBD5 HBk HNk
     rw [←hX5] at HBk HXGk HXNk
     clear hG5 hX5 HF2 HNE1 HB2 HGS HL2
     go_wp2_with fail
     go_loopg [8] j (fun g3 x8 wt=>g3≤j∧x8= .int .i64 ((g3:Int)-1)∧Hid (Sv.learn2 f G5 (S.T.lits.take g3).reverse=some (GE,xe))∧Hid (Fr [] wr wt))
     case atStart=>exact ⟨Nat.le_refl _,rfl,HR5.out,Fr.refl _ _⟩
     case round=>
      obtain ⟨hg3,rfl,HR6,HF6⟩:=hrel
      obtain ⟨i,hi⟩:∃i,gk=i+1:=⟨gk-1,by
       rcases gk with _ |g
       ·exact absurd HR6.out (by simp [Sv.learn2_nil])
       ·omega⟩
      subst hi
      have hil:i<S.T.lits.length:=by omega
      obtain ⟨hx1,hx2,hx3,hx4,hx5⟩:=HOK.out.set_lit hil
      obtain ⟨x,hx⟩:∃x,S.T.lits[i]! =x:=⟨_,rfl⟩
      rw [hx] at hx1 hx2 hx3 hx4 hx5
      have HX:=Lib.hid hx
      obtain ⟨hmx,hwr⟩:=max_e hx3 hx4 hvl
      obtain ⟨v,hv⟩:∃v,tv x=v:=⟨_,rfl⟩
      rw [hv] at hmx hx1 hx2
      have HV:=Lib.hid hv
      have hci:((i+1:Nat):Int)-1=(i:Int):=by omega
      have HRX:Hid (Sv.learn2 f G5 (x::(S.T.lits.take i).reverse)=some (GE,xe)):=by
       have :=HR6.out
       rw [rev_take hil,HX.out] at this
       exact this
      rw [hci]
      have HB6:=Lib.hid (HBk.out.keep HF6.out)
      have c0:=HB6.out.sv.cells.1
      have g1:=HB6.out.obj.cell 1
      simp only [List.getElem?_toArray,List.getElem?_cons_succ,List.getElem?_cons_zero] at g1
      rw [HE2.out.1] at c0
      rw [HXGk.out] at g1
      have e0:=Ext.cell c0
      have e1:=Ext.cell g1
      have KA:=Lib.hid (fun u:Ext wr=>trail_at u.v L2.tL G5.S.T (HB6.out.sv.tr.fr u.fr (by simp)) (i:Int))
      simp only [HNk.out.T,atB_nat hil,HX.out] at KA
      have hlk:∀u:Ext wr,(Instr.lookup 221 (.map (some X5.bm)) (.int .i64 v) false).run Tryz.prog u.v= .ok (.bool (decide (v∈G5.seen))) u.v:=fun u=>(HB6.out.sn.keep u.fr).look ⟨by omega,by omega⟩
      clear HR6 hx hv hci
      by_cases hsn:v∈G5.seen
      ·have hdq:decide (v∈G5.seen)=true:=decide_eq_true hsn
       rw [hdq] at hlk
       have HSN:=Lib.hid hsn
       clear hsn hdq
       go_wp2_with fail
       refine wp_region_ext (by kernel_rfl) (by kernel_rfl) ?_
       repeat (go_big_quiet_step (exact call_same (KA.out _)))
       refine wpQuiet_nil ?_
       rintro w7 ⟨u2,hu2⟩
       have HF_w7:Hid (Fr [] wr w7):=hu2▸u2.fr
       clear hu2 u2
       clear e0 e1 c0 g1 hlk
       have HB7:=Lib.hid (HB6.out.keep HF_w7.out)
       have HF7:Hid (Fr (L.own w) w w7):=HFk.out.then_ ((HF6.out.then_ HF_w7.out).mono (fun k hk=>by cases hk))
       clear HF6 HB6 HF_w7 KA
       have c0:=HB7.out.sv.cells.1
       rw [HE2.out.1] at c0
       have KA:=Lib.hid (trail_at w7 L2.tL G5.S.T HB7.out.sv.tr (i:Int))
       rw [HNk.out.T,atB_nat hil,HX.out] at KA
       have KR:=Lib.hid (trail_reason w7 L2.tL G5.S.T HB7.out.sv.tr v)
       obtain ⟨rv,hrv⟩:∃rv,G5.S.T.reaB v=rv:=⟨_,rfl⟩
       rw [hrv] at KR
       have HRV:=Lib.hid hrv
       have hrs:0≤rv∧rv≤S.list.length:=by
        have :=HNk.out.ok.rs v
        rw [hrv,HNk.out.len] at this
        exact this
       obtain ⟨hrs1,hrs2⟩:=hrs
       have hw2:IntKind.i64.wrap (rv-1)=rv-1:=IntWalk.i64_in _ (by omega)
       have g2:=HB7.out.obj.cell 2
       have fz:=HB7.out.obj.frozen 2
       simp only [List.getElem?_toArray,List.getElem?_cons_succ,List.getElem?_cons_zero] at g2
       rw [HXGk.out] at g2 fz
       obtain ⟨op,hop⟩:∃op,G5.opn=op:=⟨_,rfl⟩
       rw [hop] at g2
       have hob: -262145≤op∧op≤300000000000:=by have :=HBD5.out;omega
       obtain ⟨hob1,hob2⟩:=hob
       have hw3:IntKind.i64.wrap (op-1)=op-1:=IntWalk.i64_in _ (by omega)
       have HOP:=Lib.hid hop
       have HB8:=HB7.out.opn' (op-1)
       rw [HXGk.out] at HB8
       have HB8:=Lib.hid HB8
       have HF8:Hid (Fr (L.own w) w (w7.setCell ⟨w.heap.size+1+1,2,none⟩ (.int .i64 (op-1)))):=HF7.out.setCell (.inr (by simp only;omega)) _
       clear hrv hop
       go_wp2_with fail
       refine KA.out.mono ?_
       clear KA
       rintro e w8 ⟨rfl,rfl⟩
       go_wp2_with fail
       refine KR.out.mono ?_
       clear KR
       rintro e w8 ⟨rfl,rfl⟩
       by_cases hz:op-1=0
       ·have hd:((op-1)==(0:Int))=true:=by simp [hz]
        have HEND:Hid (({ G5 with opn:=op-1 }:Sv.Gr)=GE∧x=xe):=by
         have :=HRX.out
         rw [Sv.learn2_end (by rw [HV.out];exact HSN.out) (by rw [HOP.out];exact hz),HOP.out] at this
         show _∧_
         simpa using this
        have HL9:=HNk.out.l0
        obtain ⟨ga,hga,hgal⟩:=HB7.out.ln.pos HL9
        have g3:=HB8.out.obj.cell 3
        simp only [List.getElem?_toArray,List.getElem?_cons_succ,List.getElem?_cons_zero] at g3
        rw [HXGk.out,hga] at g3
        have ca:=HB8.out.ln
        rw [hga] at ca
        have ca0:=ca.cell HL9
        have fa0:=ca.frozen 0
        have hlg:0<G5.learn.length:=HL9
        have HB9:=Lib.hid (HB8.out.lset hga (-x))
        have HF9:Hid (Fr (L.own w) w ((w7.setCell ⟨w.heap.size+1+1,2,none⟩ (.int .i64 (op-1))).setCell ⟨ga,0,none⟩ (.int .i64 (-x)))):=HF8.out.setCell (.inr (HXNk.out ga (by simp [GrL.own,hga,blks]))) _
        have HGA:=Lib.hid hga
        have HLN9:Hid (∀y∈G5.learn.set 0 (-x),-(S.vars:Int)≤y∧y≤S.vars):=fun y hy=>by
         rcases List.mem_or_eq_of_mem_set hy with h5 |h5
         ·exact HNk.out.lr y h5
         ·rw [h5];omega
        obtain ⟨lg,hlgn⟩:∃lg,G5.learn.length=lg:=⟨_,rfl⟩
        have HLG:=Lib.hid hlgn
        rw [hlgn] at g3 hlg
        clear hz hga hgal ca HL9 hlgn c0
        go_wp2_with fail
        obtain ⟨w9,hw9⟩:∃w9,(w7.setCell ⟨w.heap.size+1+1,2,none⟩ (.int .i64 (op-1))).setCell ⟨ga,0,none⟩ (.int .i64 (-x))=w9:=⟨_,rfl⟩
        rw [hw9] at HB9 HF9⊢
        have g3:=HB9.out.obj.cell 3
        simp only [List.getElem?_toArray,List.getElem?_cons_succ,List.getElem?_cons_zero] at g3
        rw [HXGk.out,HGA.out,List.length_set,HLG.out] at g3
        have HG3:=Lib.hid g3
        have KS:=Lib.hid (fun W (hW:Fr [] w9 W)=>second_calls W L2 G5.S (HB9.out.keep hW).sv m HNk.out.ok X5.A X5.c (G5.learn.set 0 (-x)) (HB9.out.keep hW).ln HB9.out.f3 (by rw [HNk.out.vars];exact HLN9.out) (by rw [List.length_set];have :=HBD5.out;omega))
        rw [HGA.out,HE2.out.1,List.length_set,HLG.out] at KS
        have HNGB:Hid (w.heap.size+1+1∉blks (some (⟨ga,0,none⟩:Addr))):=by
         show ¬_
         intro hk
         have :=(HB9.out.d3 _ (by rw [HGA.out];exact hk)).1
         exact this HXGk.out.symm
        clear hw9 ca0 fa0 g2 fz hw2 hw3 HB8 HF8
        clear g3
        refine wp_region_noPanic ?_
        refine wp_region_C (fun w':World=>Fr [] w9 w') 9 (by kernel_rfl) ((Fr.refl [] w9).drew) (fun hT0=> ?_)
        apply TB 8 [(0,[]),(1,[]),(2,[]),(4,[]),(5,[]),(6,[]),(7,[]),(8,[8,9])];kernel_rfl;rfl;· (repeat (apply TBc;rfl;rfl;(· intro w hSw;(try (have hSw:=hSw.resolve_left (List.cons_ne_nil _ _);(have s3:=hSw.cellS HG3.out)));go_simp<;>with_reducible rfl);try simp only [Act.put,q5,q6,q7]));exact TBn
        exact hT0;intro hT0
        have hSx:=hT0.resolve_left (by decide)
        refine wpAnyC_ready (rs:=[3,9]) (by kernel_rfl) (by simp) ?_
        refine ReadyC.cons (o:= ?oar20u15) ?hoar20u15 ?hstepar20u15 ?_
        case hoar20u15=>rfl
        case hstepar20u15=>
         intro K hK
         first | (have s3:=hSx.cellS HG3.out;go_simp) |go_simp
         refine hK.out _ _ (.inr ?_) (fun hT9=> ?_)
         ·exact hSx
         clear hK K
         try simp only [Act.put,q5,q6,q7]
         refine R2 9 (by kernel_rfl) (by rfl) hT9 fun K hK hSx=> ?_
         (go_simp;refine (KS.out _ hSx).mono ?_;rintro e w5 ⟨rfl,hi5,hf5⟩;have g3':=hf5.cellN HNGB.out (hSx.cellS HG3.out);have HI10:=Lib.hid hi5;have HB10:=Lib.hid ((HB9.out.keep hSx).sv.fr hf5 (fun k hk _=>HB9.out.f3 k (by rw [HGA.out];exact hk)));have HF10:Hid (Fr (L.own w) w w5):=(HF9.out.then_ (hSx.mono (fun k hk=>by cases hk))).trans hf5 (fun k hk=> .inr (HXNk.out k (by rw [←HGA.out] at hk;simp [GrL.own,hk])));have HSL:Hid ((Sv.second G5.S.T lg 1 (G5.learn.set 0 (-x)) 0).1.length=lg):=(by rw [second_len,List.length_set];exact HLG.out);clear hi5 hf5;dsimp only)
         refine hK.out _ _ (.inl rfl) (fun hT10=> ?_)
         clear hK K
         try simp only [Act.put,q5,q6,q7]
         refine R1 (i:=10) (o:= ?oar20u17) (by kernel_rfl) (by rfl) ?_
         intro K hK
         go_simp
         refine hK.out _ _ (.inl rfl) (fun hT11=> ?_)
         clear hK K
         try simp only [Act.put,q5,q6,q7]
         refine R1 (i:=11) (o:= ?oar20u18) (by kernel_rfl) (by rfl) ?_
         intro K hK
         go_simp
         refine hK.out _ _ (.inl rfl) (fun hT12=> ?_)
         clear hK K
         try simp only [Act.put,q5,q6,q7]
         refine wpAnyC_done (by kernel_rfl) ?_ _
         refine NoPanic.normal ?_
         have FF:Hid (LdP S1 l lev L w (.returned (.tuple #[.slice (some ⟨ga,0,none⟩) lg X5.c, .int .i64 (Sv.second G5.S.T lg 1 (G5.learn.set 0 (-x)) 0).2])) w5):=by
          obtain ⟨h5,h6⟩:=HEND.out
          have hz9:w.heap.size≤w9.heap.size:=HF9.out.size
          have e1:(GE.learn.set 0 (-xe)).length=lg:=by rw [←h5,List.length_set];exact HLG.out
          have e2:Sv.second GE.S.T (GE.learn.set 0 (-xe)).length 1 (GE.learn.set 0 (-xe)) 0=Sv.second G5.S.T lg 1 (G5.learn.set 0 (-x)) 0:=by rw [e1,←h5,h6]
          have e3:l.length=lg:=by
           rw [←HL.out,e2]
           exact HSL.out
          refine ⟨some ⟨ga,0,none⟩,X5.c,?_,L2,?_,HE2.out,?_,fun k hk=> ?_,?_⟩
          ·rw [e3,←HLEV.out,e2]
          ·rw [←HS1.out,←h5]
           exact HB10.out
          ·rw [←HL.out,e2]
           exact HI10.out
          ·exact ⟨HXNk.out k (by rw [←HGA.out] at hk;simp [GrL.own,hk]),HB9.out.f3 k (by rw [HGA.out];exact hk)⟩
          ·exact HF10.out
         go_wp2_with fail
         go_ret2
         exact FF.out
        refine ReadyC.cons (o:= ?oar20u19) ?hoar20u19 ?hstepar20u19 ReadyC.nil
        case hoar20u19=>rfl
        intro K hK
        (go_simp;refine (KS.out _ hSx).mono ?_;rintro e w5 ⟨rfl,hi5,hf5⟩;have g3':=hf5.cellN HNGB.out (hSx.cellS HG3.out);have HI10:=Lib.hid hi5;have HB10:=Lib.hid ((HB9.out.keep hSx).sv.fr hf5 (fun k hk _=>HB9.out.f3 k (by rw [HGA.out];exact hk)));have HF10:Hid (Fr (L.own w) w w5):=(HF9.out.then_ (hSx.mono (fun k hk=>by cases hk))).trans hf5 (fun k hk=> .inr (HXNk.out k (by rw [←HGA.out] at hk;simp [GrL.own,hk])));have HSL:Hid ((Sv.second G5.S.T lg 1 (G5.learn.set 0 (-x)) 0).1.length=lg):=(by rw [second_len,List.length_set];exact HLG.out);clear hi5 hf5;dsimp only)
        refine hK.out _ _ (.inl rfl) (fun hT9=> ?_)
        clear hK K
        try simp only [Act.put,q5,q6,q7]
        refine R1 (i:=3) (o:= ?oar20u21) (by kernel_rfl) (by rfl) ?_
        intro K hK
        first | (have s3:=hSx.cellS HG3.out;go_simp) |go_simp
        refine hK.out _ _ (.inl rfl) (fun hT10=> ?_)
        clear hK K
        try simp only [Act.put,q5,q6,q7]
        refine R1 (i:=10) (o:= ?oar20u22) (by kernel_rfl) (by rfl) ?_
        intro K hK
        go_simp
        refine hK.out _ _ (.inl rfl) (fun hT11=> ?_)
        clear hK K
        try simp only [Act.put,q5,q6,q7]
        refine R1 (i:=11) (o:= ?oar20u23) (by kernel_rfl) (by rfl) ?_
        intro K hK
        go_simp
        refine hK.out _ _ (.inl rfl) (fun hT12=> ?_)
        clear hK K
        try simp only [Act.put,q5,q6,q7]
        refine wpAnyC_done (by kernel_rfl) ?_ _
        refine NoPanic.normal ?_
        have FF:Hid (LdP S1 l lev L w (.returned (.tuple #[.slice (some ⟨ga,0,none⟩) lg X5.c, .int .i64 (Sv.second G5.S.T lg 1 (G5.learn.set 0 (-x)) 0).2])) w5):=by
         obtain ⟨h5,h6⟩:=HEND.out
         have hz9:w.heap.size≤w9.heap.size:=HF9.out.size
         have e1:(GE.learn.set 0 (-xe)).length=lg:=by rw [←h5,List.length_set];exact HLG.out
         have e2:Sv.second GE.S.T (GE.learn.set 0 (-xe)).length 1 (GE.learn.set 0 (-xe)) 0=Sv.second G5.S.T lg 1 (G5.learn.set 0 (-x)) 0:=by rw [e1,←h5,h6]
         have e3:l.length=lg:=by
          rw [←HL.out,e2]
          exact HSL.out
         refine ⟨some ⟨ga,0,none⟩,X5.c,?_,L2,?_,HE2.out,?_,fun k hk=> ?_,?_⟩
         ·rw [e3,←HLEV.out,e2]
         ·rw [←HS1.out,←h5]
          exact HB10.out
         ·rw [←HL.out,e2]
          exact HI10.out
         ·exact ⟨HXNk.out k (by rw [←HGA.out] at hk;simp [GrL.own,hk]),HB9.out.f3 k (by rw [HGA.out];exact hk)⟩
         ·exact HF10.out
        go_wp2_with fail
        go_ret2
        exact FF.out
       ·have hd:((op-1)==(0:Int))=false:=by simp [hz]
        have HGO:Hid (Sv.learnL f { G5 with opn:=op-1 } (rv-1) x (S.T.lits.take i).reverse=some (GE,xe)):=by
         have :=HRX.out
         rw [Sv.learn2_go (by rw [HV.out];exact HSN.out) (by rw [HOP.out];exact hz),HOP.out,HV.out,HRV.out] at this
         exact this
        have hw4:IntKind.i64.wrap ((i:Int)-1)=(i:Int)-1:=IntWalk.i64_in _ (by omega)
        clear hz
        go_wp2_with fail
        go_roundg f
        case measure=>omega
        case rel=>exact ⟨_,rv-1,x,i,L2,X5,nk,rfl,rfl,rfl,by omega,by omega,by omega,hx3,hx4,HGO.out,HB8.out,HNk.out.opn _,(by have :=HBD5.out;have :=HOP.out;exact ⟨by omega,by simp only;omega,by simp only;omega,by simp only;omega⟩),HXGk.out,HXNk.out,HE2.out,HF8.out⟩
      ·have hdq:decide (v∈G5.seen)=false:=decide_eq_false hsn
       rw [hdq] at hlk
       have HR7:Hid (Sv.learn2 f G5 (S.T.lits.take i).reverse=some (GE,xe)):=by
        have :=HRX.out
        rw [Sv.learn2_skip (by rw [HV.out];exact hsn)] at this
        exact this
       have hw4:IntKind.i64.wrap ((i:Int)-1)=(i:Int)-1:=IntWalk.i64_in _ (by omega)
       clear hsn hdq
       go_wp2_with fail
       refine wp_region_ext (by kernel_rfl) (by kernel_rfl) ?_
       repeat (go_big_quiet_step (exact call_same (KA.out _)))
       refine wpQuiet_nil ?_
       rintro w7 ⟨u2,hu2⟩
       have HF_w7:Hid (Fr [] wr w7):=hu2▸u2.fr
       clear hu2 u2
       clear e0 e1 c0 g1 hlk KA
       go_wp2_with fail
       go_roundg i
       case measure=>omega
       case rel=>exact ⟨by omega,by go_num,HR7.out,HF6.out.then_ HF_w7.out⟩
  ·have hn11:n1= -1:=by omega
   subst hn11
   have HR5:Hid (Sv.learn2 f G1 (S.T.lits.take j).reverse=some (GE,xe)):=by
    have :=HR1.out
    unfold Sv.learn1 at this
    rw [if_neg (by omega)] at this
    exact this
   have HBD5:Hid (nm+1048577*f≤300000000000∧G1.learn.length+1048577*f≤300000000001∧G1.opn+1048577*(f:Int)≤300000000000∧(f:Int)-262144≤G1.opn):=by
    have :=HBD.out
    exact ⟨by omega,by omega,by omega,by omega⟩
   clear HR1 HBD
   go_wp2_with fail
   go_loopg [8] j (fun g3 x8 wt=>g3≤j∧x8= .int .i64 ((g3:Int)-1)∧Hid (Sv.learn2 f G1 (S.T.lits.take g3).reverse=some (GE,xe))∧Hid (Fr [] wr wt))
   case atStart=>exact ⟨Nat.le_refl _,rfl,HR5.out,Fr.refl _ _⟩
   case round=>
    obtain ⟨hg3,rfl,HR6,HF6⟩:=hrel
    obtain ⟨i,hi⟩:∃i,gk=i+1:=⟨gk-1,by
     rcases gk with _ |g
     ·exact absurd HR6.out (by simp [Sv.learn2_nil])
     ·omega⟩
    subst hi
    have hil:i<S.T.lits.length:=by omega
    obtain ⟨hx1,hx2,hx3,hx4,hx5⟩:=HOK.out.set_lit hil
    obtain ⟨x,hx⟩:∃x,S.T.lits[i]! =x:=⟨_,rfl⟩
    rw [hx] at hx1 hx2 hx3 hx4 hx5
    have HX:=Lib.hid hx
    obtain ⟨hmx,hwr⟩:=max_e hx3 hx4 hvl
    obtain ⟨v,hv⟩:∃v,tv x=v:=⟨_,rfl⟩
    rw [hv] at hmx hx1 hx2
    have HV:=Lib.hid hv
    have hci:((i+1:Nat):Int)-1=(i:Int):=by omega
    have HRX:Hid (Sv.learn2 f G1 (x::(S.T.lits.take i).reverse)=some (GE,xe)):=by
     have :=HR6.out
     rw [rev_take hil,HX.out] at this
     exact this
    rw [hci]
    have HB6:=Lib.hid (HB.out.keep HF6.out)
    have c0:=HB6.out.sv.cells.1
    have g1:=HB6.out.obj.cell 1
    simp only [List.getElem?_toArray,List.getElem?_cons_succ,List.getElem?_cons_zero] at g1
    rw [HE.out.1] at c0
    rw [HXG.out] at g1
    have e0:=Ext.cell c0
    have e1:=Ext.cell g1
    have KA:=Lib.hid (fun u:Ext wr=>trail_at u.v L1.tL G1.S.T (HB6.out.sv.tr.fr u.fr (by simp)) (i:Int))
    simp only [HN.out.T,atB_nat hil,HX.out] at KA
    have hlk:∀u:Ext wr,(Instr.lookup 221 (.map (some X1.bm)) (.int .i64 v) false).run Tryz.prog u.v= .ok (.bool (decide (v∈G1.seen))) u.v:=fun u=>(HB6.out.sn.keep u.fr).look ⟨by omega,by omega⟩
    clear HR6 hx hv hci
    by_cases hsn:v∈G1.seen
    ·have hdq:decide (v∈G1.seen)=true:=decide_eq_true hsn
     rw [hdq] at hlk
     have HSN:=Lib.hid hsn
     clear hsn hdq
     go_wp2_with fail
     refine wp_region_ext (by kernel_rfl) (by kernel_rfl) ?_
     repeat (go_big_quiet_step (exact call_same (KA.out _)))
     refine wpQuiet_nil ?_
     rintro w7 ⟨u2,hu2⟩
     have HF_w7:Hid (Fr [] wr w7):=hu2▸u2.fr
     clear hu2 u2
     clear e0 e1 c0 g1 hlk
     have HB7:=Lib.hid (HB6.out.keep HF_w7.out)
     have HF7:Hid (Fr (L.own w) w w7):=HF.out.then_ ((HF6.out.then_ HF_w7.out).mono (fun k hk=>by cases hk))
     clear HF6 HB6 HF_w7 KA
     have c0:=HB7.out.sv.cells.1
     rw [HE.out.1] at c0
     have KA:=Lib.hid (trail_at w7 L1.tL G1.S.T HB7.out.sv.tr (i:Int))
     rw [HN.out.T,atB_nat hil,HX.out] at KA
     have KR:=Lib.hid (trail_reason w7 L1.tL G1.S.T HB7.out.sv.tr v)
     obtain ⟨rv,hrv⟩:∃rv,G1.S.T.reaB v=rv:=⟨_,rfl⟩
     rw [hrv] at KR
     have HRV:=Lib.hid hrv
     have hrs:0≤rv∧rv≤S.list.length:=by
      have :=HN.out.ok.rs v
      rw [hrv,HN.out.len] at this
      exact this
     obtain ⟨hrs1,hrs2⟩:=hrs
     have hw2:IntKind.i64.wrap (rv-1)=rv-1:=IntWalk.i64_in _ (by omega)
     have g2:=HB7.out.obj.cell 2
     have fz:=HB7.out.obj.frozen 2
     simp only [List.getElem?_toArray,List.getElem?_cons_succ,List.getElem?_cons_zero] at g2
     rw [HXG.out] at g2 fz
     obtain ⟨op,hop⟩:∃op,G1.opn=op:=⟨_,rfl⟩
     rw [hop] at g2
     have hob: -262145≤op∧op≤300000000000:=by have :=HBD5.out;omega
     obtain ⟨hob1,hob2⟩:=hob
     have hw3:IntKind.i64.wrap (op-1)=op-1:=IntWalk.i64_in _ (by omega)
     have HOP:=Lib.hid hop
     have HB8:=HB7.out.opn' (op-1)
     rw [HXG.out] at HB8
     have HB8:=Lib.hid HB8
     have HF8:Hid (Fr (L.own w) w (w7.setCell ⟨w.heap.size+1+1,2,none⟩ (.int .i64 (op-1)))):=HF7.out.setCell (.inr (by simp only;omega)) _
     clear hrv hop
     go_wp2_with fail
     refine KA.out.mono ?_
     clear KA
     rintro e w8 ⟨rfl,rfl⟩
     go_wp2_with fail
     refine KR.out.mono ?_
     clear KR
     rintro e w8 ⟨rfl,rfl⟩
     by_cases hz:op-1=0
     ·have hd:((op-1)==(0:Int))=true:=by simp [hz]
      have HEND:Hid (({ G1 with opn:=op-1 }:Sv.Gr)=GE∧x=xe):=by
       have :=HRX.out
       rw [Sv.learn2_end (by rw [HV.out];exact HSN.out) (by rw [HOP.out];exact hz),HOP.out] at this
       show _∧_
       simpa using this
      have HL9:=HN.out.l0
      obtain ⟨ga,hga,hgal⟩:=HB7.out.ln.pos HL9
      have g3:=HB8.out.obj.cell 3
      simp only [List.getElem?_toArray,List.getElem?_cons_succ,List.getElem?_cons_zero] at g3
      rw [HXG.out,hga] at g3
      have ca:=HB8.out.ln
      rw [hga] at ca
      have ca0:=ca.cell HL9
      have fa0:=ca.frozen 0
      have hlg:0<G1.learn.length:=HL9
      have HB9:=Lib.hid (HB8.out.lset hga (-x))
      have HF9:Hid (Fr (L.own w) w ((w7.setCell ⟨w.heap.size+1+1,2,none⟩ (.int .i64 (op-1))).setCell ⟨ga,0,none⟩ (.int .i64 (-x)))):=HF8.out.setCell (.inr (HXN.out ga (by simp [GrL.own,hga,blks]))) _
      have HGA:=Lib.hid hga
      have HLN9:Hid (∀y∈G1.learn.set 0 (-x),-(S.vars:Int)≤y∧y≤S.vars):=fun y hy=>by
       rcases List.mem_or_eq_of_mem_set hy with h5 |h5
       ·exact HN.out.lr y h5
       ·rw [h5];omega
      obtain ⟨lg,hlgn⟩:∃lg,G1.learn.length=lg:=⟨_,rfl⟩
      have HLG:=Lib.hid hlgn
      rw [hlgn] at g3 hlg
      clear hz hga hgal ca HL9 hlgn c0
      go_wp2_with fail
      obtain ⟨w9,hw9⟩:∃w9,(w7.setCell ⟨w.heap.size+1+1,2,none⟩ (.int .i64 (op-1))).setCell ⟨ga,0,none⟩ (.int .i64 (-x))=w9:=⟨_,rfl⟩
      rw [hw9] at HB9 HF9⊢
      have g3:=HB9.out.obj.cell 3
      simp only [List.getElem?_toArray,List.getElem?_cons_succ,List.getElem?_cons_zero] at g3
      rw [HXG.out,HGA.out,List.length_set,HLG.out] at g3
      have HG3:=Lib.hid g3
      have KS:=Lib.hid (fun W (hW:Fr [] w9 W)=>second_calls W L1 G1.S (HB9.out.keep hW).sv m HN.out.ok X1.A X1.c (G1.learn.set 0 (-x)) (HB9.out.keep hW).ln HB9.out.f3 (by rw [HN.out.vars];exact HLN9.out) (by rw [List.length_set];have :=HBD5.out;omega))
      rw [HGA.out,HE.out.1,List.length_set,HLG.out] at KS
      have HNGB:Hid (w.heap.size+1+1∉blks (some (⟨ga,0,none⟩:Addr))):=by
       show ¬_
       intro hk
       have :=(HB9.out.d3 _ (by rw [HGA.out];exact hk)).1
       exact this HXG.out.symm
      clear hw9 ca0 fa0 g2 fz hw2 hw3 HB8 HF8
      clear g3
      refine wp_region_noPanic ?_
      refine wp_region_C (fun w':World=>Fr [] w9 w') 9 (by kernel_rfl) ((Fr.refl [] w9).drew) (fun hT0=> ?_)
      apply TB 8 [(0,[]),(1,[]),(2,[]),(4,[]),(5,[]),(6,[]),(7,[]),(8,[8,9])];kernel_rfl;rfl;· (repeat (apply TBc;rfl;rfl;(· intro w hSw;(try (have hSw:=hSw.resolve_left (List.cons_ne_nil _ _);(have s3:=hSw.cellS HG3.out)));go_simp<;>with_reducible rfl);try simp only [Act.put,q5,q6,q7]));exact TBn
      exact hT0;intro hT0
      have hSx:=hT0.resolve_left (by decide)
      refine wpAnyC_ready (rs:=[3,9]) (by kernel_rfl) (by simp) ?_
      refine ReadyC.cons (o:= ?obr20u15) ?hobr20u15 ?hstepbr20u15 ?_
      case hobr20u15=>rfl
      case hstepbr20u15=>
       intro K hK
       first | (have s3:=hSx.cellS HG3.out;go_simp) |go_simp
       refine hK.out _ _ (.inr ?_) (fun hT9=> ?_)
       ·exact hSx
       clear hK K
       try simp only [Act.put,q5,q6,q7]
       refine R2 9 (by kernel_rfl) (by rfl) hT9 fun K hK hSx=> ?_
       (go_simp;refine (KS.out _ hSx).mono ?_;rintro e w5 ⟨rfl,hi5,hf5⟩;have g3':=hf5.cellN HNGB.out (hSx.cellS HG3.out);have HI10:=Lib.hid hi5;have HB10:=Lib.hid ((HB9.out.keep hSx).sv.fr hf5 (fun k hk _=>HB9.out.f3 k (by rw [HGA.out];exact hk)));have HF10:Hid (Fr (L.own w) w w5):=(HF9.out.then_ (hSx.mono (fun k hk=>by cases hk))).trans hf5 (fun k hk=> .inr (HXN.out k (by rw [←HGA.out] at hk;simp [GrL.own,hk])));have HSL:Hid ((Sv.second G1.S.T lg 1 (G1.learn.set 0 (-x)) 0).1.length=lg):=(by rw [second_len,List.length_set];exact HLG.out);clear hi5 hf5;dsimp only)
       refine hK.out _ _ (.inl rfl) (fun hT10=> ?_)
       clear hK K
       try simp only [Act.put,q5,q6,q7]
       refine R1 (i:=10) (o:= ?obr20u17) (by kernel_rfl) (by rfl) ?_
       intro K hK
       go_simp
       refine hK.out _ _ (.inl rfl) (fun hT11=> ?_)
       clear hK K
       try simp only [Act.put,q5,q6,q7]
       refine R1 (i:=11) (o:= ?obr20u18) (by kernel_rfl) (by rfl) ?_
       intro K hK
       go_simp
       refine hK.out _ _ (.inl rfl) (fun hT12=> ?_)
       clear hK K
       try simp only [Act.put,q5,q6,q7]
       refine wpAnyC_done (by kernel_rfl) ?_ _
       refine NoPanic.normal ?_
       have FF:Hid (LdP S1 l lev L w (.returned (.tuple #[.slice (some ⟨ga,0,none⟩) lg X1.c, .int .i64 (Sv.second G1.S.T lg 1 (G1.learn.set 0 (-x)) 0).2])) w5):=by
        obtain ⟨h5,h6⟩:=HEND.out
        have hz9:w.heap.size≤w9.heap.size:=HF9.out.size
        have e1:(GE.learn.set 0 (-xe)).length=lg:=by rw [←h5,List.length_set];exact HLG.out
        have e2:Sv.second GE.S.T (GE.learn.set 0 (-xe)).length 1 (GE.learn.set 0 (-xe)) 0=Sv.second G1.S.T lg 1 (G1.learn.set 0 (-x)) 0:=by rw [e1,←h5,h6]
        have e3:l.length=lg:=by
         rw [←HL.out,e2]
         exact HSL.out
        refine ⟨some ⟨ga,0,none⟩,X1.c,?_,L1,?_,HE.out,?_,fun k hk=> ?_,?_⟩
        ·rw [e3,←HLEV.out,e2]
        ·rw [←HS1.out,←h5]
         exact HB10.out
        ·rw [←HL.out,e2]
         exact HI10.out
        ·exact ⟨HXN.out k (by rw [←HGA.out] at hk;simp [GrL.own,hk]),HB9.out.f3 k (by rw [HGA.out];exact hk)⟩
        ·exact HF10.out
       go_wp2_with fail
       go_ret2
       exact FF.out
      refine ReadyC.cons (o:= ?obr20u19) ?hobr20u19 ?hstepbr20u19 ReadyC.nil
      case hobr20u19=>rfl
      intro K hK
      (go_simp;refine (KS.out _ hSx).mono ?_;rintro e w5 ⟨rfl,hi5,hf5⟩;have g3':=hf5.cellN HNGB.out (hSx.cellS HG3.out);have HI10:=Lib.hid hi5;have HB10:=Lib.hid ((HB9.out.keep hSx).sv.fr hf5 (fun k hk _=>HB9.out.f3 k (by rw [HGA.out];exact hk)));have HF10:Hid (Fr (L.own w) w w5):=(HF9.out.then_ (hSx.mono (fun k hk=>by cases hk))).trans hf5 (fun k hk=> .inr (HXN.out k (by rw [←HGA.out] at hk;simp [GrL.own,hk])));have HSL:Hid ((Sv.second G1.S.T lg 1 (G1.learn.set 0 (-x)) 0).1.length=lg):=(by rw [second_len,List.length_set];exact HLG.out);clear hi5 hf5;dsimp only)
      refine hK.out _ _ (.inl rfl) (fun hT9=> ?_)
      clear hK K
      try simp only [Act.put,q5,q6,q7]
      refine R1 (i:=3) (o:= ?obr20u21) (by kernel_rfl) (by rfl) ?_
      intro K hK
      first | (have s3:=hSx.cellS HG3.out;go_simp) |go_simp
      refine hK.out _ _ (.inl rfl) (fun hT10=> ?_)
      clear hK K
      try simp only [Act.put,q5,q6,q7]
      refine R1 (i:=10) (o:= ?obr20u22) (by kernel_rfl) (by rfl) ?_
      intro K hK
      go_simp
      refine hK.out _ _ (.inl rfl) (fun hT11=> ?_)
      clear hK K
      try simp only [Act.put,q5,q6,q7]
      refine R1 (i:=11) (o:= ?obr20u23) (by kernel_rfl) (by rfl) ?_
      intro K hK
      go_simp
      refine hK.out _ _ (.inl rfl) (fun hT12=> ?_)
      clear hK K
      try simp only [Act.put,q5,q6,q7]
      refine wpAnyC_done (by kernel_rfl) ?_ _
      refine NoPanic.normal ?_
      have FF:Hid (LdP S1 l lev L w (.returned (.tuple #[.slice (some ⟨ga,0,none⟩) lg X1.c, .int .i64 (Sv.second G1.S.T lg 1 (G1.learn.set 0 (-x)) 0).2])) w5):=by
       obtain ⟨h5,h6⟩:=HEND.out
       have hz9:w.heap.size≤w9.heap.size:=HF9.out.size
       have e1:(GE.learn.set 0 (-xe)).length=lg:=by rw [←h5,List.length_set];exact HLG.out
       have e2:Sv.second GE.S.T (GE.learn.set 0 (-xe)).length 1 (GE.learn.set 0 (-xe)) 0=Sv.second G1.S.T lg 1 (G1.learn.set 0 (-x)) 0:=by rw [e1,←h5,h6]
       have e3:l.length=lg:=by
        rw [←HL.out,e2]
        exact HSL.out
       refine ⟨some ⟨ga,0,none⟩,X1.c,?_,L1,?_,HE.out,?_,fun k hk=> ?_,?_⟩
       ·rw [e3,←HLEV.out,e2]
       ·rw [←HS1.out,←h5]
        exact HB10.out
       ·rw [←HL.out,e2]
        exact HI10.out
       ·exact ⟨HXN.out k (by rw [←HGA.out] at hk;simp [GrL.own,hk]),HB9.out.f3 k (by rw [HGA.out];exact hk)⟩
       ·exact HF10.out
      go_wp2_with fail
      go_ret2
      exact FF.out
     ·have hd:((op-1)==(0:Int))=false:=by simp [hz]
      have HGO:Hid (Sv.learnL f { G1 with opn:=op-1 } (rv-1) x (S.T.lits.take i).reverse=some (GE,xe)):=by
       have :=HRX.out
       rw [Sv.learn2_go (by rw [HV.out];exact HSN.out) (by rw [HOP.out];exact hz),HOP.out,HV.out,HRV.out] at this
       exact this
      have hw4:IntKind.i64.wrap ((i:Int)-1)=(i:Int)-1:=IntWalk.i64_in _ (by omega)
      clear hz
      go_wp2_with fail
      go_roundg f
      case measure=>omega
      case rel=>exact ⟨_,rv-1,x,i,L1,X1,nm,rfl,rfl,rfl,by omega,by omega,by omega,hx3,hx4,HGO.out,HB8.out,HN.out.opn _,(by have :=HBD5.out;have :=HOP.out;exact ⟨by omega,by simp only;omega,by simp only;omega,by simp only;omega⟩),HXG.out,HXN.out,HE.out,HF8.out⟩
    ·have hdq:decide (v∈G1.seen)=false:=decide_eq_false hsn
     rw [hdq] at hlk
     have HR7:Hid (Sv.learn2 f G1 (S.T.lits.take i).reverse=some (GE,xe)):=by
      have :=HRX.out
      rw [Sv.learn2_skip (by rw [HV.out];exact hsn)] at this
      exact this
     have hw4:IntKind.i64.wrap ((i:Int)-1)=(i:Int)-1:=IntWalk.i64_in _ (by omega)
     clear hsn hdq
     go_wp2_with fail
     refine wp_region_ext (by kernel_rfl) (by kernel_rfl) ?_
     repeat (go_big_quiet_step (exact call_same (KA.out _)))
     refine wpQuiet_nil ?_
     rintro w7 ⟨u2,hu2⟩
     have HF_w7:Hid (Fr [] wr w7):=hu2▸u2.fr
     clear hu2 u2
     clear e0 e1 c0 g1 hlk KA
     go_wp2_with fail
     go_roundg i
     case measure=>omega
     case rel=>exact ⟨by omega,by go_num,HR7.out,HF6.out.then_ HF_w7.out⟩
namespace Sv
structure Lrn (S:Sv) (G:Gr):Prop where
 nd:G.seen.Nodup
 sn:∀v∈G.seen,1≤v∧v≤S.vars
 ln:G.learn.length≤G.seen.length+1
 lt:∀x∈G.learn.tail,x≠0
theorem lev_pos {S:Sv} {m:Nat} (ok:S.Ok m) {v:Int} (h:¬S.T.levB v≤0):1≤v∧v≤S.vars:=by
 obtain ⟨R,hR⟩:=ok.tr
 unfold Tr.levB at h
 split at h
 ·rename_i hb
  have :=Tr.isB_true hb
  rw [hR.size] at this
  omega
 ·omega
theorem lev_le {S:Sv} {m:Nat} (ok:S.Ok m) (v:Int): -1≤S.T.levB v∧S.T.levB v≤S.T.levels.length:=by
 obtain ⟨R,hR⟩:=ok.tr
 rw [hR.levB]
 cases hk:look R v with
 |none=>simp only;omega
 |some e=>
  have :=hR.bound e (look_some hk).1
  simp only
  omega
theorem tv_pos {l:Int} (h:1≤tv l):l≠0:=by
 rintro rfl
 rw [tv_nat (by omega)] at h
 omega
theorem tail_app {l:List Int} {x:Int} (h:0<l.length):(l++[x]).tail=l.tail++[x]:=by
 cases l with
 |nil=>simp at h
 |cons y r=>rfl
theorem Lrn.meet {S:Sv} {m:Nat} {G:Gr} (h:Lrn S G) (hn:Near S m G) (l:Int):Lrn S (meet G l):=by
 by_cases h1:tv l∈G.seen∨G.S.T.levB (tv l)≤0
 ·rw [meet_no h1];exact h
 ·have hns:tv l∉G.seen:=fun e=>h1 (.inl e)
  have hv:=lev_pos hn.ok (v:=tv l) (fun e=>h1 (.inr e))
  rw [hn.vars] at hv
  have hnd:(tv l::G.seen).Nodup:=List.nodup_cons.2 ⟨hns,h.nd⟩
  have hsn:∀v∈tv l::G.seen,1≤v∧v≤S.vars:=fun v hm=>by
   rcases List.mem_cons.1 hm with rfl |hm
   ·exact hv
   ·exact h.sn v hm
  have hln:=h.ln
  by_cases h2:G.S.T.levB (tv l)=G.S.T.levels.length
  ·rw [meet_open h1 h2]
   exact ⟨hnd,hsn,by show G.learn.length≤(tv l::G.seen).length+1;simp;omega,h.lt⟩
  ·rw [meet_low h1 h2]
   refine ⟨hnd,hsn,by show (G.learn++[l]).length≤(tv l::G.seen).length+1;simp;omega,?_⟩
   show ∀x∈(G.learn++[l]).tail,x≠0
   rw [tail_app hn.l0]
   intro x hx
   rcases List.mem_append.1 hx with hx |hx
   ·exact h.lt x hx
   ·simp at hx
    rw [hx]
    exact tv_pos hv.1
theorem meets_lrn {S:Sv} {m:Nat} (skip:Int):∀(ls:List Int) (G:Gr),(∀x∈ls,-(S.vars:Int)≤x∧x≤S.vars)→Lrn S G→Near S m G→Lrn S (meets skip ls G)∧Near S m (meets skip ls G)
 |[],G,hl,h1,h2=>⟨h1,h2⟩
 |l::r,G,hl,h1,h2=>by
  rw [meets]
  split
  ·exact meets_lrn skip r _ (fun x hx=>hl x (List.mem_cons_of_mem _ hx)) (h1.meet h2 l) (h2.meet (hl l (by simp)))
  ·exact meets_lrn skip r _ (fun x hx=>hl x (List.mem_cons_of_mem _ hx)) h1 h2
theorem learn1_lrn {S:Sv} {m:Nat} {G:Gr} (n skip:Int) (h1:Lrn S G) (h2:Near S m G):Lrn S (learn1 G n skip)∧Near S m (learn1 G n skip):=by
 unfold learn1
 split
 ·refine meets_lrn skip _ _ (fun x hx=> ?_) ⟨h1.nd,h1.sn,h1.ln,h1.lt⟩ (h2.acted n.toNat)
  have :=h2.ok.lr n.toNat x hx
  rw [h2.vars] at this
  exact this.2
 ·exact ⟨h1,h2⟩
theorem learnL_lrn {S:Sv} {m:Nat}:∀(f:Nat) (G:Gr) (n skip:Int) (rest:List Int) (GE:Gr) (xe:Int),learnL f G n skip rest=some (GE,xe)→Lrn S G→Near S m G→Lrn S GE∧Near S m GE∧xe∈rest
 |0,G,n,skip,rest,GE,xe,h,_,_=>by rw [learnL_zero] at h;cases h
 |f+1,G,n,skip,rest,GE,xe,h,h1,h2=>by
  rw [learnL_eq] at h
  obtain ⟨k1,k2⟩:=learn1_lrn n skip h1 h2
  generalize learn1 G n skip=G1 at h k1 k2
  unfold learn2 at h
  have hd:=List.dropWhile_sublist (fun x=>decide (tv x∉G1.seen)) (l:=rest)
  cases hq:rest.dropWhile (fun x=>decide (tv x∉G1.seen)) with
  |nil=>rw [hq] at h;cases h
  |cons x r=>
   rw [hq] at h hd
   simp only at h
   split at h
   ·simp only [Option.some.injEq,Prod.mk.injEq] at h
    obtain ⟨rfl,rfl⟩:=h
    exact ⟨⟨k1.nd,k1.sn,k1.ln,k1.lt⟩,k2.opn _,hd.subset (by simp)⟩
   ·obtain ⟨g1,g2,g3⟩:=learnL_lrn f _ _ _ _ GE xe h ⟨k1.nd,k1.sn,k1.ln,k1.lt⟩ (k2.opn _)
    exact ⟨g1,g2,hd.subset (List.mem_cons_of_mem _ g3)⟩
theorem second_lev {T:Tr} {D:Int} (hD:∀v,T.levB v≤D):∀(f k:Nat) (l:List Int) (lev:Int),lev≤(second T f k l lev).2∧(second T f k l lev).2≤max lev D
 |0,k,l,lev=>⟨Int.le_refl _,by show lev≤_;omega⟩
 |f+1,k,l,lev=>by
  rw [second]
  split
  ·split
   ·rename_i h1 h2
    have :=second_lev hD f (k+1) (swp2 l 1 k) (T.levB (tv l[k]!))
    have :=hD (tv l[k]!)
    omega
   ·exact second_lev hD f (k+1) l lev
  ·exact ⟨Int.le_refl _,by show lev≤_;omega⟩
theorem second_mem {T:Tr}:∀(f k:Nat) (l:List Int) (lev:Int),1≤k→∀x∈(second T f k l lev).1,x∈l
 |0,k,l,lev,_,x,hx=>hx
 |f+1,k,l,lev,h,x,hx=>by
  rw [second] at hx
  split at hx
  ·split at hx
   ·exact swp2_mem (by omega) (by omega) (second_mem f (k+1) _ _ (by omega) x hx)
   ·exact second_mem f (k+1) l lev (by omega) x hx
  ·exact hx
theorem seen_len {S:Sv} {G:Gr} (h:Lrn S G):G.seen.length≤S.vars+1:=by
 have hn:(G.seen.map Int.toNat).Nodup:=by
  unfold List.Nodup
  rw [List.pairwise_map]
  refine List.Pairwise.imp_of_mem ?_ h.nd
  intro a b ha hb hne e
  have :=h.sn a ha
  have :=h.sn b hb
  omega
 have :=nodup_lt_len (S.vars+1) _ hn (fun x hx=>by
  rw [List.mem_map] at hx
  obtain ⟨y,hy,rfl⟩:=hx
  have :=h.sn y hy
  omega)
 simpa using this
theorem learned_fit {S:Sv} {m:Nat} (ok:S.Ok m) {n:Nat} {S1:Sv} {l:List Int} {lev:Int} (h:S.learned n=some (S1,l,lev)):
  S1.Ok m∧S1.T=S.T∧S1.vars=S.vars∧S1.list.length=S.list.length∧S1.used=S.used∧0<l.length∧l.length≤1048576∧(∀x∈l,x≠0∧ -(S.vars:Int)≤x∧x≤S.vars)∧0≤lev∧lev≤S.T.levels.length:=by
 have hvl:=ok.vl
 unfold learned at h
 cases hq:learnL (S.T.lits.length+1) ⟨S,[],0,[0]⟩ n 0 S.T.lits.reverse with
 |none=>rw [hq] at h;cases h
 |some q=>
  obtain ⟨G,x⟩:=q
  rw [hq] at h
  simp only [Option.some.injEq,Prod.mk.injEq] at h
  obtain ⟨rfl,rfl,rfl⟩:=h
  obtain ⟨g1,g2,g3⟩:=learnL_lrn (S:=S) (m:=m) _ _ _ _ _ G x hq ⟨by simp,fun v hv=>by simp at hv,by simp,fun v hv=>by simp at hv⟩ ⟨rfl,rfl,rfl,rfl,ok,fun x hx=>by simp at hx;subst hx;omega,by simp⟩
  have hl:=g1.ln
  have hs:=seen_len g1
  have h0:=g2.l0
  have hxb:x≠0∧ -(S.vars:Int)≤x∧x≤S.vars:=by
   rw [List.mem_reverse] at g3
   obtain ⟨i,hi,e⟩:=List.getElem_of_mem g3
   have :=ok.set_lit hi
   simp only [List.getElem!_eq_getElem?_getD,List.getElem?_eq_getElem hi,Option.getD_some,e] at this
   exact ⟨this.2.2.2.2,this.2.2.1,this.2.2.2.1⟩
  refine ⟨g2.ok,g2.T,g2.vars,g2.len,g2.used,by rw [second_len,List.length_set];exact h0,by rw [second_len,List.length_set];omega,fun y hy=> ?_,?_,?_⟩
  ·have hy:=second_mem _ _ _ _ (Nat.le_refl 1) y hy
   cases hg:G.learn with
   |nil=>rw [hg] at h0;simp at h0
   |cons z r=>
    rw [hg] at hy
    simp only [List.set_cons_zero,List.mem_cons] at hy
    rcases hy with rfl |hy
    ·omega
    ·exact ⟨g1.lt y (by rw [hg];exact hy),g2.lr y (by rw [hg];exact List.mem_cons_of_mem _ hy)⟩
  ·exact (second_lev (T:=G.S.T) (D:=G.S.T.levels.length) (fun v=>(lev_le g2.ok v).2) _ _ _ _).1
  ·have :=(second_lev (T:=G.S.T) (D:=G.S.T.levels.length) (fun v=>(lev_le g2.ok v).2) (G.learn.set 0 (-x)).length 1 (G.learn.set 0 (-x)) 0).2
   rw [g2.T] at this⊢
   omega
theorem meet_rest (G:Gr) (l:Int):(meet G l).S.bump=G.S.bump∧(meet G l).S.many=G.S.many:=by
 by_cases h:tv l∈G.seen∨G.S.T.levB (tv l)≤0
 ·rw [meet_no h];exact ⟨rfl,rfl⟩
 ·by_cases h2:G.S.T.levB (tv l)=G.S.T.levels.length
  ·rw [meet_open h h2];exact ⟨rfl,rfl⟩
  ·rw [meet_low h h2];exact ⟨rfl,rfl⟩
theorem meets_rest (skip:Int):∀(ls:List Int) (G:Gr),(meets skip ls G).S.bump=G.S.bump∧(meets skip ls G).S.many=G.S.many
 |[],G=>⟨rfl,rfl⟩
 |l::r,G=>by
  rw [meets]
  split
  ·have h1:=meets_rest skip r (meet G l)
   have h2:=meet_rest G l
   exact ⟨h1.1.trans h2.1,h1.2.trans h2.2⟩
  ·exact meets_rest skip r G
theorem learn1_rest (G:Gr) (n skip:Int):(learn1 G n skip).S.bump=G.S.bump∧(learn1 G n skip).S.many=G.S.many:=by
 unfold learn1
 split
 ·exact meets_rest skip _ _
 ·exact ⟨rfl,rfl⟩
theorem learnL_rest:∀(f:Nat) (G:Gr) (n skip:Int) (rest:List Int) (GE:Gr) (xe:Int),learnL f G n skip rest=some (GE,xe)→GE.S.bump=G.S.bump∧GE.S.many=G.S.many
 |0,G,n,skip,rest,GE,xe,h=>by rw [learnL_zero] at h;cases h
 |f+1,G,n,skip,rest,GE,xe,h=>by
  rw [learnL_eq] at h
  have hk:=learn1_rest G n skip
  generalize learn1 G n skip=G1 at h hk
  unfold learn2 at h
  cases hq:rest.dropWhile (fun x=>decide (tv x∉G1.seen)) with
  |nil=>rw [hq] at h;cases h
  |cons x r=>
   rw [hq] at h
   simp only at h
   split at h
   ·simp only [Option.some.injEq,Prod.mk.injEq] at h
    obtain ⟨rfl,rfl⟩:=h
    exact hk
   ·have :=learnL_rest f _ _ _ _ GE xe h
    exact ⟨this.1.trans hk.1,this.2.trans hk.2⟩
theorem learned_rest {S:Sv} {n:Nat} {S1:Sv} {l:List Int} {lev:Int} (h:S.learned n=some (S1,l,lev)):S1.bump=S.bump∧S1.many=S.many:=by
 unfold learned at h
 cases hq:learnL (S.T.lits.length+1) ⟨S,[],0,[0]⟩ n 0 S.T.lits.reverse with
 |none=>rw [hq] at h;cases h
 |some q=>
  obtain ⟨G,x⟩:=q
  rw [hq] at h
  simp only [Option.some.injEq,Prod.mk.injEq] at h
  obtain ⟨rfl,-,-⟩:=h
  exact learnL_rest _ _ _ _ _ G x hq
theorem back_rest (S:Sv) (level:Nat):(S.back level).bump=S.bump∧(S.back level).many=S.many∧(S.back level).used=S.used:=by
 have h:=back_more S level
 exact ⟨h.2.2.2.2.2.2,h.2.2.1,h.2.1⟩
theorem Ok.bumped {S:Sv} {m:Nat} (ok:S.Ok m):S.bumped.Ok m:=⟨ok.vl,ok.tr,ok.hi,ok.hl,ok.ph,ok.wl,ok.ll,ok.wb,ok.wt,ok.lr,ok.ln,ok.lb,ok.hd,ok.rs⟩
theorem Ok.setmany {S:Sv} {m:Nat} (ok:S.Ok m) (x:Int):({ S with many:=x }:Sv).Ok m:=⟨ok.vl,ok.tr,ok.hi,ok.hl,ok.ph,ok.wl,ok.ll,ok.wb,ok.wt,ok.lr,ok.ln,ok.lb,ok.hd,ok.rs⟩
theorem Ok.setbad {S:Sv} {m:Nat} (ok:S.Ok m) (x:Bool):({ S with bad:=x }:Sv).Ok m:=⟨ok.vl,ok.tr,ok.hi,ok.hl,ok.ph,ok.wl,ok.ll,ok.wb,ok.wt,ok.lr,ok.ln,ok.lb,ok.hd,ok.rs⟩
theorem Ok.learnt {S:Sv} {m:Nat} (ok:S.Ok m) {l:List Int} (h0:0<l.length) (h1:l.length≤1048576) (hl:∀x∈l,x≠0∧ -(S.vars:Int)≤x∧x≤S.vars) (hr:S.list.length<2199023255552):(S.learnt l).Ok m:=by
 unfold Sv.learnt
 split
 ·exact ok.put ⟨by omega,by omega⟩
 ·rename_i h2
  have hf:S.Fits l:=⟨by omega,h1,hl⟩
  have h3:=ok.attach hf true hr
  have h4:=attach_same S l true
  exact (h3.put (x:=l[0]!) (r:=(S.list.length:Int)+1) ⟨by omega,by rw [h4.2.2.1];omega⟩).setmany _
end Sv
theorem SvL.ext_in {L L' M:SvL} {A:Option Addr} {w w':World} (h:L.ext M w) (ha:L'.a=M.a) (hi:L'.id=M.id) (hk:∀k,k<w'.heap.size→(L'.lab k).1=M.id→(M.lab k).1=M.id∨k∈blks A) (hz:w.heap.size≤w'.heap.size) (hA:∀k,k∈blks A→w.heap.size≤k):L.ext L' w:=
 ⟨ha.trans h.1,hi.trans h.2.1,fun k hl e=>by
  rcases hk k (Nat.lt_of_lt_of_le hl hz) (e.trans h.2.1.symm) with h1 |h1
  ·exact h.2.2 k hl (h1.trans h.2.1)
  ·have :=hA k h1
   omega⟩
theorem SvL.own_in {L M:SvL} {A:Option Addr} {w w' w'':World} (h:L.ext M w) (h1:Fr (L.own w) w w') (h2:Fr (blks A++M.own w') w' w'') (hA:∀k,k∈blks A→w.heap.size≤k):Fr (L.own w) w w'':=
 h1.trans h2 fun x hx=>by
  rcases List.mem_append.1 hx with hx |hx
  ·exact .inr (hA x hx)
  ·rw [SvL.mem_own] at hx
   rcases Nat.lt_or_ge x w.heap.size with hl |hl
   ·left
    rw [SvL.mem_own]
    exact ⟨hl,h.2.2 x hl (hx.2.trans h.2.1)⟩
   ·exact .inr hl
theorem tdiv_nat (b:Nat):((b:Int).tdiv 16)=((b/16:Nat):Int):=by
 rw [Int.tdiv_eq_ediv_of_nonneg (by omega)]
 rfl
set_option maxRecDepth 100000 in
set_option maxHeartbeats 16000000 in
theorem conflict_calls (w:World) (L:SvL) (S:Sv) (h:SvAt w L S) (m:Nat) (ok:S.Ok m) (n:Nat) (hn:n<S.list.length) (hll:S.list.length<2199023255552) (hu:S.used≤2199023255552) (hbu:S.bump≤1073741824) (hma:S.many<4611686018427387904) (hmb: -4611686018427387904<S.many) (hdl:S.T.levels.length≤8796093022208) (S':Sv) (b:Bool) (hres:S.conflict n=some (S',b)):
  Calls Tryz.prog 138 #[.pointer (some ⟨L.a,0,none⟩), .int .i64 n] w (SvP (.bool b) S' L w):=by
 have HH:=Lib.hid h
 have HOK:=Lib.hid ok
 obtain ⟨c0,-⟩:=h.cells
 have KD:=Lib.hid (trail_depth w L.tL S.T h.tr)
 unfold Sv.conflict at hres
 by_cases hz:S.T.levels.length=0
 ·rw [if_pos hz] at hres
  simp only [Option.some.injEq,Prod.mk.injEq] at hres
  obtain ⟨rfl,rfl⟩:=hres
  rw [hz] at KD
  have hfz:=h.obj.frozen 13
  have c13:=h.cells.2.2.2.2.2.2.2.2.2.2.2.2.2.1
  obtain ⟨g1,g2⟩:=h.setc 13 (.bool true) { S with bad:=true } (by simp [scs]) ⟨rfl,rfl,rfl,rfl,rfl,rfl,rfl⟩
  have FF:Hid (SvP (.bool false) { S with bad:=true } L w (.returned (.bool false)) (w.setCell ⟨L.a,13,none⟩ (.bool true))):=⟨rfl,L,g1,SvL.ext_refl _ _,g2⟩
  clear h ok g1 g2 hz
  go_enter Tryz.func138,Tryz.ntmps138
  go_wp2_with fail
  refine KD.out.mono ?_
  rintro e w1 ⟨rfl,rfl⟩
  clear KD
  go_wp2_with fail
  go_ret
  exact FF.out
 ·rw [if_neg hz] at hres
  have hd:((S.T.levels.length:Int)==(0:Int))=false:=by rw [beq_eq_false_iff_ne];omega
  cases hq:S.learned n with
  |none=>rw [hq] at hres;cases hres
  |some q=>
   obtain ⟨S1,l,lev⟩:=q
   rw [hq] at hres
   simp only [Option.some.injEq,Prod.mk.injEq] at hres
   obtain ⟨rfl,rfl⟩:=hres
   have KLD:=Lib.hid (learned_calls w L S h m ok n hn S1 l lev hq)
   obtain ⟨ok1,eT,eV,eL,eU,l0,l1,lr,lev0,lev1⟩:=Sv.learned_fit ok hq
   obtain ⟨lv,rfl⟩:∃lv:Nat,lev=lv:=⟨lev.toNat,by omega⟩
   have hlv:lv≤8796093022208:=by omega
   have HOK1:=Lib.hid ok1
   have HLR:=Lib.hid lr
   have hvl:=ok.vl
   obtain ⟨ok2,eV2,eL2⟩:=ok1.back lv
   have HOK2:=Lib.hid ok2
   obtain ⟨S2,hS2⟩:∃S2,S1.back lv=S2:=⟨_,rfl⟩
   have hx:=Sv.back_rest S1 lv
   rw [hS2] at ok2 eV2 eL2 HOK2 hx
   have HS2:=Lib.hid hS2
   have hb2:S2.bump=S.bump∧S2.many=S.many∧S2.used=S.used:=⟨hx.1.trans (Sv.learned_rest hq).1,hx.2.1.trans (Sv.learned_rest hq).2,hx.2.2.trans eU⟩
   obtain ⟨hbump,hmany,hused⟩:=hb2
   have hlen2:S2.list.length=S.list.length:=by rw [eL2];exact eL
   have hvar2:S2.vars=S.vars:=eV2.trans eV
   have HV2:=Lib.hid hvar2
   have HLEN2:=Lib.hid hlen2
   have HUS:=Lib.hid hused
   have HLL:=Lib.hid hll
   have HU:=Lib.hid hu
   have HRES:Hid (((S1.back ((lv:Int).toNat)).learnt l).bumped=(S2.learnt l).bumped):=by
    show _=_
    rw [Int.toNat_natCast,hS2]
   rw [HRES.out]
   clear h ok hz hq ok1 lr ok2 hS2 eT eV eL eU eV2 eL2 hx hn hlen2 hvar2 hused hll hu lev0 lev1
   go_enter Tryz.func138,Tryz.ntmps138
   go_wp2_with fail
   refine KD.out.mono ?_
   rintro e w1 ⟨rfl,rfl⟩
   clear KD c0
   go_wp2_with fail
   refine KLD.out.mono ?_
   clear KLD hd
   rintro e w1 ⟨A,c,rfl,L1,h1,he1,hi1,hA1,hf1⟩
   have H1:=Lib.hid h1
   have HE1:=Lib.hid he1
   have HI1:=Lib.hid hi1
   have HA1:=Lib.hid hA1
   have HF1:=Lib.hid hf1
   clear h1 he1 hi1 hA1 hf1
   have KB:=Lib.hid (back_calls w1 L1 S1 H1.out m HOK1.out lv (by omega))
   rw [HE1.out.1,HS2.out] at KB
   go_wp2_with fail
   refine KB.out.mono ?_
   clear KB
   rintro e w2 ⟨rfl,L2,h2,he2,hf2⟩
   have H2:=Lib.hid h2
   have HE2:=Lib.hid (SvL.ext_trans HE1.out he2 HF1.out.size)
   have HF2:=Lib.hid (SvL.own_then HE1.out HF1.out hf2)
   have HI2:Hid (Ints w2 A c l):=HI1.out.fr hf2 (fun k hk hm=>(HA1.out k hk).2 (SvL.mem_own.1 hm).2)
   have HA2:Hid (∀k,k∈blks A→w.heap.size≤k∧(L2.lab k).1≠L2.id):=fun k hk=>⟨(HA1.out k hk).1,fun e=>(HA1.out k hk).2 (he2.2.2 k (HI1.out.lt k hk) (e.trans he2.2.1))⟩
   clear h2 he2 hf2 HI1 HA1 H1 HE1 HF1 HOK1
   obtain ⟨ga,hga,hgl⟩:=HI2.out.pos l0
   subst hga
   have s0:=H2.out.cells.1
   rw [HE2.out.1] at s0
   have s1:=HI2.out.cell l0
   obtain ⟨y,hy⟩:∃y,l[0]! =y:=⟨_,rfl⟩
   rw [hy] at s1
   have hyb:=HLR.out y (by rw [←hy];exact get_mem l0)
   obtain ⟨hy0,hy1,hy2⟩:=hyb
   have HY:=Lib.hid hy
   have HC0:=Lib.hid s0
   have HC1:=Lib.hid s1
   clear hgl hy s0 s1
   by_cases hl1:l.length=1
   ·have hd1:((l.length:Int)==(1:Int))=true:=by simp [hl1]
    have HLE:Hid (S2.learnt l=S2.put y 0):=by
     show _=_
     unfold Sv.learnt
     rw [if_pos hl1,HY.out]
    have KP:=Lib.hid (fun W (hW:Fr [] w2 W)=>put_calls W L2 S2 (H2.out.keep hW) m HOK2.out y 0 (by rw [HV2.out];exact hy1) (by rw [HV2.out];exact hy2))
    go_wp2_with fail
    go_upto_region 7 with fail
    refine wp_region_noPanic ?_
    refine wp_region_C (fun w':World=>Fr [] w2 w') 7 (by kernel_rfl) ((Fr.refl [] w2).drew) (fun hT0=> ?_)
    apply TB 7 [(0,[]),(1,[]),(2,[]),(3,[3,7]),(4,[]),(5,[]),(6,[6,7])];kernel_rfl;rfl;· (repeat (apply TBc;rfl;rfl;(· intro w hSw;(try (have hSw:=hSw.resolve_left (List.cons_ne_nil _ _);(have s0:=hSw.cellS HC0.out;have s1:=hSw.cellS HC1.out)));go_simp<;>with_reducible rfl);try simp only [Act.put,q5,q6,q7]));exact TBn
    exact hT0;intro hT0
    refine R2 7 (by kernel_rfl) (by rfl) hT0 fun K hK hSx=> ?_
    (go_simp;refine (KP.out _ hSx).mono ?_;rintro e w5 ⟨⟨x5,rfl⟩,L5,h5,he5,hf5⟩;dsimp only)
    refine hK.out _ _ (.inl rfl) (fun hT8=> ?_)
    clear hK K
    try simp only [Act.put,q5,q6,q7]
    refine wpAnyC_done (by kernel_rfl) ?_ _
    refine NoPanic.normal ?_
    clear KP
    have HE5:Hid (L.ext L5 w):=SvL.ext_trans HE2.out he5 (Nat.le_trans HF2.out.size hSx.size)
    have HF5:Hid (Fr (L.own w) w w5):=SvL.own_then HE2.out (HF2.out.then_ (hSx.mono (fun k hk=>by cases hk))) hf5
    have H5:=Lib.hid h5
    clear h5 he5 hf5
    obtain ⟨S6,hS6⟩:∃S6,S2.put y 0=S6:=⟨_,rfl⟩
    rw [hS6] at H5
    have HS6:Hid (S6=S2.learnt l):=by rw [HLE.out];exact hS6.symm
    have hb6:S6.bump=S2.bump:=by rw [←hS6];rfl
    have H6:=H5
    have HF6:=HF5
    clear hS6
    go_wp2_with fail
    obtain ⟨-,-,-,-,-,-,-,-,-,-,b10,-⟩:=H6.out.cells
    rw [HE5.out.1] at b10
    have f10:=H6.out.obj.frozen 10
    rw [HE5.out.1] at f10
    have hbu6:S6.bump=S.bump:=hb6.trans hbump
    rw [hbu6] at b10
    obtain ⟨bb,hbb⟩:∃bb,S.bump=bb:=⟨_,rfl⟩
    rw [hbb] at b10 hbu
    have HBB:=Lib.hid (hbu6.trans hbb)
    have hq1:=tdiv_nat bb
    have hw7:IntKind.i64.wrap ((bb:Int)+((bb/16:Nat):Int))=(bb:Int)+((bb/16:Nat):Int):=IntWalk.i64_in _ (by omega)
    have hw8:IntKind.i64.wrap ((bb:Int)+((bb/16:Nat):Int)+1)=(bb:Int)+((bb/16:Nat):Int)+1:=IntWalk.i64_in _ (by omega)
    clear hbu6 hbb hq1
    rcases Nat.lt_or_ge 1073741824 (bb+bb/16+1) with hmc |hmc
    ·have hmi:(1073741824:Int)<(bb:Int)+((bb/16:Nat):Int)+1:=by omega
     have HMV:Hid (min (bb+bb/16+1) 1073741824=1073741824):=Nat.min_eq_right (by omega)
     clear hmc
     go_upto_region 10 with fail
     go_region
     obtain ⟨g7,f7⟩:=H6.out.setc 10 (.int .i64 ((1073741824:Nat):Int)) { S6 with bump:=1073741824 } (by simp [scs]) ⟨rfl,rfl,rfl,rfl,rfl,rfl,rfl⟩
     rw [HE5.out.1] at g7 f7
     have h8:=g7.keep (Fr.refl [] _).drew
     have hS8:({ S6 with bump:=1073741824 }:Sv)=(S2.learnt l).bumped:=by
      rw [←HS6.out]
      unfold Sv.bumped
      rw [HBB.out,HMV.out]
     rw [hS8] at h8
     have FF:Hid (SvP (.bool true) (S2.learnt l).bumped L w (.returned (.bool true)) _):=⟨rfl,L5,h8,HE5.out,(SvL.own_then HE5.out HF6.out f7).drew⟩
     clear h8 f7 g7 hS8 b10 f10 hw7 hw8
     go_wp2_with fail
     go_ret
     exact FF.out
    ·have hmi:(bb:Int)+((bb/16:Nat):Int)+1≤(1073741824:Int):=by omega
     have HMV:Hid (min (bb+bb/16+1) 1073741824=bb+bb/16+1):=Nat.min_eq_left (by omega)
     have HCST:Hid ((bb:Int)+(bb:Int)/16+1=((bb+bb/16+1:Nat):Int)):=by show _=_;omega
     clear hmc
     go_upto_region 10 with fail
     go_region
     rw [HCST.out]
     obtain ⟨g7,f7⟩:=H6.out.setc 10 (.int .i64 (((bb+bb/16+1):Nat):Int)) { S6 with bump:=(bb+bb/16+1) } (by simp [scs]) ⟨rfl,rfl,rfl,rfl,rfl,rfl,rfl⟩
     rw [HE5.out.1] at g7 f7
     have h8:=g7.keep (Fr.refl [] _).drew
     have hS8:({ S6 with bump:=(bb+bb/16+1) }:Sv)=(S2.learnt l).bumped:=by
      rw [←HS6.out]
      unfold Sv.bumped
      rw [HBB.out,HMV.out]
     rw [hS8] at h8
     have FF:Hid (SvP (.bool true) (S2.learnt l).bumped L w (.returned (.bool true)) _):=⟨rfl,L5,h8,HE5.out,(SvL.own_then HE5.out HF6.out f7).drew⟩
     clear h8 f7 g7 hS8 b10 f10 hw7 hw8
     go_wp2_with fail
     go_ret
     exact FF.out
   ·have hd1:((l.length:Int)==(1:Int))=false:=by rw [beq_eq_false_iff_ne];omega
    have HFIT:Hid (S2.Fits l):=⟨by omega,l1,fun x hx=>by rw [HV2.out];exact HLR.out x hx⟩
    obtain ⟨nl,hnl⟩:∃nl,S2.list.length=nl:=⟨_,rfl⟩
    have HNL:=Lib.hid hnl
    have hnl2:nl<2199023255552:=by rw [←hnl,HLEN2.out];exact HLL.out
    have HLE:Hid (S2.learnt l={ ((S2.attach l true).put y ((nl:Int)+1)) with many:=S2.many+1 }):=by
     show _=_
     unfold Sv.learnt
     rw [if_neg hl1,HY.out,HNL.out]
    have KAT:=Lib.hid (fun W (hW:Fr [] w2 W)=>attach_calls W L2 S2 (H2.out.keep hW) m HOK2.out (some ⟨ga,0,none⟩) c l true (HI2.out.keep' hW) HFIT.out (fun k hk=>(HA2.out k hk).2) (by rw [HLEN2.out];exact HLL.out) (by rw [HUS.out];exact HU.out))
    rw [HE2.out.1,hnl] at KAT
    have HOK3:=Lib.hid (HOK2.out.attach HFIT.out true (by rw [HLEN2.out];exact HLL.out))
    have hat:=Sv.attach_same S2 l true
    have HAT:=Lib.hid hat
    have hwn:IntKind.i64.wrap ((nl:Int)+1)=(nl:Int)+1:=IntWalk.i64_in _ (by omega)
    clear hat hnl
    go_wp2_with fail
    go_upto_region 8 with fail
    refine wp_region_noPanic ?_
    refine wp_region_C (fun w':World=>w'.cell? ⟨L.a,0,none⟩=some (.pointer (some ⟨L2.tL.a,0,none⟩))∧w'.cell? ⟨ga,0,none⟩=some (.int .i64 y)) 11 (by kernel_rfl) (⟨HC0.out,HC1.out⟩) (fun hT0=> ?_)
    apply TB 9 [(0,[]),(1,[]),(2,[]),(3,[3,11]),(4,[]),(5,[]),(6,[6,11]),(7,[]),(8,[])];kernel_rfl;rfl;· (repeat (apply TBc;rfl;rfl;(· intro w hSw;(try (have hSw:=hSw.resolve_left (List.cons_ne_nil _ _);(have s0:=hSw.1;have s1:=hSw.2)));go_simp<;>with_reducible rfl);try simp only [Act.put,q5,q6,q7]));exact TBn
    exact hT0;intro hT0
    refine R2 9 (by kernel_rfl) (by rfl) hT0 fun K hK hSx=> ?_
    (go_simp;refine (KAT.out _ (Fr.refl [] w2).drew).mono ?_;rintro e w4 ⟨rfl,L4,h4,ha4,hi4,hk4,hf4,hr4,ht4⟩;have s0':=h4.cells.1;rw [ha4,HE2.out.1,ht4] at s0';have s1':=hr4.cell l0;rw [HY.out] at s1';have H4:=Lib.hid h4;have HE4:Hid (L.ext L4 w):=SvL.ext_in HE2.out ha4 hi4 hk4 HF2.out.size (fun k hk=>(HA2.out k hk).1);have HF4:Hid (Fr (L.own w) w w4):=SvL.own_in HE2.out HF2.out.drew hf4 (fun k hk=>(HA2.out k hk).1);have HT4:=Lib.hid ht4;have KP:=Lib.hid (put_calls w4 L4 (S2.attach l true) h4 m HOK3.out y ((nl:Int)+1) (by rw [HAT.out.2.1,HV2.out];exact hy1) (by rw [HAT.out.2.1,HV2.out];exact hy2));rw [ht4] at KP;clear h4 ha4 hi4 hk4 hf4 hr4 ht4;dsimp only)
    refine hK.out _ _ (.inr ?_) (fun hT10=> ?_)
    ·first |exact ⟨s0',s1'⟩ |exact hSx
    clear hK K
    try simp only [Act.put,q5,q6,q7]
    apply TB 1 [(10,[])];kernel_rfl;rfl;· (repeat (apply TBc;rfl;rfl;(· intro w hSw;go_simp<;>with_reducible rfl);try simp only [Act.put,q5,q6,q7]));exact TBn
    exact hT10;intro hT10
    refine R2 11 (by kernel_rfl) (by rfl) hT10 fun K hK hSx=> ?_
    (go_simp;refine KP.out.mono ?_;rintro e w5 ⟨⟨x5,rfl⟩,L5,h5,he5,hf5⟩;dsimp only)
    refine hK.out _ _ (.inl rfl) (fun hT12=> ?_)
    clear hK K
    try simp only [Act.put,q5,q6,q7]
    refine wpAnyC_done (by kernel_rfl) ?_ _
    refine NoPanic.normal ?_
    clear KP KAT
    have HE5:Hid (L.ext L5 w):=SvL.ext_trans HE4.out he5 HF4.out.size
    have HF5:Hid (Fr (L.own w) w w5):=SvL.own_then HE4.out HF4.out hf5
    have H5:=Lib.hid h5
    clear h5 he5 hf5
    obtain ⟨-,-,-,-,-,-,-,-,-,-,-,b11,-⟩:=H5.out.cells
    rw [HE5.out.1] at b11
    have f11:=H5.out.obj.frozen 11
    rw [HE5.out.1] at f11
    have hm5:((S2.attach l true).put y ((nl:Int)+1)).many=S.many:=hmany
    rw [hm5] at b11
    obtain ⟨mm,hmm⟩:∃mm,S.many=mm:=⟨_,rfl⟩
    rw [hmm] at b11 hma hmb
    have hw9:IntKind.i64.wrap (mm+1)=mm+1:=IntWalk.i64_in _ (by omega)
    obtain ⟨g6,f6⟩:=H5.out.setc 11 (.int .i64 (mm+1)) { ((S2.attach l true).put y ((nl:Int)+1)) with many:=mm+1 } (by simp [scs]) ⟨rfl,rfl,rfl,rfl,rfl,rfl,rfl⟩
    rw [HE5.out.1] at g6 f6
    obtain ⟨S6,hS6⟩:∃S6,({ ((S2.attach l true).put y ((nl:Int)+1)) with many:=mm+1 }:Sv)=S6:=⟨_,rfl⟩
    have HS6:Hid (S6=S2.learnt l):=by rw [HLE.out,hmany,hmm];exact hS6.symm
    have hb6:S6.bump=S2.bump:=by rw [←hS6];rfl
    rw [hS6] at g6
    clear hS6 hm5
    go_upto_region 9 with fail
    go_wp2_with fail
    obtain ⟨w6,hw6⟩:∃w6,w5.setCell ⟨L.a,11,none⟩ (.int .i64 (mm+1))=w6:=⟨_,rfl⟩
    rw [hw6] at g6 f6⊢
    have H6:=Lib.hid g6
    have HF6:=Lib.hid (SvL.own_then HE5.out HF5.out f6)
    clear hw6 g6 f6 b11 f11 hw9 hmm
    obtain ⟨-,-,-,-,-,-,-,-,-,-,b10,-⟩:=H6.out.cells
    rw [HE5.out.1] at b10
    have f10:=H6.out.obj.frozen 10
    rw [HE5.out.1] at f10
    have hbu6:S6.bump=S.bump:=hb6.trans hbump
    rw [hbu6] at b10
    obtain ⟨bb,hbb⟩:∃bb,S.bump=bb:=⟨_,rfl⟩
    rw [hbb] at b10 hbu
    have HBB:=Lib.hid (hbu6.trans hbb)
    have hq1:=tdiv_nat bb
    have hw7:IntKind.i64.wrap ((bb:Int)+((bb/16:Nat):Int))=(bb:Int)+((bb/16:Nat):Int):=IntWalk.i64_in _ (by omega)
    have hw8:IntKind.i64.wrap ((bb:Int)+((bb/16:Nat):Int)+1)=(bb:Int)+((bb/16:Nat):Int)+1:=IntWalk.i64_in _ (by omega)
    clear hbu6 hbb hq1
    rcases Nat.lt_or_ge 1073741824 (bb+bb/16+1) with hmc |hmc
    ·have hmi:(1073741824:Int)<(bb:Int)+((bb/16:Nat):Int)+1:=by omega
     have HMV:Hid (min (bb+bb/16+1) 1073741824=1073741824):=Nat.min_eq_right (by omega)
     clear hmc
     go_upto_region 10 with fail
     go_region
     obtain ⟨g7,f7⟩:=H6.out.setc 10 (.int .i64 ((1073741824:Nat):Int)) { S6 with bump:=1073741824 } (by simp [scs]) ⟨rfl,rfl,rfl,rfl,rfl,rfl,rfl⟩
     rw [HE5.out.1] at g7 f7
     have h8:=g7.keep (Fr.refl [] _).drew
     have hS8:({ S6 with bump:=1073741824 }:Sv)=(S2.learnt l).bumped:=by
      rw [←HS6.out]
      unfold Sv.bumped
      rw [HBB.out,HMV.out]
     rw [hS8] at h8
     have FF:Hid (SvP (.bool true) (S2.learnt l).bumped L w (.returned (.bool true)) _):=⟨rfl,L5,h8,HE5.out,(SvL.own_then HE5.out HF6.out f7).drew⟩
     clear h8 f7 g7 hS8 b10 f10 hw7 hw8
     go_wp2_with fail
     go_ret
     exact FF.out
    ·have hmi:(bb:Int)+((bb/16:Nat):Int)+1≤(1073741824:Int):=by omega
     have HMV:Hid (min (bb+bb/16+1) 1073741824=bb+bb/16+1):=Nat.min_eq_left (by omega)
     have HCST:Hid ((bb:Int)+(bb:Int)/16+1=((bb+bb/16+1:Nat):Int)):=by show _=_;omega
     clear hmc
     go_upto_region 10 with fail
     go_region
     rw [HCST.out]
     obtain ⟨g7,f7⟩:=H6.out.setc 10 (.int .i64 (((bb+bb/16+1):Nat):Int)) { S6 with bump:=(bb+bb/16+1) } (by simp [scs]) ⟨rfl,rfl,rfl,rfl,rfl,rfl,rfl⟩
     rw [HE5.out.1] at g7 f7
     have h8:=g7.keep (Fr.refl [] _).drew
     have hS8:({ S6 with bump:=(bb+bb/16+1) }:Sv)=(S2.learnt l).bumped:=by
      rw [←HS6.out]
      unfold Sv.bumped
      rw [HBB.out,HMV.out]
     rw [hS8] at h8
     have FF:Hid (SvP (.bool true) (S2.learnt l).bumped L w (.returned (.bool true)) _):=⟨rfl,L5,h8,HE5.out,(SvL.own_then HE5.out HF6.out f7).drew⟩
     clear h8 f7 g7 hS8 b10 f10 hw7 hw8
     go_wp2_with fail
     go_ret
     exact FF.out
def swpR (a b:Nat):Nat→Nat→List Int→List Int
 |0,_,ys=>ys
 |n+1,k,ys=>swpR a b n (k+1) (swp2 ys (a+k) (b+k))
def insJ (q:Int→Int→Int) (a:Nat):Nat→List Int→List Int
 |0,ys=>ys
 |j+1,ys=>if a<j+1∧q ys[j+1]! ys[j]! <0 then insJ q a j (swp2 ys (j+1) j) else ys
def insI (q:Int→Int→Int) (a:Nat):Nat→Nat→List Int→List Int
 |0,_,ys=>ys
 |n+1,i,ys=>insI q a n (i+1) (insJ q a i ys)
def rotF (m:Nat):Nat→Nat→Nat→List Int→List Int
 |0,_,_,ys=>ys
 |f+1,i,j,ys=>if i<j then rotF m f i (j-i) (swpR (m-i) (m+j-i) i 0 ys) else if i=j then swpR (m-i) m i 0 ys else rotF m f (i-j) j (swpR (m-i) m j 0 ys)
def bsF (t:Nat→Bool):Nat→Nat→Nat→Nat
 |0,i,_=>i
 |f+1,i,j=>if i<j then (if t ((i+j)/2)=true then bsF t f ((i+j)/2+1) j else bsF t f i ((i+j)/2)) else i
def upF:Nat→Nat→List Int→List Int
 |0,_,ys=>ys
 |n+1,k,ys=>upF n (k+1) (swp2 ys k (k+1))
def dnF:Nat→Nat→List Int→List Int
 |0,_,ys=>ys
 |n+1,k,ys=>dnF n (k-1) (swp2 ys k (k-1))
def symF (q:Int→Int→Int):Nat→List Int→Nat→Nat→Nat→List Int
 |0,xs,_,_,_=>xs
 |N+1,xs,a,m,b=>
  if m-a=1 then upF (bsF (fun h=>decide (q xs[h]! xs[a]! <0)) b m b-1-a) a xs
  else if b-m=1 then dnF (m-bsF (fun h=> !decide (q xs[m]! xs[h]! <0)) b a m) m xs
  else
   let M:=(a+b)/2
   let n:=M+m
   let s:=bsF (fun h=> !decide (q xs[n-1-h]! xs[h]! <0)) b (if M<m then n-b else a) (if M<m then M else m)
   let E:=n-s
   let y1:=if s<m∧m<E then rotF m (E-s) (m-s) (E-m) xs else xs
   let y2:=if a<s∧s<M then symF q N y1 a s M else y1
   if M<E∧E<b then symF q N y2 M E b else y2
def blkF (q:Int→Int→Int) (n:Nat):Nat→Nat→List Int→List Int
 |0,_,ys=>ys
 |f+1,a,ys=>if a+20≤n then blkF q n f (a+20) (insI q a (a+20-(a+1)) (a+1) ys) else insI q a (n-(a+1)) (a+1) ys
def mrgP (q:Int→Int→Int) (n k:Nat):Nat→Nat→List Int→List Int
 |0,_,ys=>ys
 |f+1,a,ys=>if a+2*k≤n then mrgP q n k f (a+2*k) (symF q n ys a (a+k) (a+2*k)) else if a+k<n then symF q n ys a (a+k) n else ys
def mrgs (q:Int→Int→Int) (n:Nat):Nat→Nat→List Int→List Int
 |0,_,ys=>ys
 |f+1,k,ys=>if k<n then mrgs q n f (2*k) (mrgP q n k (n+1) 0 ys) else ys
def stF (q:Int→Int→Int) (xs:List Int):List Int:=mrgs q xs.length (xs.length+1) 20 (blkF q xs.length (xs.length+1) 0 xs)
def actQ (S:Sv) (x y:Int):Int:=wrap64 ((S.rc x.toNat).act-(S.rc y.toNat).act)
def Sv.halfD (S:Sv):List Nat:=((stF (actQ S) (casts S.worn)).map Int.toNat).take (S.worn.length/2)
namespace Sv
def RedR (S S':Sv):Prop:=∃D:List Nat,D.Nodup∧(∀n∈D,n∈S.worn)∧(D.length=S.worn.length/2∧D=S.halfD)∧S'=D.foldl drop1 S
structure Small (S:Sv):Prop where
 list:S.list.length<2199023255552
 used:S.used<2199023255552
 bump:S.bump≤1073741824
 many0: -1152921504606846976≤S.many
 many1:S.many≤1152921504606846976
 lim:S.limit≤2199023255552
 lev:S.T.levels.length≤4398046511104
 core:S.core=[]
def limUp (S:Sv):Sv:={ S with limit:=S.limit+(S.limit/16+1) }
def thinW (red:Bool) (S:Sv) (K:Sv→Prop):Prop:=
 if (S.limit:Int)<S.many then (if red=true then ∀S',RedR S S'→K S'.limUp else False) else K S
def afterC (budget:Int) (n:Nat) (Q:Sv→Int→Prop) (K:Sv→Prop):Option (Sv×Bool)→Prop
 |none=>False
 |some (S2,false)=>Q S2 2
 |some (S2,true)=>if budget<(n+1:Nat) then Q S2 0 else K S2
def used1 (S:Sv):Sv:={ S with used:=S.used+1 }
def roundW (red:Bool) (budget:Int) (us:List Int) (Q:Sv→Int→Prop) (K:Nat→Nat→Sv→Prop):Nat→Nat→Nat→Sv→Prop
 |0,_,_,_=>False
 |d+1,next,n,S=>
  S.Small∧n<2199023255552∧next <4398046511104∧
  match S.follow.2 with
  |some c=>afterC budget n Q (K next (n+1)) (S.follow.1.used1.conflict c)
  |none=>thinW red (S.follow.1.rested n next) fun S3=>
    if (S3.decide_ us).2=0 then roundW red budget us Q K d (if next ≤n then n+64 else next) n (S3.decide_ us).1 else Q (S3.decide_ us).1 (S3.decide_ us).2
def searchW (red:Bool) (budget:Int) (us:List Int) (Q:Sv→Int→Prop) (D:Nat):Nat→Nat→Nat→Sv→Prop
 |0,_,_,_=>False
 |c+1,next,n,S=>roundW red budget us Q (searchW red budget us Q D c) D next n S
theorem rc_drop1 (S:Sv) (n j:Nat):(S.drop1 n).rc j=if n=j∧n<S.list.length then ⟨[],false,(S.rc n).act⟩ else S.rc j:=getB_set _ _ _ _
theorem Ok.drop1 {S:Sv} {m:Nat} (ok:S.Ok m) (n:Nat):(S.drop1 n).Ok m:=by
 have el:(S.drop1 n).list.length=S.list.length:=by simp [Sv.drop1]
 refine ⟨ok.vl,ok.tr,ok.hi,ok.hl,ok.ph,ok.wl,by rw [el];exact ok.ll,fun c k hk=>by rw [el];exact ok.wb c k hk,by rw [el];exact ok.wt,fun j x hx=> ?_,fun j=> ?_,fun j=> ?_,ok.hd,fun v=>by rw [el];exact ok.rs v⟩
 ·rw [rc_drop1] at hx
  split at hx
  ·simp at hx
  ·exact ok.lr j x hx
 ·rw [rc_drop1]
  split
  ·simp
  ·exact ok.ln j
 ·rw [rc_drop1]
  split
  ·simp
  ·exact ok.lb j
theorem Ok.drops {m:Nat}:∀(D:List Nat) (S:Sv),S.Ok m→(D.foldl Sv.drop1 S).Ok m
 |[],S,ok=>ok
 |n::r,S,ok=>Ok.drops r _ (ok.drop1 n)
theorem drops_same:∀(D:List Nat) (S:Sv),(D.foldl drop1 S).T=S.T∧(D.foldl drop1 S).vars=S.vars∧(D.foldl drop1 S).list.length=S.list.length∧(D.foldl drop1 S).core=S.core∧(D.foldl drop1 S).limit=S.limit∧(D.foldl drop1 S).many=S.many-D.length
 |[],S=>⟨rfl,rfl,rfl,rfl,rfl,by simp⟩
 |n::r,S=>by
  have h:=drops_same r (S.drop1 n)
  refine ⟨h.1,h.2.1,h.2.2.1.trans (by simp [drop1]),h.2.2.2.1,h.2.2.2.2.1,h.2.2.2.2.2.trans ?_⟩
  simp only [List.length_cons,drop1]
  omega
theorem Ok.limUp {S:Sv} {m:Nat} (ok:S.Ok m):S.limUp.Ok m:=⟨ok.vl,ok.tr,ok.hi,ok.hl,ok.ph,ok.wl,ok.ll,ok.wb,ok.wt,ok.lr,ok.ln,ok.lb,ok.hd,ok.rs⟩
theorem Ok.used1 {S:Sv} {m:Nat} (ok:S.Ok m):S.used1.Ok m:=⟨ok.vl,ok.tr,ok.hi,ok.hl,ok.ph,ok.wl,ok.ll,ok.wb,ok.wt,ok.lr,ok.ln,ok.lb,ok.hd,ok.rs⟩
theorem Ok.rested {S:Sv} {m:Nat} (ok:S.Ok m) (n next :Nat):(S.rested n next).Ok m:=by
 unfold Sv.rested
 split
 ·exact (ok.back 0).1
 ·exact ok
theorem rested_same {S:Sv} {m:Nat} (ok:S.Ok m) (n next :Nat):(S.rested n next).vars=S.vars∧(S.rested n next).list=S.list∧(S.rested n next).core=S.core∧(S.rested n next).many=S.many∧(S.rested n next).limit=S.limit∧(S.rested n next).T.levels.length≤S.T.levels.length:=by
 unfold Sv.rested
 split
 ·have h:=back_more S 0
  have h2:=ok.back 0
  exact ⟨h2.2.1,h2.2.2,h.1,h.2.2.1,h.2.2.2.1,h.2.2.2.2.2.1⟩
 ·exact ⟨rfl,rfl,rfl,rfl,rfl,Nat.le_refl _⟩
theorem Ok.conflict {S:Sv} (ok:S.Ok 0) (hl:S.list.length<2199023255552) {n:Nat} {S':Sv} {b:Bool} (h:S.conflict n=some (S',b)):S'.Ok 0∧S'.vars=S.vars:=by
 unfold Sv.conflict at h
 split at h
 ·simp only [Option.some.injEq,Prod.mk.injEq] at h
  obtain ⟨rfl,rfl⟩:=h
  exact ⟨ok.setbad true,rfl⟩
 ·cases hq:S.learned n with
  |none=>rw [hq] at h;cases h
  |some q=>
   obtain ⟨S1,l,lev⟩:=q
   rw [hq] at h
   simp only [Option.some.injEq,Prod.mk.injEq] at h
   obtain ⟨rfl,rfl⟩:=h
   obtain ⟨ok1,eT,eV,eL,eU,l0,l1,lr,lev0,lev1⟩:=learned_fit ok hq
   obtain ⟨ok2,eV2,eL2⟩:=ok1.back lev.toNat
   have e2:(S1.back lev.toNat).vars=S.vars:=eV2.trans eV
   have hll:(S1.back lev.toNat).list.length<2199023255552:=by rw [eL2,eL];exact hl
   refine ⟨(ok2.learnt l0 l1 (by rw [e2];exact lr) hll).bumped,?_⟩
   show ((S1.back lev.toNat).learnt l).vars=_
   rw [←e2]
   unfold Sv.learnt
   split
   ·rfl
   ·exact (attach_same _ l true).2.1
end Sv
end Go.Proofs.YtjmmpfjcpdepjaaGreatDoor
