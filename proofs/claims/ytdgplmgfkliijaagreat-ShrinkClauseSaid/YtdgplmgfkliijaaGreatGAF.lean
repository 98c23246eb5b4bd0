/- Parts of a proof. -/
import Derived.Test.YtdgplmgfkliijaaGreatGAE
import Derived.IntWalk
import Derived.StillTailTactics
import Derived.Recover
import Derived.Maps.OwnOps
import Derived.Maps.OwnSet
import Derived.Shelf.Abstract
set_option linter.unusedVariables false
set_option linter.unusedSimpArgs false
set_option maxHeartbeats 8000000
set_option maxRecDepth 100000
namespace Go.Proofs.YtdgplmgfkliijaaGreat
open Go.RowKit
def mX (C:Pc) (k:ByteArray):Int:=
 if (k.toList==[105])=true then C.ins.length else if (k.toList==[108])=true then C.bi.length else if (k.toList==[111])=true then C.outs.length else if (k.toList==[98])=true then C.a8.length else C.aZ.length
theorem zX (w:World) (H:Hd) (C:Pc) (s:ByteArray):
  Calls Tryz.prog 96 #[eX H C, .string s] w fun e w'=>e= .returned (.int .i64 (mX C s))∧Fr [] w w':=by
 have hK:al (∀x,mX C s=x→Ending.returned (.int .i64 x)= .returned (.int .i64 (mX C s))):=fun s h=>by rw [h]
 obtain ⟨mx,ins,bi,outs,a8,aZ,aG,b8⟩:=C
 obtain ⟨iA,iC,lA,lC,oA,oC,bA,bC,vA,vC,gA,gC,nA,nC⟩:=H
 simp only [eX,kj] at *
 rcases zQ s.toList [105] with g0 |g0
 ·have HC:=ae (show mX ⟨mx,ins,bi,outs,a8,aZ,aG,b8⟩ s=_ from by simp only [mX,g0,if_true];rfl)
  go_enter Tryz.func96,Tryz.ntmps96
  go_wp2
  go_ret
  exact ⟨hK.o _ HC.o,eE _ _⟩
 rcases zQ s.toList [108] with g1 |g1
 ·have HC:=ae (show mX ⟨mx,ins,bi,outs,a8,aZ,aG,b8⟩ s=_ from by simp only [mX,g0,g1,if_true,if_false,dt];rfl)
  go_enter Tryz.func96,Tryz.ntmps96
  go_wp2
  go_ret
  exact ⟨hK.o _ HC.o,eE _ _⟩
 rcases zQ s.toList [111] with g2 |g2
 ·have HC:=ae (show mX ⟨mx,ins,bi,outs,a8,aZ,aG,b8⟩ s=_ from by simp only [mX,g0,g1,g2,if_true,if_false,dt];rfl)
  go_enter Tryz.func96,Tryz.ntmps96
  go_wp2
  go_ret
  exact ⟨hK.o _ HC.o,eE _ _⟩
 rcases zQ s.toList [98] with g3 |g3
 ·have HC:=ae (show mX ⟨mx,ins,bi,outs,a8,aZ,aG,b8⟩ s=_ from by simp only [mX,g0,g1,g2,g3,if_true,if_false,dt];rfl)
  go_enter Tryz.func96,Tryz.ntmps96
  go_wp2
  go_ret
  exact ⟨hK.o _ HC.o,eE _ _⟩
 have HC:=ae (show mX ⟨mx,ins,bi,outs,a8,aZ,aG,b8⟩ s=_ from by simp only [mX,g0,g1,g2,g3,if_false,dt];rfl)
 go_enter Tryz.func96,Tryz.ntmps96
 go_wp2
 go_ret
 exact ⟨hK.o _ HC.o,eE _ _⟩
theorem QB (c:UInt8): -1≤ee c∧ee c≤4:=by
 simp only [ee,Lib.indexByte]
 repeat' split
 all_goals simp_all
def lH (k:ByteArray):UInt8:=k.data.toList.headD 0
def qR (x:Nm):Int:=ee (lH x.k)*2048+x.i
theorem Ex (w:World) (c:UInt8) (i:Int) (t:ByteArray) (h0:0≤i) (h1:i≤17592186044416):
  Calls Tryz.prog 98 #[.agg #[.string ⟨#[c]⟩, .int .i64 i, .string t]] w fun e w'=>e= .returned (.int .i64 (ee c*2048+i))∧Fr [] w w':=by
 obtain ⟨p1,p2⟩:=QB c
 have KI:=ae (fun W=>BL W c)
 generalize ee c=p at *
 obtain ⟨W1,jr⟩:∃W,w.alloc (.cells #[.string ⟨#[c]⟩, .int .i64 i, .string t] 127)=W:=⟨_,rfl⟩
 have hO:At W1 w.heap.size 127 #[.string ⟨#[c]⟩, .int .i64 i, .string t]:=jr▸At.new _ _ _
 have dy:al (Fr [] w W1):=jr▸eE _ _
 have c0:=hO.cell 0
 have c1:=hO.cell 1
 simp at c0 c1
 have e0:=Ext.cell c0
 have e1:=Ext.cell c1
 have HW:=ae jr
 have m0:IntKind.i64.wrap (p*2048)=p*2048:=IntWalk.i64_in _ (by omega)
 have m1:IntKind.i64.wrap (p*2048+i)=p*2048+i:=IntWalk.i64_in _ (by omega)
 clear jr hO c0 c1
 go_enter Tryz.func98,Tryz.ntmps98
 go_upto_region 1 with fail
 rw [HW.o]
 refine ax ?_
 repeat (go_big_quiet_step (exact bk (KI.o _)))
 refine gO ?_
 intro w2 bl
 go_wp2
 go_ret
 exact ⟨rfl,dy.o.aj bl.o⟩
theorem GS {k:ByteArray} (h:(k.size:Int)=1):∃c,k=⟨#[c]⟩:=by
 obtain ⟨⟨l⟩⟩:=k
 have hl:l.length=1:=by
  simp [ByteArray.size] at h
  omega
 match l,hl with
 |[c],_=>exact ⟨c,rfl⟩
theorem Sg {w:World} {H:Hd} {C:Pc} (h:iy w H C) (k:ByteArray):mX C k≤17592186044416:=by
 have h1:=h.iL
 have h2:=h.lL
 have h3:=h.oL
 have h4:=h.bL
 have h5:=h.vL
 unfold mX
 split
 ·omega
 ·split
  ·omega
  ·split
   ·omega
   ·split<;>omega
def sj (C:Pc) (x:Nm):Bool:=decide ((x.k.size:Int)=1)&&decide (0≤ee (lH x.k))&&decide (0≤x.i)&&decide (x.i<mX C x.k)&&kw x.t
def fc (C:Pc) (k:Nat):Prop:=∀j:Nat,j<k→sj C C.b8[j]! =true∧(0<j→qR C.b8[j-1]! <qR C.b8[j]!)
theorem fc.zero (C:Pc):fc C 0:=fun j hj=>absurd hj (aI _)
theorem fc.step {C:Pc} {k:Nat} (h:fc C k) (h1:sj C C.b8[k]! =true) (h2:0<k→qR C.b8[k-1]! <qR C.b8[k]!):fc C (k+1):=fun j hj=>by
 by_cases e:j=k
 ·subst e;exact ⟨h1,h2⟩
 ·exact h j (by omega)
def NmP (C:Pc) (w:World) (e:Ending) (w':World):Prop:=∃b:Bool,e= .returned (.bool b)∧(b=true↔fc C C.b8.length)∧Fr [] w w'
theorem B7 (w:World) (H:Hd) (C:Pc) (h:iy w H C):
  Calls Tryz.prog 71 #[eX H C] w (NmP C w):=by
 have HH:=ae h
 have hnL:=h.nL
 have DL:=ae (fun k=>Sg h k)
 clear h
 have NO:al (∀W,¬fc C C.b8.length→Fr [] w W→NmP C w (.returned (.bool false)) W):=fun W h1 h2=>⟨false,rfl,by simp [h1],h2⟩
 have pP:al (∀W,fc C C.b8.length→Fr [] w W→NmP C w (.returned (.bool true)) W):=fun W h1 h2=>⟨true,rfl,by simp [h1],h2⟩
 have HS:=ae (Cx.start w H C)
 have KC:=ae (fun W s=>zX W H C s)
 have RK:=ae (fun W c i t h0 h1=>Ex W c i t h0 h1)
 have NBD:al (∀k:Nat,k<C.b8.length→sj C C.b8[k]! =false→¬fc C C.b8.length):=fun k hk hb hn=>by
  have :=(hn k hk).1
  rw [hb] at this;cases this
 have NBR:al (∀k:Nat,k<C.b8.length→0<k→¬qR C.b8[k-1]! <qR C.b8[k]! →¬fc C C.b8.length):=fun k hk h0 hb hn=>hb ((hn k hk).2 h0)
 obtain ⟨mx,ins,bi,outs,a8,aZ,aG,b8⟩:=C
 obtain ⟨iA,iC,lA,lC,oA,oC,bA,bC,vA,vC,gA,gC,nA,nC⟩:=H
 simp only [eX,kj] at *
 go_enter Tryz.func71,Tryz.ntmps71
 go_wp2_with fail
 go_loopg [8] b8.length (fun g i wr=>∃k:Nat,k+g=b8.length∧i= .int .i64 k∧Cx w wr ⟨iA,iC,lA,lC,oA,oC,bA,bC,vA,vC,gA,gC,nA,nC⟩ ⟨mx,ins,bi,outs,a8,aZ,aG,b8⟩∧fc ⟨mx,ins,bi,outs,a8,aZ,aG,b8⟩ k)
 case atStart=>exact ⟨0,by omega,rfl,HS.o,fc.zero _⟩
 case round=>
  obtain ⟨k,hk,rfl,hx,hn⟩:=hrel
  have HK:=ae hk
  have HX:=ae hx
  have HN:=ae hn
  have ly:k≤b8.length:=by omega
  obtain ⟨c0,c1,c2,c3,c4,c5,c6,c7⟩:=hx.cells
  clear hk hx hn
  by_cases bM:k<b8.length
  ·obtain ⟨b,o,x,y,z,hA,he,cx,cy,cz,ij,⟨im,kS⟩,nc⟩:=(HH.o.keep HX.o.fr).n.one HH.o.nr bM
   simp only at hA
   subst hA
   go_upto_region 4 with fail
   obtain ⟨W1,jr⟩:∃W,wr.alloc (.cells #[.string x, .int .i64 y, .string z] 127)=W:=⟨_,rfl⟩
   rw [jr]
   have hO:At W1 wr.heap.size 127 #[.string x, .int .i64 y, .string z]:=jr▸At.new _ _ _
   have dy:al (Fr [] wr W1):=jr▸eE _ _
   clear jr c0 c1 c2 c3 c4 c5 c6 c7 cx cy cz
   generalize wr.heap.size=ob at hO⊢
   have lP:=ae (HX.o.keep dy.o)
   have HO:=ae hO
   clear hO
   obtain ⟨hb,HB⟩:∃hb,al (sj ⟨mx,ins,bi,outs,a8,aZ,aG,b8⟩ ⟨x,y,z⟩=hb):=⟨_,rfl⟩
   obtain ⟨tb,HTB⟩:∃tb,al (kw z=tb):=⟨_,rfl⟩
   have KT0:=fun W=>Ei W z nc
   rw [HTB.o] at KT0
   have KT:=ae KT0
   obtain ⟨n,Qd⟩:∃n,al (mX ⟨mx,ins,bi,outs,a8,aZ,aG,b8⟩ x=n):=⟨_,rfl⟩
   have KQ0:=fun W=>KC.o W x
   rw [Qd.o] at KQ0
   have KQ:=ae KQ0
   clear KQ0 KT0
   have EX:=ij
   unfold maxLen at EX
   go_cut [42] (fun st wx=>st= .bool (!hb)∧Fr [] W1 wx)
   case first =>
    have nx:W1.cell? ⟨ob,0,none⟩=some (.string x):=by rw [HO.o.cell];rfl
    have ny:W1.cell? ⟨ob,1,none⟩=some (.int .i64 y):=by rw [HO.o.cell];rfl
    have nz:W1.cell? ⟨ob,2,none⟩=some (.string z):=by rw [HO.o.cell];rfl
    have ex:=Ext.cell nx
    have ey:=Ext.cell ny
    have ez:=Ext.cell nz
    obtain ⟨e0,e1,e2,e3,e4,e5,e6,e7⟩:=lP.o.ext
    by_cases s1:(x.size:Int)=1
    ·obtain ⟨c,hc⟩:=GS s1
     subst hc
     have KS:=ae (fun W=>BM W c)
     clear s1
     by_cases p0:0≤ee c
     ·have p0b:decide (0≤ee c)=true:=decide_eq_true p0
      have PL:al (ee (lH ⟨#[c]⟩)=ee c):=rfl
      by_cases h0:0≤y
      ·have d0:decide (y<0)=false:=decide_eq_false (by omega)
       by_cases h1:y<n
       ·have d1:decide (n≤y)=false:=decide_eq_false (by omega)
        go_wp2
        refine ax ?_
        repeat (go_big_quiet_step (first | (go_at_call 95;exact bk (KS.o _)) | (go_at_call 96;exact bV (KQ.o _)) | (go_at_call 97;exact bV (KT.o _))))
        refine gO ?_
        intro w2 bl
        go_wp2
        go_meet
        exact ⟨by rw [←HB.o];simp [sj,PL.o,p0,h0,Qd.o,h1,HTB.o,ByteArray.size],bl.o⟩
       ·have d1:decide (n≤y)=true:=decide_eq_true (by omega)
        go_wp2
        refine ax ?_
        repeat (go_big_quiet_step (first | (go_at_call 95;exact bk (KS.o _)) | (go_at_call 96;exact bV (KQ.o _)) | (go_at_call 97;exact bV (KT.o _))))
        refine gO ?_
        intro w2 bl
        go_wp2
        go_meet
        exact ⟨by rw [←HB.o];simp [sj,Qd.o,h1],bl.o⟩
      ·have d0:decide (y<0)=true:=decide_eq_true (by omega)
       go_wp2
       refine ax ?_
       repeat (go_big_quiet_step (first | (go_at_call 95;exact bk (KS.o _)) | (go_at_call 96;exact bV (KQ.o _)) | (go_at_call 97;exact bV (KT.o _))))
       refine gO ?_
       intro w2 bl
       go_wp2
       go_meet
       exact ⟨by rw [←HB.o];simp [sj,show ¬0≤y from by omega],bl.o⟩
     ·have p0b:decide (0≤ee c)=false:=decide_eq_false p0
      have PL:al (ee (lH ⟨#[c]⟩)=ee c):=rfl
      go_wp2
      refine ax ?_
      repeat (go_big_quiet_step (first | (go_at_call 95;exact bk (KS.o _)) | (go_at_call 96;exact bV (KQ.o _)) | (go_at_call 97;exact bV (KT.o _))))
      refine gO ?_
      intro w2 bl
      go_wp2
      go_meet
      exact ⟨by rw [←HB.o];simp [sj,PL.o,p0],bl.o⟩
    ·have s1b:((x.size:Int) !=1)=true:=by simp [s1]
     have S1:=ae s1
     clear s1
     go_wp2
     refine ax ?_
     repeat (go_big_quiet_step (fail))
     refine gO ?_
     intro w2 bl
     go_wp2
     go_meet
     exact ⟨by rw [←HB.o];simp [sj,S1.o],bl.o⟩
   case rest=>
    obtain ⟨rfl,hfc⟩:=hcut
    have HFC:=ae hfc
    clear hfc
    have mE:=ae (lP.o.keep HFC.o)
    have ul:=ae (HO.o.keep HFC.o)
    cases hb with
    |false=>
     go_wp2
     go_ret
     exact NO.o _ (NBD.o k bM (by rw [he.o];exact HB.o)) mE.o.fr
    |true=>
     have LE:=HB.o
     simp only [sj,aD,decide_eq_true_eq] at LE
     obtain ⟨⟨⟨⟨s1,p0⟩,h0⟩,h1⟩,_⟩:=LE
     obtain ⟨c,hc⟩:=GS s1
     have h2:=DL.o x
     subst hc
     have PR:y≤17592186044416:=by omega
     clear s1 p0 h1 h2
     have nx:wc.cell? ⟨ob,0,none⟩=some (.string ⟨#[c]⟩):=by rw [ul.o.cell];rfl
     have ny:wc.cell? ⟨ob,1,none⟩=some (.int .i64 y):=by rw [ul.o.cell];rfl
     have nz:wc.cell? ⟨ob,2,none⟩=some (.string z):=by rw [ul.o.cell];rfl
     have ex:=Ext.cell nx
     have ey:=Ext.cell ny
     have ez:=Ext.cell nz
     obtain ⟨e0,e1,e2,e3,e4,e5,e6,e7⟩:=mE.o.ext
     by_cases JP:0<k
     ·obtain ⟨j,rfl⟩:∃j,k=j+1:=⟨k-1,by omega⟩
      obtain ⟨b',o',x',y',z',Bi,dZ,OL,qz,cz',Vb,⟨aeI,aeH⟩,ame⟩:=(HH.o.keep mE.o.fr).n.one HH.o.nr (show j<b8.length by omega)
      simp only [Option.some.injEq,Addr.mk.injEq,and_true] at Bi
      obtain ⟨rfl,rfl⟩:=Bi
      have LE:=(HN.o j (by omega)).1
      simp only [dZ.o] at LE
      simp only [sj,aD,decide_eq_true_eq] at LE
      obtain ⟨⟨⟨⟨s1,p0⟩,h0'⟩,h1⟩,_⟩:=LE
      obtain ⟨c',XY⟩:=GS s1
      have h2:=DL.o x'
      subst XY
      have amg:y'≤17592186044416:=by omega
      clear s1 p0 h1 h2
      have ex':=Ext.cell OL
      have ey':=Ext.cell qz
      have ez':=Ext.cell cz'
      clear OL qz cz' nx ny nz
      by_cases hr:ee c*2048+y≤ee c'*2048+y'
      ·have dr:decide (ee c*2048+y≤ee c'*2048+y')=true:=decide_eq_true hr
       have HR:=ae hr
       clear hr
       go_wp2
       refine ax ?_
       repeat (go_big_quiet_step (exact bV (RK.o _ _ _ _ (by omega) (by omega))))
       refine gO ?_
       intro w2 bl
       go_wp2
       go_ret
       exact NO.o _ (NBR.o (j+1) bM JP (by rw [eN,he.o,dZ.o];have :=HR.o;show ee c*2048+y≤ee c'*2048+y';omega)) (mE.o.fr.aj bl.o)
      ·have dr:decide (ee c*2048+y≤ee c'*2048+y')=false:=decide_eq_false hr
       have HR:=ae hr
       clear hr
       go_wp2
       refine ax ?_
       repeat (go_big_quiet_step (exact bV (RK.o _ _ _ _ (by omega) (by omega))))
       refine gO ?_
       intro w2 bl
       go_wp2
       go_roundg (gk-1)
       case measure=>have :=HK.o;omega
       case rel=>exact ⟨j+2,by have :=HK.o;omega,by go_num,mE.o.keep bl.o,HN.o.step (by rw [he.o];exact HB.o) (fun h=>by rw [eN,he.o,dZ.o];have :=HR.o;show ee c'*2048+y'<ee c*2048+y;omega)⟩
     ·obtain rfl :k=0:=by omega
      go_wp2
      refine ax ?_
      repeat (go_big_quiet_step (fail))
      refine gO ?_
      intro w2 bl
      go_wp2
      go_roundg (gk-1)
      case measure=>have :=HK.o;omega
      case rel=>exact ⟨1,by have :=HK.o;omega,by go_num,mE.o.keep bl.o,HN.o.step (by rw [he.o];exact HB.o) (fun h=>absurd h (Nat.lt_irrefl _))⟩
  ·have HT:al (fc ⟨mx,ins,bi,outs,a8,aZ,aG,b8⟩ b8.length):=(by rw [show b8.length=k from by omega];exact HN.o:fc ⟨mx,ins,bi,outs,a8,aZ,aG,b8⟩ b8.length)
   go_wp2
   go_ret
   exact pP.o _ HT.o HX.o.fr
def Dk (f:Int→List UInt8) (l:List Int):Prop:=∀v,dY v→((f v).isEmpty=true↔∀x∈l,x/2≠v)
theorem Dk.nil:Dk (fun _=>[]) []:=fun v _=>by simp
theorem Dk.step {f:Int→List UInt8} {l:List Int} (h:Dk f l) (x:Int) (s:List UInt8) (hs:s.isEmpty=false):Dk (fun v=>if v=x/2 then s else f v) (l++[x]):=fun v hv=>by
 show (if v=x/2 then s else f v).isEmpty=true↔_
 by_cases e:v=x/2
 ·subst e
  rw [if_pos rfl,hs]
  constructor
  ·intro h;cases h
  ·intro hh
   exact absurd rfl (hh x (by simp))
 ·rw [if_neg e,h v hv]
  constructor
  ·intro hh y hy
   rcases ag.1 hy with hy |hy
   ·exact hh y hy
   ·simp only [ah] at hy
    subst hy
    exact fun h=>e h.symm
  ·intro hh y hy
   exact hh y (ag.2 (.inl hy))
theorem B3 {C:Pc} {l:List Int} {k:Nat} (h:DA C l k) {x:Int} (hx:x∈l.take k):2≤x∧x%2=0∧x≤2*C.mx:=by
 obtain ⟨j,hj,e⟩:=List.mem_iff_getElem.1 hx
 rw [aV] at hj
 have :=h j (by omega)
 simp only [kR,aD,decide_eq_true_eq] at this
 have e2:l[j]! =x:=by
  rw [List.getElem_take] at e
  rw [aa,af (by omega),←e]
  rfl
 rw [e2] at this
 exact ⟨this.1.1.1,this.1.1.2,this.1.2⟩
theorem FR {C:Pc} {l:List Int} {k:Nat} {f:Int→List UInt8} (h:DA C l k) (hd:Dk f (l.take k)) (hr:dY l[k]!):uc f l[k]! C.mx=kR C l k:=by
 unfold uc kR
 generalize hx:l[k]! =x at *
 by_cases h1:2≤x
 ·by_cases h2:x%2=0
  ·have e3:decide (x/2≤C.mx)=decide (x≤2*C.mx):=by
    by_cases h3:x≤2*C.mx
    ·rw [decide_eq_true h3,decide_eq_true (by omega)]
    ·rw [decide_eq_false h3,decide_eq_false (by omega)]
   have e4:(f (x/2)).isEmpty= !decide (x∈l.take k):=by
    have hR:dY (x/2):=by
     unfold dY at hr⊢
     omega
    by_cases hm:x∈l.take k
    ·have :(f (x/2)).isEmpty=false:=by
      rw [Bool.eq_false_iff]
      intro h5
      exact (hd _ hR).1 h5 x hm rfl
     rw [this,decide_eq_true hm]
     rfl
    ·have :(f (x/2)).isEmpty=true:=by
      rw [hd _ hR]
      intro y hy h5
      obtain ⟨y1,y2,_⟩:=B3 h hy
      have :y=x:=by omega
      exact hm (this▸hy)
     rw [this,decide_eq_false hm]
     rfl
   rw [e3,e4]
  ·rw [decide_eq_false h2];simp
 ·rw [decide_eq_false h1];simp
theorem C2 (a b:List Int) (k:Nat) (h:k<a.length):(a++b)[k]! =a[k]! :=by
 simp only [aa,cW h]
theorem C1 (a b:List Int) (k:Nat):(a++b)[a.length+k]! =b[k]! :=by
 simp only [aa,gm (Nat.le_add_right _ _),Nat.add_sub_cancel_left]
theorem get_map (l:List T3) (k:Nat) (h:k<l.length):(l.map fun x=>x.a)[k]! =(l[k]!).a:=by
 simp [h]
theorem zY (C:Pc) (k:Nat) (h:k<C.ins.length):(cD C)[k]! =C.ins[k]! :=by
 unfold cD
 rw [js,C2 _ _ _ h]
theorem QF (C:Pc) (k:Nat) (h:k<C.bi.length):(cD C)[C.ins.length+k]! =(C.bi[k]!).a:=by
 unfold cD
 rw [js,C1,C2 _ _ _ (by simpa using h),get_map _ _ h]
theorem QH (C:Pc) (k:Nat) (h:k<C.aG.length):(cD C)[C.ins.length+C.bi.length+k]! =(C.aG[k]!).a:=by
 have :=C1 (C.ins++C.bi.map fun x=>x.a) (C.aG.map fun x=>x.a) k
 rw [ai,aq] at this
 unfold cD
 rw [this,get_map _ _ h]
theorem MN (C:Pc):(cD C).length=C.ins.length+C.bi.length+C.aG.length:=by simp [cD];omega
structure my (C:Pc):Prop where
 own:∀j:Nat,j<(cD C).length→kR C (cD C) j=true
 rst:∀j:Nat,j<C.bi.length→vc C.bi[j]! =true
 ris:∀j:Nat,j<C.aG.length→0<j→(C.aG[j-1]!).a<(C.aG[j]!).a
def DfP (C:Pc) (w:World) (e:Ending) (w':World):Prop:=((my C∧∃g b n f,e= .returned (.pointer (some ⟨g,0,none⟩))∧Ms w' g b n f∧Dk f (cD C))∨(¬my C∧e=eM))∧Fr [] w w'
structure Df (w wr:World) (H:Hd) (C:Pc) (g b i:Nat) (f:Int→List UInt8):Prop where
 cx:Cx w wr H C
 ms:Ms wr g b i f
 dk:Dk f ((cD C).take i)
 upto:DA C (cD C) i
theorem Df.keep {w wr w':World} {H:Hd} {C:Pc} {g b i:Nat} {f:Int→List UInt8} (h:Df w wr H C g b i f) (hf:Fr [] wr w'):Df w w' H C g b i f:=⟨h.cx.keep hf,h.ms.keep hf,h.dk,h.upto⟩
theorem Df.put {w wr w':World} {H:Hd} {C:Pc} {g b i:Nat} {f:Int→List UInt8} (h:Df w wr H C g b i f) (hi:i<(cD C).length) (hb:w.heap.size<b) (s:List UInt8) (hs:s.isEmpty=false)
  (ho:kR C (cD C) i=true) (hm:Ms w' g b (i+1) (fun v=>if v=(cD C)[i]! /2 then s else f v)) (hf:Fr [b] wr w'):Df w w' H C g b (i+1) (fun v=>if v=(cD C)[i]! /2 then s else f v):=
 ⟨⟨h.cx.fr.trans hf (fun x hx=> .inr (by simp at hx;omega)),hf.at_ h.cx.bx (by simp;omega)⟩,hm,by rw [lU _ _ hi];exact h.dk.step _ _ hs,h.upto.step ho⟩
theorem IQ {x y z:Int} {rb:Bool} (h:vc ⟨x,y,z⟩=rb):(rb=true∧(z=0∨(z≠0∧z=1)∨(z≠0∧z≠1∧z=x)))∨(rb=false∧z≠0∧z≠1∧z≠x):=by
 subst h
 by_cases a1:z=0
 ·exact .inl ⟨by simp [vc,a1], .inl a1⟩
 ·by_cases a2:z=1
  ·exact .inl ⟨by simp [vc,a2], .inr (.inl ⟨a1,a2⟩)⟩
  ·by_cases a3:z=x
   ·exact .inl ⟨by simp [vc,a3], .inr (.inr ⟨a1,a2,a3⟩)⟩
   ·exact .inr ⟨by simp [vc,a1,a2,a3],a1,a2,a3⟩
theorem Df.start (w:World) (H:Hd) (C:Pc):Df w (((w.alloc (.cells (kj H C) 27)).alloc (.map #[] 0)).alloc (.cells #[.map (some (w.heap.size+1))] 124)) H C (w.heap.size+1+1) (w.heap.size+1) 0 (fun _=>[]):=by
 refine ⟨(((Cx.start w H C).keep (eE _ _)).keep (eE _ _)),⟨?_,?_⟩,?_,fun j hj=>absurd hj (aI _)⟩
 ·have :=At.new ((w.alloc (.cells (kj H C) 27)).alloc (.map #[] 0)) 124 #[.map (some (w.heap.size+1))]
  simpa using this
 ·have :=(Met.new (w.alloc (.cells (kj H C) 27))).keep (eE _ (.cells #[.map (some (w.heap.size+1))] 124))
  simpa using this
 ·rw [List.take_zero];exact Dk.nil
theorem x9 (w:World) (H:Hd) (C:Pc) (h:iy w H C) (h64:C.ins.length≤64) (h65:C.bi.length≤64) (xT:0≤C.mx) (vO:C.mx≤2048):
  Calls Tryz.prog 68 #[eX H C] w (DfP C w):=by
 have HH:=ae h
 have hgL:=h.gL
 clear h
 have NO:al (∀W,¬my C→Fr [] w W→DfP C w eM W):=fun W h1 h2=>⟨.inr ⟨h1,rfl⟩,h2⟩
 have pP:al (∀W g b n f,my C→Ms W g b n f→Dk f (cD C)→Fr [] w W→DfP C w (.returned (.pointer (some ⟨g,0,none⟩))) W):=fun W g b n f h1 h2 h3 h4=>⟨.inl ⟨h1,g,b,n,f,rfl,h2,h3⟩,h4⟩
 have NOW:al (∀j,j<(cD C).length→kR C (cD C) j=false→¬my C):=fun j hj hb hd=>by
  have :=hd.own j hj
  rw [hb] at this;cases this
 have NRS:al (∀j,j<C.bi.length→vc C.bi[j]! =false→¬my C):=fun j hj hb hd=>by
  have :=hd.rst j hj
  rw [hb] at this;cases this
 have NRI:al (∀j,j<C.aG.length→0<j→¬(C.aG[j-1]!).a<(C.aG[j]!).a→¬my C):=fun j hj h0 hb hd=>hb (hd.ris j hj h0)
 have kM:=ae (fun (h1:∀j:Nat,j<(cD C).length→kR C (cD C) j=true) (h2:∀j:Nat,j<C.bi.length→vc C.bi[j]! =true) (h3:∀j:Nat,j<C.aG.length→0<j→(C.aG[j-1]!).a<(C.aG[j]!).a)=>(⟨h1,h2,h3⟩:my C))
 have yp:=ae (MN C)
 have HOI:=ae (zY C)
 have HOL:=ae (QF C)
 have HOA:=ae (QH C)
 have HS:=ae (Cx.start w H C)
 obtain ⟨mx,ins,bi,outs,a8,aZ,aG,b8⟩:=C
 obtain ⟨iA,iC,lA,lC,oA,oC,bA,bC,vA,vC,gA,gC,nA,nC⟩:=H
 simp only [eX,kj] at *
 have xz:=@run_makeMap Tryz.prog
 have Xv:=ae (Df.start w ⟨iA,iC,lA,lC,oA,oC,bA,bC,vA,vC,gA,gC,nA,nC⟩ ⟨mx,ins,bi,outs,a8,aZ,aG,b8⟩)
 simp only [kj] at Xv
 go_enter Tryz.func68,Tryz.ntmps68
 go_upto_region 2 with fail
 obtain ⟨W0,Oi⟩:∃W,((w.alloc (.cells #[.int .i64 mx, .slice iA ins.length iC, .slice lA bi.length lC, .slice oA outs.length oC, .slice bA a8.length bC, .slice vA aZ.length vC, .slice gA aG.length gC, .slice nA b8.length nC] 27)).alloc (.map #[] 0)).alloc (.cells #[.map (some (w.heap.size+1))] 124)=W:=⟨_,rfl⟩
 rw [Oi] at Xv⊢
 obtain ⟨gb,hgb⟩:∃gb,w.heap.size+1=gb:=⟨_,rfl⟩
 rw [hgb] at Xv⊢
 obtain ⟨ga,o3⟩:∃ga,gb+1=ga:=⟨_,rfl⟩
 rw [o3] at Xv⊢
 have aaC:ga≠gb:=by omega
 have xB:w.heap.size<gb:=by omega
 have qD:=ae aaC
 clear Oi o3 hgb xz aaC
 obtain ⟨c0,c1,c2,c3,c4,c5,c6,c7⟩:=Xv.o.cx.cells
 go_wp2_with fail
 clear c0 c1 c2 c3 c4 c5 c6 c7
 go_loopg [16] ins.length (fun g i wr=>∃(k:Nat) (f:Int→List UInt8),k+g=ins.length∧i= .int .i64 k∧Df w wr ⟨iA,iC,lA,lC,oA,oC,bA,bC,vA,vC,gA,gC,nA,nC⟩ ⟨mx,ins,bi,outs,a8,aZ,aG,b8⟩ ga gb k f)
 case atStart=>exact ⟨0,_,by omega,rfl,Xv.o⟩
 case round=>
  clear Xv
  obtain ⟨k,f,hk,rfl,hx⟩:=hrel
  have HK:=ae hk
  have HX:=ae hx
  have ly:k≤ins.length:=by omega
  obtain ⟨c0,c1,c2,c3,c4,c5,c6,c7⟩:=hx.cx.cells
  clear hk hx
  by_cases bM:k<ins.length
  ·obtain ⟨b,o,x,hA,he,cx,ij,ix⟩:=(HH.o.keep HX.o.cx.fr).i.one HH.o.ir bM
   simp only at hA
   subst hA
   have HO:al ((cD ⟨mx,ins,bi,outs,a8,aZ,aG,b8⟩)[k]! =x):=(HOI.o k bM).trans he.o
   have HJ:al (k<(cD ⟨mx,ins,bi,outs,a8,aZ,aG,b8⟩).length):=(by rw [yp.o];omega:k<(cD ⟨mx,ins,bi,outs,a8,aZ,aG,b8⟩).length)
   have PJ:al (uc f x mx=kR ⟨mx,ins,bi,outs,a8,aZ,aG,b8⟩ (cD ⟨mx,ins,bi,outs,a8,aZ,aG,b8⟩) k):=(by have :=FR HX.o.upto HX.o.dk (by rw [HO.o];exact ⟨ij,ix⟩);rw [HO.o] at this;exact this:uc f x mx=kR ⟨mx,ins,bi,outs,a8,aZ,aG,b8⟩ (cD ⟨mx,ins,bi,outs,a8,aZ,aG,b8⟩) k)
   obtain ⟨q,HQ⟩:∃q,al (kR ⟨mx,ins,bi,outs,a8,aZ,aG,b8⟩ (cD ⟨mx,ins,bi,outs,a8,aZ,aG,b8⟩) k=q):=⟨_,rfl⟩
   go_wp2_with fail
   cases q with
   |true=>
    refine (sK wr ga gb k f x mx _ HX.o.ms qD.o ⟨ij,ix⟩ (PJ.o.trans HQ.o) (by simp [ByteArray.size]) (by omega)).mono ?_
    rintro e w2 ⟨rfl,hm,hf⟩
    have mE:=ae (HX.o.put HJ.o xB [105] rfl HQ.o (by rw [HO.o];exact hm) hf)
    clear hm hf c0 c1 c2 c3 c4 c5 c6 c7 cx
    go_wp2
    go_roundg (gk-1)
    case measure=>have :=HK.o;omega
    case rel=>exact ⟨k+1,_,by have :=HK.o;omega,by go_num,mE.o⟩
   |false=>
    refine (qj wr ga gb k f x mx _ HX.o.ms ⟨ij,ix⟩ (PJ.o.trans HQ.o)).mono ?_
    unfold eM
    rintro e w2 ⟨rfl,rfl⟩
    go_wp2_with fail
    exact ⟨rfl,NO.o _ (NOW.o k HJ.o HQ.o) HX.o.cx.fr⟩
  ·obtain rfl :k=ins.length:=by omega
   have yr:=HX
   clear HX HK ly bM
   go_wp2_with fail
   clear c0 c1 c2 c3 c4 c5 c6 c7
   go_loopg [29] bi.length (fun g i wr=>∃(k:Nat) (f:Int→List UInt8),k+g=bi.length∧i= .int .i64 k∧Df w wr ⟨iA,iC,lA,lC,oA,oC,bA,bC,vA,vC,gA,gC,nA,nC⟩ ⟨mx,ins,bi,outs,a8,aZ,aG,b8⟩ ga gb (ins.length+k) f∧(∀j,j<k→vc bi[j]! =true))
   case atStart=>exact ⟨0,_,by omega,rfl,yr.o,fun j hj=>absurd hj (aI _)⟩
   case round=>
    clear yr f
    obtain ⟨k,f,hk,rfl,hx,iZ⟩:=hrel
    have HK:=ae hk
    have HX:=ae hx
    have oG:=ae iZ
    have ly:k≤bi.length:=by omega
    obtain ⟨c0,c1,c2,c3,c4,c5,c6,c7⟩:=hx.cx.cells
    clear hk hx iZ
    by_cases bM:k<bi.length
    ·obtain ⟨b,o,x,y,z,hA,he,cx,cy,cz,⟨ij,ix⟩,⟨im,kS⟩,_,_⟩:=(HH.o.keep HX.o.cx.fr).l.one HH.o.lr bM
     simp only at hA
     subst hA
     have HO:al ((cD ⟨mx,ins,bi,outs,a8,aZ,aG,b8⟩)[ins.length+k]! =x):=(HOL.o k bM).trans (by rw [he.o])
     have HJ:al (ins.length+k<(cD ⟨mx,ins,bi,outs,a8,aZ,aG,b8⟩).length):=(by rw [yp.o];omega:ins.length+k<(cD ⟨mx,ins,bi,outs,a8,aZ,aG,b8⟩).length)
     have PJ:al (uc f x mx=kR ⟨mx,ins,bi,outs,a8,aZ,aG,b8⟩ (cD ⟨mx,ins,bi,outs,a8,aZ,aG,b8⟩) (ins.length+k)):=(by have :=FR HX.o.upto HX.o.dk (by rw [HO.o];exact ⟨ij,ix⟩);rw [HO.o] at this;exact this:uc f x mx=kR ⟨mx,ins,bi,outs,a8,aZ,aG,b8⟩ (cD ⟨mx,ins,bi,outs,a8,aZ,aG,b8⟩) (ins.length+k))
     obtain ⟨q,HQ⟩:∃q,al (kR ⟨mx,ins,bi,outs,a8,aZ,aG,b8⟩ (cD ⟨mx,ins,bi,outs,a8,aZ,aG,b8⟩) (ins.length+k)=q):=⟨_,rfl⟩
     go_upto_region 10 with fail
     obtain ⟨W1,jr⟩:∃W,wr.alloc (.cells #[.int .i64 x, .int .i64 y, .int .i64 z] 40)=W:=⟨_,rfl⟩
     rw [jr]
     have hO:At W1 wr.heap.size 40 #[.int .i64 x, .int .i64 y, .int .i64 z]:=jr▸At.new _ _ _
     have lP:al (Fr [] wr W1):=jr▸eE _ _
     have HOB:al (wr.heap.size≠gb):=fun e=>Nat.lt_irrefl _ (e▸HX.o.ms.met.lt)
     clear jr c0 c1 c2 c3 c4 c5 c6 c7 cx cy cz
     generalize wr.heap.size=ob at hO HOB⊢
     have mE:=ae (HX.o.keep lP.o)
     have j4:=ae hO
     have n0:W1.cell? ⟨ob,0,none⟩=some (.int .i64 x):=by rw [hO.cell];rfl
     clear hO
     obtain ⟨c0,c1,c2,c3,c4,c5,c6,c7⟩:=mE.o.cx.cells
     go_wp2_with fail
     cases q with
     |true=>
      refine (sK W1 ga gb (ins.length+k) f x mx _ mE.o.ms qD.o ⟨ij,ix⟩ (PJ.o.trans HQ.o) (by simp [ByteArray.size]) (by omega)).mono ?_
      rintro e w2 ⟨rfl,hm,hf⟩
      have ul:=ae (hf.at_ j4.o (by simp;exact HOB.o))
      have rU:=ae (mE.o.put HJ.o xB [108] rfl HQ.o (by rw [HO.o];exact hm) hf)
      clear hm hf c0 c1 c2 c3 c4 c5 c6 c7 n0
      have n0:w2.cell? ⟨ob,0,none⟩=some (.int .i64 x):=by rw [ul.o.cell];rfl
      have n2:w2.cell? ⟨ob,2,none⟩=some (.int .i64 z):=by rw [ul.o.cell];rfl
      obtain ⟨rb,HRB⟩:∃rb,al (vc ⟨x,y,z⟩=rb):=⟨_,rfl⟩
      go_upto_region 11 with fail
      have hz:=IQ HRB.o
      rcases hz with ⟨rfl,z0 |⟨z0,z1⟩ |⟨z0,z1,z2⟩⟩ |⟨rfl,z0,z1,z2⟩
      ·have b0:(z==0)=true:=by simp [z0]
       clear z0
       go_wp2_with fail
       refine (gQ _).mono ?_
       rintro e w3 ⟨rfl,rfl⟩
       go_wp2
       go_roundg (gk-1)
       case measure=>have :=HK.o;omega
       case rel=>exact ⟨k+1,_,by have :=HK.o;omega,by go_num,rU.o,fun j hj=>by
        by_cases ej:j=k
        ·subst ej;rw [he.o];exact HRB.o
        ·exact oG.o j (by omega)⟩
      ·have b0:(z==0)=false:=by simp [z0]
       have b1:(z==1)=true:=by simp [z1]
       clear z0 z1
       go_wp2_with fail
       refine (gQ _).mono ?_
       rintro e w3 ⟨rfl,rfl⟩
       go_wp2
       go_roundg (gk-1)
       case measure=>have :=HK.o;omega
       case rel=>exact ⟨k+1,_,by have :=HK.o;omega,by go_num,rU.o,fun j hj=>by
        by_cases ej:j=k
        ·subst ej;rw [he.o];exact HRB.o
        ·exact oG.o j (by omega)⟩
      ·have b0:(z==0)=false:=by simp [z0]
       have b1:(z==1)=false:=by simp [z1]
       have b2:(z==x)=true:=by simp [z2]
       clear z0 z1 z2
       go_wp2_with fail
       refine (gQ _).mono ?_
       rintro e w3 ⟨rfl,rfl⟩
       go_wp2
       go_roundg (gk-1)
       case measure=>have :=HK.o;omega
       case rel=>exact ⟨k+1,_,by have :=HK.o;omega,by go_num,rU.o,fun j hj=>by
        by_cases ej:j=k
        ·subst ej;rw [he.o];exact HRB.o
        ·exact oG.o j (by omega)⟩
      ·have b0:(z==0)=false:=by simp [z0]
       have b1:(z==1)=false:=by simp [z1]
       have b2:(z==x)=false:=by simp [z2]
       clear z0 z1 z2
       go_wp2_with fail
       refine (ef _).mono ?_
       unfold eM
       rintro e w3 ⟨rfl,rfl⟩
       go_wp2_with fail
       exact ⟨rfl,NO.o _ (NRS.o k bM (by rw [he.o];exact HRB.o)) rU.o.cx.fr⟩
     |false=>
      refine (qj W1 ga gb (ins.length+k) f x mx _ mE.o.ms ⟨ij,ix⟩ (PJ.o.trans HQ.o)).mono ?_
      unfold eM
      rintro e w2 ⟨rfl,rfl⟩
      go_wp2_with fail
      exact ⟨rfl,NO.o _ (NOW.o _ HJ.o HQ.o) mE.o.cx.fr⟩
    ·obtain rfl :k=bi.length:=by omega
     have yr:=HX
     have HRT:=oG
     clear HX HK ly bM oG
     go_wp2_with fail
     clear c0 c1 c2 c3 c4 c5 c6 c7
     go_loopg [59] aG.length (fun g i wr=>∃(k:Nat) (f:Int→List UInt8),k+g=aG.length∧i= .int .i64 k∧Df w wr ⟨iA,iC,lA,lC,oA,oC,bA,bC,vA,vC,gA,gC,nA,nC⟩ ⟨mx,ins,bi,outs,a8,aZ,aG,b8⟩ ga gb (ins.length+bi.length+k) f∧(∀j,j<k→0<j→(aG[j-1]!).a<(aG[j]!).a))
     case atStart=>exact ⟨0,_,by omega,rfl,yr.o,fun j hj=>absurd hj (aI _)⟩
     case round=>
      clear yr f
      obtain ⟨k,f,hk,rfl,hx,iZ⟩:=hrel
      have HK:=ae hk
      have HX:=ae hx
      have oG:=ae iZ
      have ly:k≤aG.length:=by omega
      obtain ⟨c0,c1,c2,c3,c4,c5,c6,c7⟩:=hx.cx.cells
      clear hk hx iZ
      by_cases bM:k<aG.length
      ·obtain ⟨b,o,x,y,z,hA,he,cx,cy,cz,⟨ij,ix⟩,⟨im,kS⟩,_,_⟩:=(HH.o.keep HX.o.cx.fr).g.one HH.o.gr bM
       simp only at hA
       subst hA
       have HO:al ((cD ⟨mx,ins,bi,outs,a8,aZ,aG,b8⟩)[ins.length+bi.length+k]! =x):=(HOA.o k bM).trans (by rw [he.o])
       have HJ:al (ins.length+bi.length+k<(cD ⟨mx,ins,bi,outs,a8,aZ,aG,b8⟩).length):=(by rw [yp.o];omega:ins.length+bi.length+k<(cD ⟨mx,ins,bi,outs,a8,aZ,aG,b8⟩).length)
       have PJ:al (uc f x mx=kR ⟨mx,ins,bi,outs,a8,aZ,aG,b8⟩ (cD ⟨mx,ins,bi,outs,a8,aZ,aG,b8⟩) (ins.length+bi.length+k)):=(by have :=FR HX.o.upto HX.o.dk (by rw [HO.o];exact ⟨ij,ix⟩);rw [HO.o] at this;exact this:uc f x mx=kR ⟨mx,ins,bi,outs,a8,aZ,aG,b8⟩ (cD ⟨mx,ins,bi,outs,a8,aZ,aG,b8⟩) (ins.length+bi.length+k))
       obtain ⟨q,HQ⟩:∃q,al (kR ⟨mx,ins,bi,outs,a8,aZ,aG,b8⟩ (cD ⟨mx,ins,bi,outs,a8,aZ,aG,b8⟩) (ins.length+bi.length+k)=q):=⟨_,rfl⟩
       go_upto_region 16 with fail
       obtain ⟨W1,jr⟩:∃W,wr.alloc (.cells #[.int .i64 x, .int .i64 y, .int .i64 z] 105)=W:=⟨_,rfl⟩
       rw [jr]
       have hO:At W1 wr.heap.size 105 #[.int .i64 x, .int .i64 y, .int .i64 z]:=jr▸At.new _ _ _
       have lP:al (Fr [] wr W1):=jr▸eE _ _
       have HOB:al (wr.heap.size≠gb):=fun e=>Nat.lt_irrefl _ (e▸HX.o.ms.met.lt)
       clear jr c0 c1 c2 c3 c4 c5 c6 c7 cx cy cz
       generalize wr.heap.size=ob at hO HOB⊢
       have mE:=ae (HX.o.keep lP.o)
       have j4:=ae hO
       have n0:W1.cell? ⟨ob,0,none⟩=some (.int .i64 x):=by rw [hO.cell];rfl
       clear hO
       obtain ⟨c0,c1,c2,c3,c4,c5,c6,c7⟩:=mE.o.cx.cells
       go_wp2_with fail
       cases q with
       |true=>
        refine (sK W1 ga gb (ins.length+bi.length+k) f x mx _ mE.o.ms qD.o ⟨ij,ix⟩ (PJ.o.trans HQ.o) (by simp [ByteArray.size]) (by omega)).mono ?_
        rintro e w2 ⟨rfl,hm,hf⟩
        have ul:=ae (hf.at_ j4.o (by simp;exact HOB.o))
        have rU:=ae (mE.o.put HJ.o xB [97] rfl HQ.o (by rw [HO.o];exact hm) hf)
        clear hm hf c0 c1 c2 c3 c4 c5 c6 c7 n0
        have n0:w2.cell? ⟨ob,0,none⟩=some (.int .i64 x):=by rw [ul.o.cell];rfl
        obtain ⟨c0,c1,c2,c3,c4,c5,c6,c7⟩:=rU.o.cx.cells
        go_upto_region 17 with fail
        by_cases JP:0<k
        ·have hkz:((k:Int)==0)=false:=by rw [beq_eq_false_iff_ne];omega
         obtain ⟨j,rfl⟩:∃j,k=j+1:=⟨k-1,by omega⟩
         obtain ⟨b',o',x',y',z',Bi,dZ,OL,qz,cz',⟨Vb,ZA⟩,_,_,_⟩:=(HH.o.keep rU.o.cx.fr).g.one HH.o.gr (show j<aG.length by omega)
         simp only [Option.some.injEq,Addr.mk.injEq,and_true] at Bi
         obtain ⟨rfl,rfl⟩:=Bi
         clear qz cz'
         have wj:IntKind.i64.wrap (j:Int)=j:=IntWalk.i64_in _ (by omega)
         have wj1:IntKind.i64.wrap ((j:Int)+1-1)=j:=by rw [Int.add_sub_cancel];exact wj
         have hj1:j<aG.length:=by omega
         have RF:(j:Int)<(aG.length:Int):=by omega
         have XV:0≤(j:Int):=by omega
         have amN:((j:Int)+1==0)=false:=by rw [beq_eq_false_iff_ne];omega
         clear wj1
         by_cases hr:x'<x
         ·have dr:decide (x'<x)=true:=decide_eq_true hr
          have HR:=ae hr
          clear hr
          go_still_tail 14,(by kernel_rfl)
          change wpList _ _ _ _ _ w2.drew
          have nu:=ae (rU.o.keep (Fr.refl [] w2).drew)
          generalize w2.drew=w4 at nu⊢
          clear c0 c1 c2 c3 c4 c5 c6 c7 n0 OL
          go_wp2_with fail
          refine (gQ _).mono ?_
          rintro e w5 ⟨rfl,rfl⟩
          go_wp2_with fail
          have Qa:al (∀i,i<j+2→0<i→(aG[i-1]!).a<(aG[i]!).a):=fun i hi h0=>by
           by_cases ei:i=j+1
           ·subst ei;rw [eN,he.o,dZ.o];exact HR.o
           ·exact oG.o i (by omega) h0
          have DC:al (Df w w4 _ ⟨mx,ins,bi,outs,a8,aZ,aG,b8⟩ ga gb (ins.length+bi.length+(j+2)) _):=nu.o
          go_roundg (gk-1)
          case measure=>have :=HK.o;omega
          case rel=>
           refine ⟨j+2,_,?_,?_,DC.o,Qa.o⟩
           ·have :=HK.o;omega
           ·go_num
         ·have dr:decide (x'<x)=false:=decide_eq_false hr
          have HR:al (¬(aG[j+1-1]!).a<(aG[j+1]!).a):=(by rw [eN,he.o,dZ.o];exact hr:¬(aG[j+1-1]!).a<(aG[j+1]!).a)
          have HND:=ae (NRI.o (j+1) bM JP (Int.not_lt.1 HR.o))
          clear hr
          go_still_tail 14,(by kernel_rfl)
          change wpList _ _ _ _ _ w2.drew
          have nu:=ae (rU.o.keep (Fr.refl [] w2).drew)
          generalize w2.drew=w4 at nu⊢
          clear c0 c1 c2 c3 c4 c5 c6 c7 n0 OL
          go_wp2_with fail
          refine (ef _).mono ?_
          unfold eM
          rintro e w5 ⟨rfl,rfl⟩
          go_wp2_with fail
          exact ⟨rfl,NO.o _ HND.o nu.o.cx.fr⟩
        ·obtain rfl :k=0:=by omega
         refine ax ?_
         repeat (go_big_quiet_step (exact bk (gQ _)))
         refine gO ?_
         intro w4 cv
         have nu:=ae (rU.o.keep cv.o)
         clear c0 c1 c2 c3 c4 c5 c6 c7 n0
         go_wp2
         go_roundg (gk-1)
         case measure=>have :=HK.o;omega
         case rel=>
          refine ⟨1,_,?_,?_,nu.o,fun i hi h0=>absurd h0 (by omega)⟩
          ·have :=HK.o;omega
          ·go_num
       |false=>
        refine (qj W1 ga gb (ins.length+bi.length+k) f x mx _ mE.o.ms ⟨ij,ix⟩ (PJ.o.trans HQ.o)).mono ?_
        unfold eM
        rintro e w2 ⟨rfl,rfl⟩
        go_wp2_with fail
        exact ⟨rfl,NO.o _ (NOW.o _ HJ.o HQ.o) mE.o.cx.fr⟩
      ·obtain rfl :k=aG.length:=by omega
       have HT:al (∀j:Nat,j<(cD ⟨mx,ins,bi,outs,a8,aZ,aG,b8⟩).length→kR ⟨mx,ins,bi,outs,a8,aZ,aG,b8⟩ (cD ⟨mx,ins,bi,outs,a8,aZ,aG,b8⟩) j=true):=fun j hj=>HX.o.upto j (by rw [yp.o] at hj;exact hj)
       have HDK:al (Dk f (cD ⟨mx,ins,bi,outs,a8,aZ,aG,b8⟩)):=(by have :=HX.o.dk;rw [←yp.o,eD] at this;exact this:Dk f (cD ⟨mx,ins,bi,outs,a8,aZ,aG,b8⟩))
       go_wp2
       go_ret
       exact pP.o _ _ _ _ _ (kM.o HT.o HRT.o oG.o) HX.o.ms HDK.o HX.o.cx.fr
theorem F2 (w:World):(Instr.typeAssert (.iface 32 (.int .i64 9)) 20 32 true).run Tryz.prog w= .ok (.tuple #[.int .i64 9, .bool true]) w:=by kernel_rfl
theorem Kq (w:World):(Instr.typeAssert .nilIface 20 32 true).run Tryz.prog w= .ok (.tuple #[.int .i64 0, .bool false]) w:=by kernel_rfl
theorem ue (p:Addr) (x:Value) (Tn:List PanicEntry) (w:World) (hc:w.cell? p=some x) (hz:w.frozen? p=false):
  CallsD Tryz.prog 66 #[.pointer (some p)] (.panicking ({ v:= .iface 32 (.int .i64 9),recovered:=false }::Tn)) w fun e u' w'=>
   e= .returned (.tuple #[])∧u'= .panicking ({ v:= .iface 32 (.int .i64 9),recovered:=true }::Tn)∧w'=w.setCell p (.int .i64 9):=by
 refine callsD_of_wpS Tryz.func66 rfl fun c₀ cs hu=> ?_
 apply wpS_seq
 apply wpS_region
 simp [wpOpsS,go_sem,recoverD,hu,Tryz.ntmps66,Exit.thenS,F2]
 apply wpS_seq
 apply wpS_region
 simp [wpOpsS,go_sem,Exit.thenS]
 refine wpS_cond (t:=true) (by simp [Act.eval,Array.replicate]) ?_
 simp only [if_true]
 apply wpS_region
 simp [wpOpsS,go_sem,hc,hz,bodyPostS,results,Tryz.results66]
theorem FY (p:Addr) (w:World):
  CallsD Tryz.prog 66 #[.pointer (some p)] .returning w fun e u' w'=>e= .returned (.tuple #[])∧u'= .returning∧w'=w:=by
 refine callsD_of_wpS Tryz.func66 rfl fun c₀ cs hu=> ?_
 apply wpS_seq
 apply wpS_region
 simp [wpOpsS,go_sem,recoverD,hu,Tryz.ntmps66,Exit.thenS,Kq]
 apply wpS_seq
 apply wpS_region
 simp [wpOpsS,go_sem,Exit.thenS]
 refine wpS_cond (t:=false) (by simp [Act.eval,Array.replicate]) ?_
 simp only [dt,if_false]
 refine wpS_of_wp (wp_skip ?_)
 cases c₀
 simp_all [bodyPostS,results,Tryz.results66]
theorem qT {c:UInt8} (h:0≤ee c):c=105∨c=108∨c=111∨c=98∨c=99:=by
 by_cases e1:c=105
 ·exact .inl e1
 ·by_cases e2:c=108
  ·exact .inr (.inl e2)
  ·by_cases e3:c=111
   ·exact .inr (.inr (.inl e3))
   ·by_cases e4:c=98
    ·exact .inr (.inr (.inr (.inl e4)))
    ·by_cases e5:c=99
     ·exact .inr (.inr (.inr (.inr e5)))
     ·exfalso
      have n1:((105:UInt8)==c)=false:=by rw [beq_eq_false_iff_ne];exact fun h=>e1 h.symm
      have n2:((108:UInt8)==c)=false:=by rw [beq_eq_false_iff_ne];exact fun h=>e2 h.symm
      have n3:((111:UInt8)==c)=false:=by rw [beq_eq_false_iff_ne];exact fun h=>e3 h.symm
      have n4:((98:UInt8)==c)=false:=by rw [beq_eq_false_iff_ne];exact fun h=>e4 h.symm
      have n5:((99:UInt8)==c)=false:=by rw [beq_eq_false_iff_ne];exact fun h=>e5 h.symm
      simp [ee,Lib.indexByte,n1,n2,n3,n4,n5] at h
theorem vD (C:Pc) (k:ByteArray):(∃c,k=⟨#[c]⟩∧0≤ee c∧mX C k=iz C k∧rk k=ee c)∨(iz C k= -1∧¬((k.size:Int)=1∧0≤ee (lH k))):=by
 by_cases h:(k.size:Int)=1∧0≤ee (lH k)
 ·obtain ⟨c,hc⟩:=GS h.1
  subst hc
  have hp:0≤ee c:=h.2
  refine .inl ⟨c,rfl,hp,?_,?_⟩
  ·rcases qT hp with rfl |rfl |rfl |rfl |rfl <;>simp [mX,iz]
  ·rcases qT hp with rfl |rfl |rfl |rfl |rfl <;>simp [rk,ee,Lib.indexByte]
 ·refine .inr ⟨?_,h⟩
  have ne:∀c:UInt8,0≤ee c→(k.toList==[c])=false:=fun c hc=>by
   rw [beq_eq_false_iff_ne]
   intro e
   apply h
   rw [ByteArray.toList_eq] at e
   have hs:k=⟨#[c]⟩:=by
    obtain ⟨⟨l⟩⟩:=k
    simp only at e
    rw [e]
   subst hs
   exact ⟨rfl,hc⟩
  have p1:0≤ee 105:=by decide
  have p2:0≤ee 108:=by decide
  have p3:0≤ee 111:=by decide
  have p4:0≤ee 98:=by decide
  have p5:0≤ee 99:=by decide
  simp [iz,ne 105 p1,ne 108 p2,ne 111 p3,ne 98 p4,ne 99 p5]
theorem vm (C:Pc) (x:Nm):sj C x=sW C x:=by
 unfold sj sW N5 kw
 rcases vD C x.k with ⟨c,hk,hp,hc,_⟩ |⟨hc,hn⟩
 ·have h1:decide ((x.k.size:Int)=1)=true:=by rw [hk];rfl
  have h2:decide (0≤ee (lH x.k))=true:=by rw [hk];exact decide_eq_true hp
  rw [h1,h2,hc]
  simp only [Bool.true_and,Bool.and_assoc]
 ·have h1:(decide ((x.k.size:Int)=1)&&decide (0≤ee (lH x.k)))=false:=by
   rw [Bool.eq_false_iff]
   intro h
   simp only [aD,decide_eq_true_eq] at h
   exact hn h
  rw [h1,hc]
  by_cases h0:0≤x.i
  ·rw [decide_eq_false (show ¬x.i< -1 by omega)]
   simp
  ·rw [decide_eq_false h0]
   simp
theorem OM {C:Pc} (h1:C.ins.length≤64) (h2:C.bi.length≤64) (h3:C.outs.length≤64) (h4:C.a8.length≤64) (h5:C.aZ.length≤64) (k:ByteArray):iz C k≤64:=by
 unfold iz
 split
 ·omega
 ·split
  ·omega
  ·split
   ·omega
   ·split
    ·omega
    ·split<;>omega
theorem vp {C:Pc} {x:Nm} (h:sW C x=true):∃c,x.k=⟨#[c]⟩∧0≤ee c∧rk x.k=ee c∧0≤x.i∧x.i<iz C x.k:=by
 simp only [sW,N5,aD,decide_eq_true_eq] at h
 obtain ⟨⟨⟨⟨h0,h1⟩,_⟩,_⟩,_⟩:=h
 rcases vD C x.k with ⟨c,hk,hp,_,hr⟩ |⟨hc,_⟩
 ·exact ⟨c,hk,hp,hr,h0,h1⟩
 ·omega
theorem yM {C:Pc} {y x:Nm} (hl:∀k,iz C k≤64) (hy:sW C y=true) (hx:sW C x=true):(qR y<qR x↔uz y x=false):=by
 obtain ⟨c1,k1,p1,r1,i1,j1⟩:=vp hy
 obtain ⟨c2,k2,p2,r2,i2,j2⟩:=vp hx
 have l1:=hl y.k
 have l2:=hl x.k
 have e1:lH y.k=c1:=by rw [k1];rfl
 have e2:lH x.k=c2:=by rw [k2];rfl
 have ek:(y.k.toList==x.k.toList)=decide (ee c1=ee c2):=by
  rw [k1,k2,GN,GN]
  rcases qT p1 with rfl |rfl |rfl |rfl |rfl <;>rcases qT p2 with rfl |rfl |rfl |rfl |rfl <;>decide
 unfold qR uz
 rw [e1,e2,r1,r2,ek]
 simp only [dL,Bool.and_eq_false_iff,decide_eq_false_iff_not]
 omega
theorem sV {C:Pc} (hl:∀k,iz C k≤64):fc C C.b8.length↔z8 C=true:=by
 rw [I0]
 constructor
 ·intro h j hj
  obtain ⟨h1,h2⟩:=h j hj
  rw [vm] at h1
  refine ⟨h1,fun h0=> ?_⟩
  have h3:=(h (j-1) (by omega)).1
  rw [vm] at h3
  exact (yM hl h3 h1).1 (h2 h0)
 ·intro h j hj
  obtain ⟨h1,h2⟩:=h j hj
  refine ⟨by rw [vm];exact h1,fun h0=> ?_⟩
  exact (yM hl (h (j-1) (by omega)).1 h1).2 (h2 h0)
theorem QD {C:Pc} (h:∀j:Nat,j<(cD C).length→kR C (cD C) j=true) {x:Int} (hx:x∈cD C):2≤x:=by
 have :=B3 (k:=(cD C).length) h (x:=x) (by rw [eD];exact hx)
 exact this.1
theorem Ja (C:Pc) (h:∀x,x∈cD C→2≤x) (v:Int) (hv:v≠0):qc C v=true↔∃x∈cD C,x/2=v:=by
 unfold qc
 rw [decide_eq_false hv]
 simp only [Bool.false_or,Bool.or_eq_true,bI]
 have hh:∀x,x∈cD C→(hit v x=true↔x/2=v):=fun x hx=>by
  have :=h x hx
  simp [hit,show 0≤x by omega]
 constructor
 ·rintro ((⟨x,hx,e⟩ |⟨x,hx,e⟩) |⟨x,hx,e⟩)
  ·have hm:x∈cD C:=by unfold cD;simp [hx]
   exact ⟨x,hm,(hh x hm).1 e⟩
  ·have hm:x.a∈cD C:=by unfold cD;simp only [ag,az];exact .inl (.inr ⟨x,hx,rfl⟩)
   exact ⟨x.a,hm,(hh _ hm).1 e⟩
  ·have hm:x.a∈cD C:=by unfold cD;simp only [ag,az];exact .inr ⟨x,hx,rfl⟩
   exact ⟨x.a,hm,(hh _ hm).1 e⟩
 ·rintro ⟨x,hm,e⟩
  have e':=(hh x hm).2 e
  unfold cD at hm
  simp only [ag,az] at hm
  rcases hm with (hx |⟨y,hy,rfl⟩) |⟨y,hy,rfl⟩
  ·exact .inl (.inl ⟨x,hx,e'⟩)
  ·exact .inl (.inr ⟨y,hy,e'⟩)
  ·exact .inr ⟨y,hy,e'⟩
theorem U8 {C:Pc} {f:Int→List UInt8} (h:my C) (hd:Dk f (cD C)) {l:Int} (hr:dY l):tc f l=gT C l:=by
 unfold tc gT
 by_cases h0:0≤l
 ·rw [decide_eq_true h0,Bool.true_and,Bool.true_and]
  by_cases h2:l<2
  ·have e:l/2=0:=by omega
   rw [decide_eq_true h2,e]
   simp [qc]
  ·rw [decide_eq_false h2,Bool.false_or]
   have hv:l/2≠0:=by omega
   have hR:dY (l/2):=by unfold dY at hr⊢;omega
   have h3:=Ja C (fun x hx=>QD h.own hx) (l/2) hv
   cases hk:qc C (l/2) with
   |true=>
    obtain ⟨x,hx,e⟩:=h3.1 hk
    have :(f (l/2)).isEmpty=false:=by
     rw [Bool.eq_false_iff]
     intro h5
     exact (hd _ hR).1 h5 x hx e
    rw [this];rfl
   |false=>
    have :(f (l/2)).isEmpty=true:=by
     rw [hd _ hR]
     intro x hx e
     have :=h3.2 ⟨x,hx,e⟩
     rw [hk] at this;cases this
    rw [this];rfl
 ·rw [decide_eq_false h0];rfl
structure ReB (C:Pc):Prop where
 bi:∀j:Nat,j<C.bi.length→gT C (C.bi[j]!).b=true
 aG:∀j:Nat,j<C.aG.length→gT C (C.aG[j]!).b=true∧gT C (C.aG[j]!).c=true∧(C.aG[j]!).b<(C.aG[j]!).a∧(C.aG[j]!).c<(C.aG[j]!).a
 o:C.outs.all (gT C)=true
 b:C.a8.all (gT C)=true
 v:C.aZ.all (gT C)=true
 n:fc C C.b8.length
structure SC (C:Pc):Prop where
 m0:0≤C.mx
 m1:C.mx≤2048
 i:C.ins.length≤64
 l:C.bi.length≤64
 o:C.outs.length≤64
 b:C.a8.length≤64
 v:C.aZ.length≤64
theorem Valid.lens {C:Pc} (h:Valid C):SC C:=by
 have h1:=h.o
 have h2:=h.b
 have h3:=h.v
 simp only [uf,aD,decide_eq_true_eq] at h1 h2 h3
 exact ⟨h.m0,h.m1,h.i,h.l,by omega,by omega,by omega⟩
theorem Valid.abl {C:Pc} (h:Valid C):my C:=by
 refine ⟨h.own,fun j hj=> ?_,fun j hj h0=> ?_⟩
 ·have :=h.bi j hj
  simp only [M0,aD] at this
  exact this.1
 ·have :=h.aG j hj
  simp only [F3,YM,if_neg (show ¬j=0 by omega),aD,decide_eq_true_eq] at this
  exact this.1.1.1.1
theorem Valid.reB {C:Pc} (h:Valid C):ReB C:=by
 have h1:=h.o
 have h2:=h.b
 have h3:=h.v
 have hL:=h.lens
 simp only [uf,aD,decide_eq_true_eq] at h1 h2 h3
 refine ⟨fun j hj=> ?_,fun j hj=> ?_,h1.1,h2.1,h3.1,(sV (fun k=>OM hL.i hL.l hL.o hL.b hL.v k)).2 h.n⟩
 ·have :=h.bi j hj
  simp only [M0,aD] at this
  exact this.2
 ·have :=h.aG j hj
  simp only [F3,aD,decide_eq_true_eq] at this
  exact ⟨this.1.2,this.2,this.1.1.1.2,this.1.1.2⟩
theorem Mm {C:Pc} (hL:SC C) (hd:my C) (hr:ReB C):Valid C:=by
 refine ⟨hL.m0,hL.m1,hL.i,hL.l,(sV (fun k=>OM hL.i hL.l hL.o hL.b hL.v k)).1 hr.n,fun j hj=> ?_,fun j hj=> ?_,hd.own,?_,?_,?_⟩
 ·simp only [M0,aD]
  exact ⟨hd.rst j hj,hr.bi j hj⟩
 ·obtain ⟨h1,h2,h3,h4⟩:=hr.aG j hj
  by_cases h0:j=0
  ·simp [F3,YM,h0] at h1 h2 h3 h4⊢
   subst h0
   exact ⟨⟨⟨h3,h4⟩,h1⟩,h2⟩
  ·have h5:=hd.ris j hj (by omega)
   simp only [F3,YM,if_neg h0,aD,decide_eq_true_eq]
   exact ⟨⟨⟨⟨h5,h3⟩,h4⟩,h1⟩,h2⟩
 ·have :=hL.o;simp only [uf,hr.o,Bool.true_and,decide_eq_true_eq];omega
 ·have :=hL.b;simp only [uf,hr.b,Bool.true_and,decide_eq_true_eq];omega
 ·have :=hL.v;simp only [uf,hr.v,Bool.true_and,decide_eq_true_eq];omega
def U0 (x y:Int):Int:=if y>x then y else x
def Zc (a b c d e:Int):Int:=U0 (U0 (U0 (U0 a b) c) d) e
theorem UZ (x y n:Int):U0 x y≤n↔x≤n∧y≤n:=by unfold U0;split<;>omega
theorem MT (a b c d e n:Int):Zc a b c d e≤n↔(((a≤n∧b≤n)∧c≤n)∧d≤n)∧e≤n:=by simp only [Zc,UZ]
theorem MC (w:World) (ts:Array TypeId) (t:TypeId) (a b c d e:Int):(Builtin.max_ ts t #[.int .i64 a, .int .i64 b, .int .i64 c, .int .i64 d, .int .i64 e]).run Tryz.prog w= .ok (.int .i64 (Zc a b c d e)) w:=by
 simp [Builtin.max_,Builtin.max2,Zc,U0]
structure Kx (w wr:World) (H:Hd) (C:Pc) (r:Nat):Prop where
 cx:Cx w wr H C
 rs:At wr r 32 #[.int .i64 0]
theorem Kx.keep {w wr w':World} {H:Hd} {C:Pc} {r:Nat} (h:Kx w wr H C r) (hf:Fr [] wr w'):Kx w w' H C r:=⟨h.cx.keep hf,h.rs.keep hf⟩
theorem Kx.start (w:World) (H:Hd) (C:Pc):Kx w ((w.alloc (.cells (kj H C) 27)).alloc (.cells #[.int .i64 0] 32)) H C (w.heap.size+1):=by
 refine ⟨(Cx.start w H C).keep (eE _ _),?_⟩
 have :=At.new (w.alloc (.cells (kj H C) 27)) 32 #[.int .i64 0]
 simpa using this
theorem ev (R:Ending→World→Prop) (tmps:Array Value) (r:Nat) (wx:World) (h2:tmps.getD 2 undef= .pointer (some ⟨r,0,none⟩)) (hc:At wx r 32 #[.int .i64 0])
  (hR:R (.returned (.int .i64 9)) (wx.setCell ⟨r,0,none⟩ (.int .i64 9))):
  bodyPostD Tryz.prog Tryz.f36 R (Exit.panic [{ v:= .iface 32 (.int .i64 9),recovered:=false }])
   { tmps:=tmps,defers:=[{ target:=Target.fn (Fn.func 66) #[.pointer (some ⟨r,0,none⟩)],args:=#[] }] } wx:=by
 refine leaves_cons (f:=66) (args:=#[.pointer (some ⟨r,0,none⟩)]) (by simp) (by simp [go_sem]) ?_
 refine (ue ⟨r,0,none⟩ (.int .i64 0) [] _ (by rw [hc.cell];rfl) (hc.frozen 0)).mono ?_
 rintro e u' xu ⟨rfl,rfl,rfl⟩
 have sJ:(wx.setCell ⟨r,0,none⟩ (.int .i64 9)).cell? ⟨r,0,none⟩=some (.int .i64 9):=by
  have :=(hc.eo 0 (.int .i64 9)).cell 0
  rw [this];rfl
 have jU:(results Tryz.f36 tmps).run Tryz.prog (wx.setCell ⟨r,0,none⟩ (.int .i64 9))= .ok (.int .i64 9) (wx.setCell ⟨r,0,none⟩ (.int .i64 9)):=by
  simp only [Array.getD_eq_getD_getElem?] at h2
  simp [results,Tryz.results36,go_sem,h2,sJ]
 exact ⟨_,jU,hR⟩
theorem Sb (R:Ending→World→Prop) (tmps:Array Value) (r:Nat) (wx:World) (h2:tmps.getD 2 undef= .pointer (some ⟨r,0,none⟩)) (hc:At wx r 32 #[.int .i64 0])
  (hR:R (.returned (.int .i64 0)) wx):
  bodyPostD Tryz.prog Tryz.f36 R Exit.ret
   { tmps:=tmps,defers:=[{ target:=Target.fn (Fn.func 66) #[.pointer (some ⟨r,0,none⟩)],args:=#[] }] } wx:=by
 refine leaves_cons (f:=66) (args:=#[.pointer (some ⟨r,0,none⟩)]) (by simp) (by simp [go_sem]) ?_
 refine (FY ⟨r,0,none⟩ _).mono ?_
 rintro e u' xu ⟨rfl,rfl,rfl⟩
 have sJ:xu.cell? ⟨r,0,none⟩=some (.int .i64 0):=by rw [hc.cell];rfl
 have jU:(results Tryz.f36 tmps).run Tryz.prog xu= .ok (.int .i64 0) xu:=by
  simp only [Array.getD_eq_getD_getElem?] at h2
  simp [results,Tryz.results36,go_sem,h2,sJ]
 exact ⟨_,jU,hR⟩
theorem F4 {f:Int→List UInt8} {C:Pc} {xs:List Int} (hr:Ra xs) (h:∀l,dY l→tc f l=gT C l):xs.all (tc f)=xs.all (gT C):=by
 rw [Bool.eq_iff_iff,kO,kO]
 have hh:∀x∈xs,tc f x=gT C x:=fun x hx=>by
  obtain ⟨j,hj,e⟩:=List.mem_iff_getElem.1 hx
  have :=hr j hj
  rw [aa,af hj,e] at this
  exact h x this
 exact ⟨fun h1 x hx=>by rw [←hh x hx];exact h1 x hx,fun h1 x hx=>by rw [hh x hx];exact h1 x hx⟩
theorem oE (w:World) (H:Hd) (C:Pc) (h:iy w H C):
  Calls Tryz.prog 36 #[eX H C] w (PP C w):=by
 have HH:=ae h
 have hmr:=h.mr
 have hiL:=h.iL
 have hlL:=h.lL
 have hoL:=h.oL
 have hbL:=h.bL
 have hvL:=h.vL
 have hgL:=h.gL
 unfold dY at hmr
 obtain ⟨vO,pF⟩:=hmr
 clear h
 have Lp:al (∀r wx,w.heap.size<r→Kx w wx H C r→¬Valid C→PP C w (.returned (.int .i64 9)) (wx.setCell ⟨r,0,none⟩ (.int .i64 9))):=fun r wx hr hk hv=>Wx hv (hk.cx.fr.setCell (.inr (Nat.le_of_lt hr)) _)
 have pP:al (∀r wx,w.heap.size<r→Kx w wx H C r→Valid C→PP C w (.returned (.int .i64 0)) (wx.setCell ⟨r,0,none⟩ (.int .i64 0))):=fun r wx hr hk hv=>Si hv (hk.cx.fr.setCell (.inr (Nat.le_of_lt hr)) _)
 have Ld:=ae (Kx.start w H C)
 have VL:=ae (fun h:Valid C=>h.lens)
 have VD:=ae (fun h:Valid C=>h.abl)
 have VR:=ae (fun h:Valid C=>h.reB)
 have VO:=ae (fun (h1:SC C) (h2:my C) (h3:ReB C)=>Mm h1 h2 h3)
 have KD:=ae (fun W hW h1 h2 h3 h4=>x9 W H C hW h1 h2 h3 h4)
 have KN:=ae (fun W hW=>B7 W H C hW)
 have KL:al (∀(f:Int→List UInt8),my C→Dk f (cD C)→∀l,dY l→tc f l=gT C l):=fun f h1 h2 l hl=>U8 h1 h2 hl
 have hmf:∀(fn:Fn) (first cap:Array Value) (w:World),(Instr.makeFunc fn first cap).run Tryz.prog w= .ok (.func fn first cap) w:=fun _ _ _ _=>rfl
 have aag:=fun w ts t=>MC w ts t C.ins.length C.bi.length C.outs.length C.a8.length C.aZ.length
 simp only [kj] at Ld
 obtain ⟨mx,ins,bi,outs,a8,aZ,aG,b8⟩:=C
 obtain ⟨iA,iC,lA,lC,oA,oC,bA,bC,vA,vC,gA,gC,nA,nC⟩:=H
 simp only [eX,kj] at *
 go_enter_defers Tryz.func36,Tryz.ntmps36
 go_upto_region 2 with fail
 obtain ⟨W0,Oi⟩:∃W,(w.alloc (.cells #[.int .i64 mx, .slice iA ins.length iC, .slice lA bi.length lC, .slice oA outs.length oC, .slice bA a8.length bC, .slice vA aZ.length vC, .slice gA aG.length gC, .slice nA b8.length nC] 27)).alloc (.cells #[.int .i64 0] 32)=W:=⟨_,rfl⟩
 rw [Oi] at Ld⊢
 obtain ⟨r,lN⟩:∃r,w.heap.size+1=r:=⟨_,rfl⟩
 rw [lN] at Ld⊢
 have hr:w.heap.size<r:=by omega
 clear Oi lN
 obtain ⟨c0,c1,c2,c3,c4,c5,c6,c7⟩:=Ld.o.cx.cells
 by_cases m0:0≤mx
 ·have d0:decide (0≤mx)=true:=decide_eq_true m0
  by_cases m1:mx≤2048
  ·have d1:decide (mx≤2048)=true:=decide_eq_true m1
   obtain ⟨M,D8⟩:∃M,al (Zc ins.length bi.length outs.length a8.length aZ.length=M):=⟨_,rfl⟩
   rw [D8.o] at aag
   by_cases m2:M≤64
   ·have d2:decide (M≤64)=true:=decide_eq_true m2
    have hm5:=(MT ins.length bi.length outs.length a8.length aZ.length 64).1 (by rw [D8.o];exact m2)
    obtain ⟨⟨⟨⟨a1,a2⟩,a3⟩,a4⟩,a5⟩:=hm5
    have b1:ins.length≤64:=by omega
    have b2:bi.length≤64:=by omega
    have b3:outs.length≤64:=by omega
    have b4:a8.length≤64:=by omega
    have b5:aZ.length≤64:=by omega
    have Gv:al (SC ⟨mx,ins,bi,outs,a8,aZ,aG,b8⟩):=⟨m0,m1,b1,b2,b3,b4,b5⟩
    clear a1 a2 a3 a4 a5
    go_wp2_with fail
    refine (gQ _).mono ?_
    rintro e w9 ⟨rfl,rfl⟩
    clear aag hmf
    go_wp2_with fail
    refine (KD.o _ (HH.o.keep Ld.o.cx.fr) b1 b2 m0 m1).mono ?_
    rintro e w1 ⟨CT,hf⟩
    have DI:=ae (Ld.o.keep hf)
    clear hf Ld c0 c1 c2 c3 c4 c5 c6 c7
    rcases CT with ⟨hdo,g,b,n,f,rfl,LG,hdk⟩ |⟨hdo,rfl⟩
    ·have HDO:=ae hdo
     have Ur:=ae LG
     have Yk:=ae (KL.o f hdo hdk)
     clear hdo LG hdk
     obtain ⟨c0,c1,c2,c3,c4,c5,c6,c7⟩:=DI.o.cx.cells
     go_wp2_with fail
     clear c0 c1 c2 c3 c4 c5 c6 c7
     go_loopg [42] bi.length (fun gg i wr=>∃k:Nat,k+gg=bi.length∧i= .int .i64 k∧Kx w wr ⟨iA,iC,lA,lC,oA,oC,bA,bC,vA,vC,gA,gC,nA,nC⟩ ⟨mx,ins,bi,outs,a8,aZ,aG,b8⟩ r∧Ms wr g b n f∧(∀j,j<k→gT ⟨mx,ins,bi,outs,a8,aZ,aG,b8⟩ (bi[j]!).b=true))
     case atStart=>exact ⟨0,by omega,rfl,DI.o,Ur.o,fun j hj=>absurd hj (aI _)⟩
     case round=>
      clear DI Ur
      obtain ⟨k,hk,rfl,hkx,LG,hl⟩:=hrel
      have HK:=ae hk
      have HX:=ae hkx
      have HM:=ae LG
      have HL:=ae hl
      have ly:k≤bi.length:=by omega
      clear hk hkx LG hl
      by_cases bM:k<bi.length
      ·obtain ⟨bb,o,x,y,z,hA,he,cx,cy,cz,_,⟨im,kS⟩,_,_⟩:=(HH.o.keep HX.o.cx.fr).l.one HH.o.lr bM
       simp only at hA
       subst hA
       go_upto_region 7 with fail
       obtain ⟨W1,jr⟩:∃W,wr.alloc (.cells #[.int .i64 x, .int .i64 y, .int .i64 z] 40)=W:=⟨_,rfl⟩
       rw [jr]
       have hO:At W1 wr.heap.size 40 #[.int .i64 x, .int .i64 y, .int .i64 z]:=jr▸At.new _ _ _
       have dy:al (Fr [] wr W1):=jr▸eE _ _
       clear jr cx cy cz
       generalize wr.heap.size=ob at hO⊢
       have n1:W1.cell? ⟨ob,1,none⟩=some (.int .i64 y):=by rw [hO.cell];rfl
       have lP:=ae (HX.o.keep dy.o)
       have Mf:=ae (HM.o.keep dy.o)
       clear hO
       go_wp2_with fail
       refine (lu W1 g b n f y Mf.o ⟨im,kS⟩).mono ?_
       rw [Yk.o y ⟨im,kS⟩]
       obtain ⟨q,HQ⟩:∃q,al (gT ⟨mx,ins,bi,outs,a8,aZ,aG,b8⟩ y=q):=⟨_,rfl⟩
       rw [HQ.o]
       rintro e w2 ⟨rfl,hf⟩
       have mE:=ae (lP.o.keep hf)
       have Gt:=ae (Mf.o.keep hf)
       clear hf n1
       cases q with
       |true=>
        go_wp2_with fail
        refine (gQ _).mono ?_
        rintro e w9 ⟨rfl,rfl⟩
        have Xh:al (∀j,j<k+1→gT ⟨mx,ins,bi,outs,a8,aZ,aG,b8⟩ (bi[j]!).b=true):=fun j hj=>by
         by_cases ej:j=k
         ·subst ej;rw [he.o];exact HQ.o
         ·exact HL.o j (by omega)
        go_wp2
        go_roundg (gk-1)
        case measure=>have :=HK.o;omega
        case rel=>exact ⟨k+1,by have :=HK.o;omega,by go_num,mE.o,Gt.o,Xh.o⟩
       |false=>
        go_wp2_with fail
        refine (ef _).mono ?_
        unfold eM
        rintro e w9 ⟨rfl,rfl⟩
        go_wp2_with fail
        exact ev _ _ r _ rfl mE.o.rs (Lp.o r _ hr mE.o (fun hv=>by have :=(VR.o hv).bi k bM;rw [he.o] at this;rw [HQ.o] at this;cases this))
      ·obtain rfl :k=bi.length:=by omega
       have DI:=HX
       have Ur:=HM
       have Yf:=HL
       clear HX HM HL HK ly bM
       obtain ⟨c0,c1,c2,c3,c4,c5,c6,c7⟩:=DI.o.cx.cells
       go_wp2_with fail
       clear c0 c1 c2 c3 c4 c5 c6 c7
       go_loopg [55] aG.length (fun gg i wr=>∃k:Nat,k+gg=aG.length∧i= .int .i64 k∧Kx w wr ⟨iA,iC,lA,lC,oA,oC,bA,bC,vA,vC,gA,gC,nA,nC⟩ ⟨mx,ins,bi,outs,a8,aZ,aG,b8⟩ r∧Ms wr g b n f∧(∀j,j<k→gT ⟨mx,ins,bi,outs,a8,aZ,aG,b8⟩ (aG[j]!).b=true∧gT ⟨mx,ins,bi,outs,a8,aZ,aG,b8⟩ (aG[j]!).c=true∧(aG[j]!).b<(aG[j]!).a∧(aG[j]!).c<(aG[j]!).a))
       case atStart=>exact ⟨0,by omega,rfl,DI.o,Ur.o,fun j hj=>absurd hj (aI _)⟩
       case round=>
        clear DI Ur
        obtain ⟨k,hk,rfl,hkx,LG,hl⟩:=hrel
        have HK:=ae hk
        have HX:=ae hkx
        have HM:=ae LG
        have HL:=ae hl
        have ly:k≤aG.length:=by omega
        clear hk hkx LG hl
        by_cases bM:k<aG.length
        ·obtain ⟨bb,o,x,y,z,hA,he,cx,cy,cz,_,⟨im,kS⟩,nc,A8⟩:=(HH.o.keep HX.o.cx.fr).g.one HH.o.gr bM
         simp only at hA
         subst hA
         have HVA:al (Valid ⟨mx,ins,bi,outs,a8,aZ,aG,b8⟩→gT ⟨mx,ins,bi,outs,a8,aZ,aG,b8⟩ y=true∧gT ⟨mx,ins,bi,outs,a8,aZ,aG,b8⟩ z=true∧y<x∧z<x):=fun hv=>by
          have :=(VR.o hv).aG k bM
          rw [he.o] at this
          exact this
         go_upto_region 12 with fail
         obtain ⟨W1,jr⟩:∃W,wr.alloc (.cells #[.int .i64 x, .int .i64 y, .int .i64 z] 105)=W:=⟨_,rfl⟩
         rw [jr]
         have hO:At W1 wr.heap.size 105 #[.int .i64 x, .int .i64 y, .int .i64 z]:=jr▸At.new _ _ _
         have dy:al (Fr [] wr W1):=jr▸eE _ _
         clear jr cx cy cz
         generalize wr.heap.size=ob at hO⊢
         have HO:=ae hO
         have n1:W1.cell? ⟨ob,1,none⟩=some (.int .i64 y):=by rw [hO.cell];rfl
         have lP:=ae (HX.o.keep dy.o)
         have Mf:=ae (HM.o.keep dy.o)
         clear hO
         go_wp2_with fail
         refine (lu W1 g b n f y Mf.o ⟨im,kS⟩).mono ?_
         rw [Yk.o y ⟨im,kS⟩]
         obtain ⟨q,HQ⟩:∃q,al (gT ⟨mx,ins,bi,outs,a8,aZ,aG,b8⟩ y=q):=⟨_,rfl⟩
         rw [HQ.o]
         rintro e w2 ⟨rfl,hf⟩
         have mE:=ae (lP.o.keep hf)
         have Gt:=ae (Mf.o.keep hf)
         have ul:=ae (HO.o.keep hf)
         clear hf n1
         have n0:w2.cell? ⟨ob,0,none⟩=some (.int .i64 x):=by rw [ul.o.cell];rfl
         have n1:w2.cell? ⟨ob,1,none⟩=some (.int .i64 y):=by rw [ul.o.cell];rfl
         have n2:w2.cell? ⟨ob,2,none⟩=some (.int .i64 z):=by rw [ul.o.cell];rfl
         cases q with
         |true=>
          go_wp2_with fail
          refine (lu w2 g b n f z Gt.o ⟨nc,A8⟩).mono ?_
          rw [Yk.o z ⟨nc,A8⟩]
          obtain ⟨p,HP⟩:∃p,al (gT ⟨mx,ins,bi,outs,a8,aZ,aG,b8⟩ z=p):=⟨_,rfl⟩
          rw [HP.o]
          rintro e w3 ⟨rfl,hf⟩
          have rU:=ae (mE.o.keep hf)
          have Us:=ae (Gt.o.keep hf)
          have sP:=ae (ul.o.keep hf)
          clear hf n0 n1 n2
          have n0:w3.cell? ⟨ob,0,none⟩=some (.int .i64 x):=by rw [sP.o.cell];rfl
          have n1:w3.cell? ⟨ob,1,none⟩=some (.int .i64 y):=by rw [sP.o.cell];rfl
          have n2:w3.cell? ⟨ob,2,none⟩=some (.int .i64 z):=by rw [sP.o.cell];rfl
          cases p with
          |true=>
           by_cases l1:y<x
           ·have t1:decide (y<x)=true:=decide_eq_true l1
            by_cases l2:z<x
            ·have t2:decide (z<x)=true:=decide_eq_true l2
             go_wp2_with fail
             refine (gQ _).mono ?_
             rintro e w9 ⟨rfl,rfl⟩
             have Xh:al (∀j,j<k+1→gT ⟨mx,ins,bi,outs,a8,aZ,aG,b8⟩ (aG[j]!).b=true∧gT ⟨mx,ins,bi,outs,a8,aZ,aG,b8⟩ (aG[j]!).c=true∧(aG[j]!).b<(aG[j]!).a∧(aG[j]!).c<(aG[j]!).a):=fun j hj=>by
              by_cases ej:j=k
              ·subst ej;rw [he.o];exact ⟨HQ.o,HP.o,l1,l2⟩
              ·exact HL.o j (by omega)
             go_wp2
             go_roundg (gk-1)
             case measure=>have :=HK.o;omega
             case rel=>exact ⟨k+1,by have :=HK.o;omega,by go_num,rU.o,Us.o,Xh.o⟩
            ·have t2:decide (z<x)=false:=decide_eq_false l2
             go_wp2_with fail
             refine (ef _).mono ?_
             unfold eM
             rintro e w9 ⟨rfl,rfl⟩
             go_wp2_with fail
             exact ev _ _ r _ rfl rU.o.rs (Lp.o r _ hr rU.o (fun hv=>absurd (HVA.o hv).2.2.2 (by omega)))
           ·have t1:decide (y<x)=false:=decide_eq_false l1
            go_wp2_with fail
            refine (ef _).mono ?_
            unfold eM
            rintro e w9 ⟨rfl,rfl⟩
            go_wp2_with fail
            exact ev _ _ r _ rfl rU.o.rs (Lp.o r _ hr rU.o (fun hv=>absurd (HVA.o hv).2.2.1 (by omega)))
          |false=>
           go_wp2_with fail
           refine (ef _).mono ?_
           unfold eM
           rintro e w9 ⟨rfl,rfl⟩
           go_wp2_with fail
           exact ev _ _ r _ rfl rU.o.rs (Lp.o r _ hr rU.o (fun hv=>by have :=(HVA.o hv).2.1;rw [HP.o] at this;cases this))
         |false=>
          go_wp2_with fail
          refine (ef _).mono ?_
          unfold eM
          rintro e w9 ⟨rfl,rfl⟩
          go_wp2_with fail
          exact ev _ _ r _ rfl mE.o.rs (Lp.o r _ hr mE.o (fun hv=>by have :=(HVA.o hv).1;rw [HQ.o] at this;cases this))
        ·obtain rfl :k=aG.length:=by omega
         have nv:=HL
         clear HL HK ly bM
         obtain ⟨c0,c1,c2,c3,c4,c5,c6,c7⟩:=HX.o.cx.cells
         go_wp2_with fail
         refine (sM wr g b n f oA oC outs HM.o (HH.o.keep HX.o.cx.fr).o HH.o.or_ HH.o.oL).mono ?_
         rw [F4 HH.o.or_ Yk.o]
         obtain ⟨qo,HQO⟩:∃q,al (outs.all (gT ⟨mx,ins,bi,outs,a8,aZ,aG,b8⟩)=q):=⟨_,rfl⟩
         rw [HQO.o]
         rintro e w2 ⟨rfl,hf⟩
         have mE:=ae (HX.o.keep hf)
         have Gt:=ae (HM.o.keep hf)
         clear hf c0 c1 c2 c3 c4 c5 c6 c7
         obtain ⟨c0,c1,c2,c3,c4,c5,c6,c7⟩:=mE.o.cx.cells
         cases qo with
         |false=>
          go_wp2_with fail
          refine (ef _).mono ?_
          unfold eM
          rintro e w9 ⟨rfl,rfl⟩
          go_wp2_with fail
          exact ev _ _ r _ rfl mE.o.rs (Lp.o r _ hr mE.o (fun hv=>by have :=(VR.o hv).o;simp only at this;rw [HQO.o] at this;cases this))
         |true=>
          go_wp2_with fail
          refine (sM w2 g b n f bA bC a8 Gt.o (HH.o.keep mE.o.cx.fr).b HH.o.br HH.o.bL).mono ?_
          rw [F4 HH.o.br Yk.o]
          obtain ⟨qb,HQB⟩:∃q,al (a8.all (gT ⟨mx,ins,bi,outs,a8,aZ,aG,b8⟩)=q):=⟨_,rfl⟩
          rw [HQB.o]
          rintro e w3 ⟨rfl,hf⟩
          have rU:=ae (mE.o.keep hf)
          have Us:=ae (Gt.o.keep hf)
          clear hf c0 c1 c2 c3 c4 c5 c6 c7
          obtain ⟨c0,c1,c2,c3,c4,c5,c6,c7⟩:=rU.o.cx.cells
          cases qb with
          |false=>
           go_wp2_with fail
           refine (ef _).mono ?_
           unfold eM
           rintro e w9 ⟨rfl,rfl⟩
           go_wp2_with fail
           exact ev _ _ r _ rfl rU.o.rs (Lp.o r _ hr rU.o (fun hv=>by have :=(VR.o hv).b;simp only at this;rw [HQB.o] at this;cases this))
          |true=>
           go_wp2_with fail
           refine (sM w3 g b n f vA vC aZ Us.o (HH.o.keep rU.o.cx.fr).v HH.o.vr HH.o.vL).mono ?_
           rw [F4 HH.o.vr Yk.o]
           obtain ⟨qv,HQV⟩:∃q,al (aZ.all (gT ⟨mx,ins,bi,outs,a8,aZ,aG,b8⟩)=q):=⟨_,rfl⟩
           rw [HQV.o]
           rintro e w4 ⟨rfl,hf⟩
           have nu:=ae (rU.o.keep hf)
           clear hf c0 c1 c2 c3 c4 c5 c6 c7
           obtain ⟨c0,c1,c2,c3,c4,c5,c6,c7⟩:=nu.o.cx.cells
           cases qv with
           |false=>
            go_wp2_with fail
            refine (ef _).mono ?_
            unfold eM
            rintro e w9 ⟨rfl,rfl⟩
            go_wp2_with fail
            exact ev _ _ r _ rfl nu.o.rs (Lp.o r _ hr nu.o (fun hv=>by have :=(VR.o hv).v;simp only at this;rw [HQV.o] at this;cases this))
           |true=>
            go_wp2_with fail
            refine (KN.o w4 (HH.o.keep nu.o.cx.fr)).mono ?_
            rintro e w5 ⟨qn,rfl,hqn,hf⟩
            have HQN:=ae hqn
            have DC:=ae (nu.o.keep hf)
            clear hf hqn c0 c1 c2 c3 c4 c5 c6 c7
            cases qn with
            |false=>
             go_wp2_with fail
             refine (ef _).mono ?_
             unfold eM
             rintro e w9 ⟨rfl,rfl⟩
             go_wp2_with fail
             exact ev _ _ r _ rfl DC.o.rs (Lp.o r _ hr DC.o (fun hv=>by have :=HQN.o.2 (VR.o hv).n;cases this))
            |true=>
             go_wp2_with fail
             refine (gQ _).mono ?_
             rintro e w9 ⟨rfl,rfl⟩
             have hc:=DC.o.rs.cell 0
             have hz:=DC.o.rs.frozen 0
             simp at hc
             go_wp2_with fail
             have oG:=DC.o.rs.eo 0 (.int .i64 0)
             simp at oG
             exact Sb _ _ r _ rfl oG (pP.o r _ hr DC.o (VO.o Gv.o HDO.o ⟨Yf.o,nv.o,HQO.o,HQB.o,HQV.o,HQN.o.1 (by simp)⟩))
    ·unfold eM
     go_wp2_with fail
     exact ev _ _ r _ rfl DI.o.rs (Lp.o r _ hr DI.o (fun hv=>hdo (VD.o hv)))
   ·have d2:decide (M≤64)=false:=decide_eq_false m2
    have HNV:al (¬Valid ⟨mx,ins,bi,outs,a8,aZ,aG,b8⟩):=fun hv=>by
     have hl:=VL.o hv
     have h1:=hl.i
     have h2:=hl.l
     have h3:=hl.o
     have h4:=hl.b
     have h5:=hl.v
     simp only at h1 h2 h3 h4 h5
     exact m2 (by rw [←D8.o,MT];omega)
    go_wp2_with fail
    refine (ef _).mono ?_
    unfold eM
    rintro e w9 ⟨rfl,rfl⟩
    go_wp2_with fail
    exact ev _ _ r _ rfl Ld.o.rs (Lp.o r _ hr Ld.o (HNV.o))
  ·have d1:decide (mx≤2048)=false:=decide_eq_false m1
   have HNV:al (¬Valid ⟨mx,ins,bi,outs,a8,aZ,aG,b8⟩):=fun hv=>by
    have hl:=(VL.o hv).m1
    simp only at hl
    omega
   go_wp2_with fail
   refine (ef _).mono ?_
   unfold eM
   rintro e w9 ⟨rfl,rfl⟩
   go_wp2_with fail
   exact ev _ _ r _ rfl Ld.o.rs (Lp.o r _ hr Ld.o (HNV.o))
 ·have d0:decide (0≤mx)=false:=decide_eq_false m0
  have HNV:al (¬Valid ⟨mx,ins,bi,outs,a8,aZ,aG,b8⟩):=fun hv=>by
   have hl:=(VL.o hv).m0
   simp only at hl
   omega
  go_wp2_with fail
  refine (ef _).mono ?_
  unfold eM
  rintro e w9 ⟨rfl,rfl⟩
  go_wp2_with fail
  exact ev _ _ r _ rfl Ld.o.rs (Lp.o r _ hr Ld.o (HNV.o))
def tP (eO x:Int):Bool:=decide (x<0) ||decide (eO<x/2)
theorem QP (w:World) (a b:Nat) (eO x:Int) (h1:w.cell? ⟨a,0,none⟩=some (.bool false)) (h2:w.cell? ⟨b,0,none⟩=some (.int .i64 eO)) (hr:dY x):
  Calls Tryz.prog 99 #[.int .i64 x, .pointer (some ⟨a,0,none⟩), .pointer (some ⟨b,0,none⟩)] w fun e w'=>e= .returned (.bool (tP eO x))∧Fr [] w w':=by
 unfold dY at hr
 obtain ⟨Vw,jU⟩:=hr
 have e1:=Ext.cell h1
 have e2:=Ext.cell h2
 have hK:al (∀s,tP eO x=s→Ending.returned (.bool s)= .returned (.bool (tP eO x))):=fun s h=>by rw [h]
 by_cases l0:x<0
 ·have d0:decide (x<0)=true:=decide_eq_true l0
  have HB:al (tP eO x=true):=(by simp [tP,d0]:tP eO x=true)
  have KV:=ae (fun W=>vu W x l0)
  go_enter Tryz.func99,Tryz.ntmps99
  go_wp2
  refine ax ?_
  repeat (go_big_quiet_step (exact bk (KV.o _)))
  refine gO ?_
  intro w2 bl
  go_wp2
  go_ret
  exact ⟨hK.o _ HB.o,bl.o⟩
 ·have d0:decide (x<0)=false:=decide_eq_false l0
  have KV:=ae (fun W=>kb W x (by omega) jU)
  obtain ⟨q,HQ⟩:∃q,al (decide (eO<x/2)=q):=⟨_,rfl⟩
  have HB:al (tP eO x=q):=(by simp only [tP,d0,HQ.o,Bool.false_or]:tP eO x=q)
  have dq:=HQ.o
  cases q with
  |true=>
   go_enter Tryz.func99,Tryz.ntmps99
   go_wp2
   refine ax ?_
   repeat (go_big_quiet_step (exact bk (KV.o _)))
   refine gO ?_
   intro w2 bl
   go_wp2
   go_ret
   exact ⟨hK.o _ HB.o,bl.o⟩
  |false=>
   go_enter Tryz.func99,Tryz.ntmps99
   go_wp2
   refine ax ?_
   repeat (go_big_quiet_step (exact bk (KV.o _)))
   refine gO ?_
   intro w2 bl
   go_wp2
   go_ret
   exact ⟨hK.o _ HB.o,bl.o⟩
def QS (eO:Int) (xs:List Int):Bool:=xs.all fun x=>decide (0≤x)&&decide (x≤2*eO+1)
theorem UW (eO:Int) (xs:List Int):(xs.any (tP eO))= !QS eO xs:=by
 unfold QS
 rw [List.not_all_eq_any_not]
 congr 1
 funext x
 unfold tP
 rw [Bool.eq_iff_iff]
 simp
 omega
def Zi (b:Bool):Int:=if b then 0 else 4
theorem Ad (w:World) (eO:Int) (A:Option Addr) (c:Nat) (xs:List Int) (h0:0≤eO) (h1:eO≤2048) (hx:Rd w A xs) (hr:Ra xs) (hl:xs.length≤17592186044416):
  Calls Tryz.prog 73 #[.int .i64 eO, .slice A xs.length c] w fun e w'=>e= .returned (.int .i64 (Zi (QS eO xs)))∧Fr [] w w':=by
 have hmf:∀(fn:Fn) (first cap:Array Value) (w:World),(Instr.makeFunc fn first cap).run Tryz.prog w= .ok (.func fn first cap) w:=fun _ _ _ _=>rfl
 have d0:decide (eO<0)=false:=decide_eq_false (by omega)
 have d1:decide (2048<eO)=false:=decide_eq_false (by omega)
 have hK:al (∀s,Zi (QS eO xs)=s→Ending.returned (.int .i64 s)= .returned (.int .i64 (Zi (QS eO xs)))):=fun s h=>by rw [h]
 have HX:=ae hx
 have HR:=ae hr
 clear hx hr
 go_enter Tryz.func73,Tryz.ntmps73
 go_upto_region 2 with fail
 obtain ⟨W0,Oi⟩:∃W,(w.alloc (.cells #[.int .i64 eO] 3)).alloc (.cells #[.bool false] 4)=W:=⟨_,rfl⟩
 rw [Oi]
 have DK:al (Fr [] w W0):=Oi▸((eE _ _).aj (eE _ _))
 have hb:At W0 w.heap.size 3 #[.int .i64 eO]:=Oi▸(At.new w _ _).alloc _
 have ha:At W0 (w.heap.size+1) 4 #[.bool false]:=by
  rw [←Oi]
  have :=At.new (w.alloc (.cells #[.int .i64 eO] 3)) 4 #[.bool false]
  simpa using this
 have KC:=ae (gW W0 A c xs 99 #[.pointer (some ⟨w.heap.size+1,0,none⟩), .pointer (some ⟨w.heap.size,0,none⟩)] (tP eO) OH (HX.o.keep DK.o) HR.o hl
  (fun W hW x _ hx=>QP W _ _ eO x (hW.aT (by rw [ha.cell];rfl)) (hW.aT (by rw [hb.cell];rfl)) hx))
 clear Oi ha hb
 go_wp2_with fail
 refine KC.o.mono ?_
 rw [UW]
 obtain ⟨q,HQ⟩:∃q,al (QS eO xs=q):=⟨_,rfl⟩
 rw [HQ.o]
 rintro e w2 ⟨rfl,hf⟩
 have HF:=ae (DK.o.aj hf)
 clear hf
 cases q with
 |true=>
  go_wp2
  go_ret
  exact ⟨hK.o _ (by rw [HQ.o];rfl),HF.o⟩
 |false=>
  go_wp2
  go_ret
  exact ⟨hK.o _ (by rw [HQ.o];rfl),HF.o⟩
theorem Yr (w:World):(zeroValue 4).run Tryz.prog w= .ok (.bool false) w:=by kernel_rfl
theorem Kf {P:Program} {e:TypeId} (he:P.underlying e=some .bool) {v:Value} {z:DataW Unit×List MemPlace} (h:plainElem P e v=some z):∃b:Bool,v= .bool b∧z=(.lit (.bool b),[]):=by
 unfold plainElem at h
 rw [he] at h
 cases v<;>simp at h
 subst h
 exact ⟨_,rfl,rfl⟩
def It (w:World) (b n:Nat) (f:Int→Bool):Prop:=∃D:DataW Unit,w.ownsMap Tryz.prog 3 (plainElem Tryz.prog 4) b n D∧∀v,dY v→D.atKey (.int .i64 v) (.lit (.bool false))= .lit (.bool (f v))
theorem It.lt {w:World} {b n:Nat} {f:Int→Bool} (h:It w b n f):b<w.heap.size:=by
 obtain ⟨D,h1,_⟩:=h
 exact h1.lt
theorem It.fr {w w':World} {S:List Nat} {b n:Nat} {f:Int→Bool} (h:It w b n f) (hf:Fr S w w') (hn:b∉S):It w' b n f:=by
 have bM:=h.lt
 obtain ⟨D,⟨es,clock,hb,F,hs,hD⟩,h2⟩:=h
 exact ⟨D,⟨es,clock,(hf.block b bM hn).trans hb,F,hs,hD⟩,h2⟩
theorem It.new (w:World):It (w.alloc (.map #[] 0)) w.heap.size 0 (fun _=>false):=
 ⟨.map [],World.ownsMap_made w _ _ _,fun v _=>rfl⟩
theorem I5 {P:Program} {k e t:TypeId} (K:Maps.Keyed P k) (ht:P.underlying t=some (.map k e)) (he:P.underlying e=some .bool) {w:World} (hz:(zeroValue e).run P w= .ok (.bool false) w) {b n:Nat} {D:DataW Unit}
  (h1:w.ownsMap P k (plainElem P e) b n D) {key:Value} {kl:Lit} (VY:keyOf P k key=some kl) {s:Bool} (h2:D.atKey kl (.lit (.bool false))= .lit (.bool s)):
  (Instr.lookup t (.map (some b)) key false).run P w= .ok (.bool s) w:=by
 obtain ⟨x,ps,hr,hx⟩:=h1.lookup K ht hz (plainElem_bool he false) VY
 obtain ⟨y,rfl,hz⟩:=Kf he hx
 have h4:=(Prod.mk.inj hz).1
 refine hr.trans ?_
 have h5:(DataW.lit (H:=Unit) (.bool y))= .lit (.bool s):=by rw [←h4];exact h2
 injection h5 with h5
 injection h5 with h5
 rw [←h5]
theorem It.look {w:World} {b n:Nat} {f:Int→Bool} (h:It w b n f) {v:Int} (hv:dY v):
  (Instr.lookup 169 (.map (some b)) (.int .i64 v) false).run Tryz.prog w= .ok (.bool (f v)) w:=by
 obtain ⟨D,h1,h2⟩:=h
 exact I5 (Maps.int_keyed Tryz.underlying3) Tryz.underlying169 Tryz.underlying4 (Yr w) h1 (QQ hv) (h2 v hv)
theorem QA {D:DataW Unit} (hD:Maps.IsMap D) {v x:Int} {d:DataW Unit} {f:Int→Bool} {s:Bool} (hd:d= .lit (.bool s)) (h:dY x→D.atKey (.int .i64 x) (.lit (.bool false))= .lit (.bool (f x))) (hx:dY x):
  (D.put (.int .i64 v) d).atKey (.int .i64 x) (.lit (.bool false))= .lit (.bool (if x=v then s else f x)):=by
 by_cases e:x=v
 ·subst e
  rw [if_pos rfl,Maps.atKey_put_same hD (by simp [WideAt.IsKeyLit]),hd]
 ·rw [if_neg e,Maps.atKey_put_other (by simpa using e),h hx]
theorem dW {α:Type} [Inhabited α] {l:List α} {p:α→Prop}:(∀j:Nat,j<l.length→p l[j]!)↔∀x∈l,p x:=by
 constructor
 ·intro h x hx
  obtain ⟨j,hj,e⟩:=List.mem_iff_getElem.1 hx
  have :=h j hj
  rwa [aa,af hj,e] at this
 ·intro h j hj
  exact h _ (by rw [aa,af hj];simp)
theorem BP (w:World) (A:Option Addr) (c:Nat) (xs:List Int) (n:Int) (h:Rd w A xs) (hr:Ra xs) (hl:xs.length≤17592186044416):
  Calls Tryz.prog 162 #[.slice A xs.length c, .int .i64 n] w (LZ (xs.any (n== ·)) w):=by
 have HH:=ae h
 have HR:=ae hr
 have pP:al (∀(k:Nat) W,k≤17592186044416→xs.any (n== ·)=true→Fr [] w W→LZ (xs.any (n== ·)) w (.returned (.int .i64 (k:Int))) W):=fun k W h1 h2 h3=>⟨k,rfl,by omega,by omega,by rw [h2];exact decide_eq_true (by omega),h3⟩
 have NO:al (∀W,xs.any (n== ·)=false→Fr [] w W→LZ (xs.any (n== ·)) w (.returned (.int .i64 (-1))) W):=fun W h2 h3=>⟨-1,rfl,by omega,by omega,by rw [h2];rfl,h3⟩
 clear h hr
 go_enter Tryz.func162,Tryz.ntmps162
 go_wp2_with fail
 go_loopg [8] xs.length (fun g i wr=>∃k:Nat,k+g=xs.length∧i= .int .i64 k∧Fr [] w wr∧eC xs (n== ·) k)
 case atStart=>exact ⟨0,by omega,rfl,Fr.refl _ _,eC.zero _ _⟩
 case round=>
  obtain ⟨k,hk,rfl,hx,hn⟩:=hrel
  have HK:=ae hk
  have HX:=ae hx
  have HN:=ae hn
  have ly:k≤xs.length:=by omega
  clear hk hx hn
  by_cases bM:k<xs.length
  ·obtain ⟨b,o,x,hA,he,cx,ij,ix⟩:=(HH.o.keep HX.o).one HR.o bM
   subst hA
   obtain ⟨q,HQ⟩:∃q:Bool,al ((n==x)=q):=⟨(n==x),ae rfl⟩
   have hq:=HQ.o
   cases q with
   |true=>
    go_wp2
    go_ret
    exact pP.o k _ (by omega) (rK _ _ k bM (by rw [he.o];exact HQ.o)) HX.o
   |false=>
    go_wp2
    go_roundg (gk-1)
    case measure=>have :=HK.o;omega
    case rel=>exact ⟨k+1,by have :=HK.o;omega,by go_num,HX.o,HN.o.step (by rw [he.o];exact HQ.o)⟩
  ·have HT:=ae (HN.o.all bM)
   clear HN HK
   go_wp2
   go_ret
   exact NO.o _ HT.o HX.o
theorem qah (w:World) (A:Option Addr) (c:Nat) (xs:List Int) (n:Int) (h:Rd w A xs) (hr:Ra xs) (hl:xs.length≤17592186044416):
  Calls Tryz.prog 153 #[.slice A xs.length c, .int .i64 n] w fun e w'=>e= .returned (.bool (xs.any (n== ·)))∧Fr [] w w':=by
 have HC:=ae (BP w A c xs n h hr hl)
 clear h hr
 go_enter Tryz.func153,Tryz.ntmps153
 go_wp2_with fail
 refine HC.o.mono ?_
 rintro e w2 ⟨n,rfl,h1,h2,h3,hf⟩
 have H3:=ae h3
 have HF:=ae hf
 clear h3 hf
 go_wp2
 go_ret
 exact ⟨by rw [←H3.o];rfl,HF.o⟩
theorem It.store {w:World} {b n:Nat} {f:Int→Bool} (h:It w b n f) (hn:n<maxLen) {v:Int} (hv:dY v) (s:Bool):
  ∃w',(Instr.mapUpdate 169 (.map (some b)) (.int .i64 v) (.bool s)).run Tryz.prog w= .ok () w'∧It w' b (n+1) (fun x=>if x=v then s else f x)∧Fr [b] w w':=by
 obtain ⟨D,h1,h2⟩:=h
 obtain ⟨w',hr,g1,g2⟩:=h1.update (Maps.int_keyed Tryz.underlying3) Tryz.underlying169 hn (QQ hv) (plainElem_bool Tryz.underlying4 s)
 exact ⟨w',hr,⟨_,g1,fun x hx=>QA h1.isMap rfl (fun hr=>h2 x hr) hx⟩,(Fr.refl _ w).grown g2 (fun k hk=>by cases hk;exact .inl (by simp))⟩
def qC (w:World) (b n:Nat) (l:List Int):Prop:=∃f,It w b n f∧∀x,f x=true↔x∈l
theorem qC.new (w:World):qC (w.alloc (.map #[] 0)) w.heap.size 0 []:=⟨_,It.new w,fun x=>by simp⟩
theorem qC.look {w:World} {b n:Nat} {l:List Int} (h:qC w b n l) {v:Int} (hv:dY v):
  (Instr.lookup 169 (.map (some b)) (.int .i64 v) false).run Tryz.prog w= .ok (.bool (decide (v∈l))) w:=by
 obtain ⟨f,h1,h2⟩:=h
 have e:decide (v∈l)=f v:=by
  rw [Bool.eq_iff_iff,decide_eq_true_iff]
  exact (h2 v).symm
 rw [e]
 exact h1.look hv
theorem qC.store {w:World} {b n:Nat} {l:List Int} (h:qC w b n l) (hn:n<maxLen) {v:Int} (hv:dY v):
  ∃w',(Instr.mapUpdate 169 (.map (some b)) (.int .i64 v) (.bool true)).run Tryz.prog w= .ok () w'∧qC w' b (n+1) (v::l)∧Fr [b] w w':=by
 obtain ⟨f,h1,h2⟩:=h
 obtain ⟨w',hr,g1,g2⟩:=h1.store hn hv true
 refine ⟨w',hr,⟨_,g1,fun x=> ?_⟩,g2⟩
 simp only [av]
 by_cases e:x=v
 ·simp [e]
 ·rw [if_neg e,h2 x]
  simp [e]
theorem qC.fr {w w':World} {S:List Nat} {b n:Nat} {l:List Int} (h:qC w b n l) (hf:Fr S w w') (hn:b∉S):qC w' b n l:=by
 obtain ⟨f,h1,h2⟩:=h
 exact ⟨f,h1.fr hf hn,h2⟩
theorem qC.keep {w w':World} {b n:Nat} {l:List Int} (h:qC w b n l) (hf:Fr [] w w'):qC w' b n l:=h.fr hf (by simp)
theorem qC.congr {w:World} {b n:Nat} {l l':List Int} (h:qC w b n l) (he:∀x,x∈l↔x∈l'):qC w b n l':=by
 obtain ⟨f,h1,h2⟩:=h
 exact ⟨f,h1,fun x=>(h2 x).trans (he x)⟩
theorem qC.lt {w:World} {b n:Nat} {l:List Int} (h:qC w b n l):b<w.heap.size:=by
 obtain ⟨f,h1,h2⟩:=h
 exact h1.lt
theorem bf.Wg {w:World} {L:aQ} {S:Sv} (h:bf w L S) {k:Nat} (hk:L.has k):k<w.heap.size:=by
 rcases hk with rfl |hk |hk |hk |hk |hk |hk |hk |⟨n,hn,hk⟩ |⟨c,hc,hk⟩
 ·exact h.obj.lt
 ·exact h.tr.lt k hk
 ·exact h.hp.lt k hk
 ·exact dN h.ux k hk
 ·exact dN h.rws k hk
 ·exact dN h.uv k hk
 ·exact dN h.xv k hk
 ·exact h.tO.lt k hk
 ·exact (h.pr n hn).lt k hk
 ·exact (h.rr c hc).lt k hk
def aQ.shut (L:aQ) (w:World):aQ:={ L with cQ:=fun k=>if k<w.heap.size then L.cQ k else (L.id+1,0,0) }
theorem bf.shut {w:World} {L:aQ} {S:Sv} (h:bf w L S):bf w (L.shut w) S:=h.GY _ (fun k hk=>if_pos (h.Wg hk))
theorem aQ.lY (L:aQ) (w:World):L.ext (L.shut w) w:=⟨rfl,rfl,fun k hk e=>by
 simp only [aQ.shut] at e
 rwa [if_pos hk] at e⟩
theorem aQ.ju {L:aQ} {w:World} {k:Nat} (h:w.heap.size≤k):((L.shut w).cQ k).1≠(L.shut w).id:=by
 simp only [aQ.shut]
 rw [if_neg (by omega)]
 simp
theorem aQ.qag {L:aQ} {w:World} {k:Nat} (h:k<w.heap.size):(L.shut w).cQ k=L.cQ k:=by
 simp only [aQ.shut]
 rw [if_pos h]
def aQ.gh (L:aQ) (A:Option Addr):Prop:=∀k,k∈ap A→(L.cQ k).1≠L.id
theorem aQ.mN {L:aQ} {w:World} {k:Nat} (h:(L.cQ k).1≠L.id):k∉L.own w:=fun hm=>h (aQ.bQ.1 hm).2
theorem Rd.frF {w w':World} {A:Option Addr} {xs:List Int} {F:List Nat} (h:Rd w A xs) (hf:Fr F w w') (hn:∀k,k∈ap A→k∉F):Rd w' A xs:=by
 intro h0
 obtain ⟨b,o,rfl,hx⟩:=h h0
 exact ⟨b,o,rfl,fun j hj=>hf.bD (hn b (by simp [ap])) (hx j hj)⟩
theorem Rd.blk {w:World} {A:Option Addr} {xs:List Int} (h:Rd w A xs) (h0:0<xs.length):∀k,k∈ap A→k<w.heap.size:=by
 obtain ⟨b,o,rfl,hx⟩:=h h0
 intro k hk
 simp [ap] at hk
 subst hk
 exact bE (hx 0 h0)
theorem bf.oN {w w1:World} {L:aQ} {S:Sv} (h:bf w L S) {A':Option Addr} {c':Nat} {F:List Nat} {ls:List Int} (hi:Ints w1 A' c' ls) (hf:Fr F w w1) (hF:∀k,k∈F→k<w.heap.size→L.cQ k=(L.id,7,0))
  (hA:∀k,k∈ap A'→(k<w.heap.size∧L.cQ k=(L.id,7,0))∨w.heap.size≤k):
  ∃L',bf (w1.setCell ⟨L.a,7,none⟩ (.slice A' ls.length c')) L' { S with core:=ls }∧L.ext L' w∧Fr (L.own w) w (w1.setCell ⟨L.a,7,none⟩ (.slice A' ls.length c'))∧L'={ L with oA:=A',oC:=c',cQ:=L.re w (7,0) }:=by
 have bZ:Fr (L.a::F) w (w1.setCell ⟨L.a,7,none⟩ (.slice A' ls.length c')):=(hf.mono (fun k hk=> .inl (by simp [hk]))).setCell (.inl (by simp)) _
 have Bh:∀k,k∈L.a::F→k<w.heap.size→∃t,(t=(7,0)∨t=(0,0))∧L.cQ k=(L.id,t):=by
  intro k hk hl
  rcases av.1 hk with rfl |hk
  ·exact ⟨_, .inr rfl,h.t0⟩
  ·exact ⟨_, .inl rfl,hF k hk hl⟩
 have o:=h.off (P:=fun t=>t=(7,0)∨t=(0,0)) bZ Bh
 have o1:=h.off (P:=(· =(7,0))) hf (fun k hk hl=>⟨_,rfl,hF k hk hl⟩)
 have g:=h.tags (7,0)
 have dI:L.a∉ap A':=fun hk=>by
  rcases hA _ hk with ⟨_,h2⟩ |h2
  ·rw [h.t0] at h2;simp at h2
  ·have :=h.obj.lt;omega
 refine ⟨{ L with oA:=A',oC:=c',cQ:=L.re w (7,0) },⟨?_,o.tr (by simp),o.hp (by simp),h.io,h.AA,h.Ay,o.ux (by simp),o.rws (by simp),o.uv (by simp),o.xv (by simp),?_,fun n hn=>o.pr n hn (by simp),fun c hc=>o.rr c hc (by simp),
  g.t0,g.t1,g.t2,g.t3,g.t4,g.t5,g.t6,fun k hk=>aQ.mK (hA k hk),g.t8,g.t9⟩,⟨rfl,rfl,fun k hk e=>aQ.nZ hk e⟩,aQ.gE bZ (fun k hk hl=>by obtain ⟨t,_,e⟩:=Bh k hk hl;rw [e]),rfl⟩
 ·have :=(o1.obj (by simp)).eo 7 (.slice A' ls.length c')
  simpa [oQ] using this
 ·exact hi.gh (p:=⟨L.a,7,none⟩) dI _
theorem Sv.Ok.oN {S:Sv} {m:Nat} (ok:S.Ok m) (l:List Int):({ S with core:=l }:Sv).Ok m:=⟨ok.vl,ok.tr,ok.hi,ok.hl,ok.ph,ok.wl,ok.ll,ok.wb,ok.wt,ok.lr,ok.ln,ok.lb,ok.hd,ok.rs⟩
theorem Mq {x:Int} {v:Nat} (h0: -(v:Int)≤x) (h1:x≤v) (hv:v≤262143):0≤tv x∧tv x≤v:=by
 unfold tv
 split<;>omega
theorem vq {x:Int} {v:Nat} (h0: -(v:Int)≤x) (h1:x≤v) (hv:v≤262143):(if x< -x then -x else x)=tv x∧IntKind.i64.wrap (-x)= -x:=⟨EH (by omega),IntWalk.i64_in _ (by omega)⟩
namespace Sv
theorem tz {S:Sv} {l:Int} {r g met:List Int} (h:tv l∉g∨S.T.da (tv l)=0):dB S (l::r) g met=dB S r g met:=by
 rw [dB,if_pos h]
theorem F1 {S:Sv} {l:Int} {r g met:List Int} (h:tv l∈g) (h1:S.T.da (tv l)≠0) (h2:S.T.fe (tv l)-1<0):dB S (l::r) g met=dB S r g (l::met):=by
 rw [dB,if_neg (by rintro (x |x);exact x h;exact h1 x),if_pos h2]
theorem Kn {S:Sv} {l:Int} {r g met:List Int} (h:tv l∈g) (h1:S.T.da (tv l)≠0) (h2:¬S.T.fe (tv l)-1<0):dB S (l::r) g met=dB S r ((S.rc (S.T.fe (tv l)-1).toNat).lits.map tv++g) met:=by
 rw [dB,if_neg (by rintro (x |x);exact x h;exact h1 x),if_neg h2]
end Sv
theorem Aa {l:List Int} {j:Nat} (hj:j<l.length) (g:List Int) (x:Int):x∈tv l[j]! ::((l.take j).map tv++g)↔x∈(l.take (j+1)).map tv++g:=by
 rw [List.take_add_one,af hj,fq]
 simp only [aa,af hj,ay,bJ,ag,av,cM,dU,cK,or_false]
 constructor
 ·rintro (h |h |h)
  ·exact .inl (.inr h)
  ·exact .inl (.inl h)
  ·exact .inr h
 ·rintro ((h |h) |h)
  ·exact .inr (.inl h)
  ·exact .inl h
  ·exact .inr (.inr h)
end Go.Proofs.YtdgplmgfkliijaaGreat
