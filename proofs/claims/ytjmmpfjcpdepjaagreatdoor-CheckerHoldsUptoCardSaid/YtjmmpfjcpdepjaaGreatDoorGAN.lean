/- Parts of a proof. -/
import Derived.Test.YtjmmpfjcpdepjaaGreatDoorGAM
import Derived.Deep.CutRange
import Derived.Laws.AppendOwnNone
import Derived.Lib.AppendZeros
set_option linter.unusedVariables false
set_option linter.unusedSimpArgs false
set_option maxHeartbeats 8000000
set_option maxRecDepth 100000
namespace Go.Proofs.YtjmmpfjcpdepjaaGreatDoor
open Go.RowKit
def Pm (A:Option Addr)(c:Nat)(xs cT:List Int)(w w':World):Prop:=∃ys:List Int,ys.Perm xs/\Ints w' A c ys/\Fr (ak A) w w'/\ys=cT
theorem Fk.pm {A:Option Addr}{c:Nat}{xs cT:List Int}{w w':World}{e:Ending}(h:Fk A c xs cT w e w'):e= .returned (.tuple #[])/\Pm A c xs cT w w':=h
theorem Pm.pmp {A:Option Addr}{c:Nat}{xs cT:List Int}{w w':World}(h:Pm A c xs cT w w'):Fk A c xs cT w (.returned (.tuple #[])) w':=⟨rfl,h⟩
theorem Pm.step {A:Option Addr}{c:Nat}{xs ys cT:List Int}{w w' yx:World}(hp:ys.Perm xs)(hf:Fr (ak A) w w')(h:Pm A c ys cT w' yx):Pm A c xs cT w yx:=by obtain⟨zs,h1,h2,h3,h4⟩:=h;exact⟨zs,h1.trans hp,h2,hf.ag h3,h4⟩
theorem Bd (g:Nat)(cb:Array Value)(q:Int->Int->Int)(eg:∀args w,(callFunc g args).run Tryz.prog w= .ok (.enter g args) w)(w:World)(A:Option Addr)(c:Nat)(xs:List Int)(h:Ints w A c xs)(hl:xs.length<=17592186044416)(a m b:Nat)(ss:a<m)(Ot:m<b)(u5:b<=xs.length)(hc:zK g cb q A xs w)(h1:m-a=1)(N:Nat):
  Calls Tryz.prog 216 #[.slice A xs.length c, .int .i64 a, .int .i64 m, .int .i64 b, .func (.func g) #[] cb] w (Fk A c xs (j7 q (N+1) xs a m b) w):=by
 obtain⟨t,ht⟩:∃t:Nat->Bool,(fun h=>decide (q xs[h]! xs[a]! <0))=t:=⟨_,rfl⟩
 have HT:Hid (∀h,t h=decide (q xs[h]! xs[a]! <0)):=fun h=>by rw[<-ht]
 obtain⟨zB,xw⟩:∃I,sO t b m b=I:=⟨_,rfl⟩
 obtain⟨cT,de⟩:∃R,j7 q (N+1) xs a m b=R:=⟨_,rfl⟩
 have dM:Hid (qs (zB-1-a) a xs=cT):=(by rw[<-de,O9 h1,ht,xw]:_=_)
 rw[de];have Sy:=aa xw;clear ht xw de;obtain⟨ga,hA,uy⟩:=h.pos (i:=a) (by omega);subst hA;have HH:=aa h;have HC:=aa hc;have KC:Hid (∀(wr:World),Fr [] w wr->∀i j:Nat,i<xs.length->j<xs.length->∀u:Ext wr,Calls Tryz.prog g (#[.int .i64 xs[i]!, .int .i64 xs[j]!]++cb) u.v fun e W'=>e= .returned (.int .i64 (q xs[i]! xs[j]!))/\Fr [] u.v W'):=fun wr hf i j hi hj u=>HC.out u.v ((hf.ag u.fr).mono (fun k hk=>by cases hk)) _ (a8 hi) _ (a8 hj);have CE:Hid (∀(wr:World),Fr [] w wr->∀i:Nat,i<xs.length->∀u:Ext wr,u.v.cell? ⟨ga,i,none⟩=some (.int .i64 xs[i]!)):=fun wr hf i hi u=>(HH.out.fD (hf.ag u.fr)).cell hi;obtain⟨d1,Av⟩:∃d,m-a=d:=⟨_,rfl⟩
 obtain⟨d2,qj⟩:∃d,b-m=d:=⟨_,rfl⟩
 have w0:IntKind.i64.wrap ((m:Int)-(a:Int))=(d1:Int):=by rw[IntWalk.i64_in _ (by omega)];omega
 have w1:IntKind.i64.wrap ((b:Int)-(m:Int))=(d2:Int):=by rw[IntWalk.i64_in _ (by omega)];omega
 clear h hc;obtain rfl :d1=1:=by omega
 go_enter Tryz.func216,Tryz.ntmps216;go_wp2_with fail;clear w0 w1;go_loopg [10,11] (b-m) (fun g OX Lr wr=>∃(i j:Nat),j=i+g/\m<=i/\j<=b/\OX= .int .i64 i/\Lr= .int .i64 j/\Hid (Fr [] w wr)/\Hid (∃f,j-i<=f/\sO t f i j=zB));case atStart=>exact⟨m,b,by omega,by omega,by omega,rfl,rfl,Fr.refl _ _,⟨b,by omega,Sy.out⟩⟩
 case round=>
  obtain⟨i,j,hg,hi,hj,rfl,rfl,HF,HE⟩:=hrel;have HG:=aa hg;have akQ:i<=j:=by omega
  clear hg;by_cases tM:i<j
  ·have w2:IntKind.i64.wrap ((i:Int)+(j:Int))=(i:Int)+(j:Int):=IntWalk.i64_in _ (by omega);obtain⟨h,hh⟩:∃h:Nat,((i:Int)+(j:Int))/2=(h:Int):=⟨(i+j)/2,by omega⟩
   have h0:i<=h:=by omega
   have h1:h<j:=by omega
   have hx:(h:Int)<(xs.length:Int):=by omega
   have hax:(a:Int)<(xs.length:Int):=by omega
   have w3:IntKind.i64.wrap ((h:Int)+1)=(h:Int)+1:=IntWalk.i64_in _ (by omega);have AK:Hid (q xs[h]! xs[a]! <0->∃f,j-(h+1)<=f/\sO t f (h+1) j=zB):=fun hq=>by obtain⟨f,f1,f2⟩:=HE.out;rw[Cr (h:=h) (by omega) tM (by omega) (by rw[HT.out];exact aai hq)]at f2;exact⟨f-1,by omega,f2⟩
   have AM:Hid (¬q xs[h]! xs[a]! <0->∃f,h-i<=f/\sO t f i h=zB):=fun hq=>by obtain⟨f,f1,f2⟩:=HE.out;rw[IT (h:=h) (by omega) tM (by omega) (by rw[HT.out];exact aah hq)]at f2;exact⟨f-1,by omega,f2⟩
   have rJ:=aa (KC.out wr HF.out h a (by omega) (by omega));have e1:=CE.out wr HF.out h (by omega);have e2:=CE.out wr HF.out a (by omega);obtain⟨x,J6⟩:∃x,xs[h]! =x:=⟨_,rfl⟩
   obtain⟨y,Al⟩:∃y,xs[a]! =y:=⟨_,rfl⟩
   rw[J6]at e1 rJ AK AM;rw[Al]at e2 rJ AK AM;obtain⟨r,hr⟩:∃r,q x y=r:=⟨_,rfl⟩
   rw[hr]at rJ AK AM;have H2:=aa hh;clear J6 Al hr;go_upto_region 5 with fail;clear hh;have hh:=H2.out;try rw[hh]
   clear hh;by_cases kp:r<0
   ·have hd:decide (r<0)=true:=aai kp;have Fy:=aa (AK.out kp);clear AK AM;refine au (by kernel_rfl) (by kernel_rfl) ?_;repeat (go_big_quiet_step (exact bX (rJ.out _)))
    refine aak ?_;rintro w4 ⟨u2,b8⟩;have cG:Hid (Fr [] wr w4):=b8▸u2.fr;clear b8 u2;have cw:=aa (HF.out.ag cG.out);clear e1 e2 HF cG rJ;go_wp2_with fail;go_roundg (j-(h+1));case measure=>have :=HG.out;omega
    case rel=>exact⟨h+1,j,by omega,by omega,by omega,by go_num,rfl,cw.out,Fy.out⟩
   ·have Zq:0<=r:=by omega
    have hd:decide (r<0)=false:=aah kp;have Fy:=aa (AM.out kp);clear AK AM;refine au (by kernel_rfl) (by kernel_rfl) ?_;repeat (go_big_quiet_step (exact bX (rJ.out _)))
    refine aak ?_;rintro w4 ⟨u2,b8⟩;have cG:Hid (Fr [] wr w4):=b8▸u2.fr;clear b8 u2;have cw:=aa (HF.out.ag cG.out);clear e1 e2 HF cG rJ;go_wp2_with fail;go_roundg (h-i);case measure=>have :=HG.out;omega
    case rel=>exact⟨i,h,by omega,by omega,by omega,rfl,rfl,cw.out,Fy.out⟩
  ·have Ew:zB=i:=by obtain⟨f,f1,f2⟩:=HE.out;rw[Cs tM]at f2;exact f2.symm
   obtain⟨p,hp⟩:∃p,i-1=p:=⟨_,rfl⟩
   have HRP:Hid (qs (p-a) a xs=cT):=(by have :=dM.out;rw[Ew,hp]at this;exact this:_=_)
   clear Ew HE;have w2:IntKind.i64.wrap ((i:Int)-1)=(p:Int):=by rw[IntWalk.i64_in _ (by omega)];omega
   have hpb:p<b:=by omega
   have asZ:a<=p:=by omega
   clear hp dM;have Ye:=aa (HH.out.fD HF.out);have Fx:Hid (Fr (ak (some ⟨ga,0,none⟩)) w wr):=HF.out.mono (fun k hk=>by cases hk);clear HF;go_wp2_with fail;go_loopg [13] (p-a) (fun g x13 wr=>∃(k:Nat) (ys:List Int),p=k+g/\a<=k/\x13= .int .i64 k/\Hid (ys.Perm xs)/\Hid (Ints wr (some ⟨ga,0,none⟩) c ys)/\Hid (Fr (ak (some ⟨ga,0,none⟩)) w wr)/\Hid (qs (p-k) k ys=cT));case atStart=>exact⟨a,xs,by omega,by omega,rfl,dy _,Ye.out,Fx.out,HRP.out⟩
   case round=>
    obtain⟨k,ys,hg,hk,rfl,HP,HI,HF,HE⟩:=hrel;have n8:=aa hg;have hlen:=HP.out.length_eq;clear hg Ye Fx;by_cases Ib:k<p
    ·obtain⟨k1,Id⟩:∃k1,k+1=k1:=⟨_,rfl⟩
     have w3:IntKind.i64.wrap ((k:Int)+1)=(k1:Int):=by rw[IntWalk.i64_in _ (by omega)];omega
     have oJ:k<ys.length:=(by omega)
     have Ic:k1<ys.length:=(by omega)
     have c1:=HI.out.cell oJ;have c2:=HI.out.cell Ic;have f1:=HI.out.frozen k;have f2:=HI.out.frozen k1;have dS:¬k=k1:=(by omega)
     have fN:(k:Int)<(xs.length:Int):=(by omega)
     have gd:(k1:Int)<(xs.length:Int):=(by omega)
     have Yb:Hid ((cS ys k k1).Perm xs):=(gR oJ Ic).trans HP.out;have Ln:Hid (qs (p-k1) k1 (cS ys k k1)=cT):=(by have :=HE.out;rw[O2 Ib Id]at this;exact this:_=_)
     have FT:=aa (HI.out.swap k k1);have oz:=aa (HF.out.ag (Fr.swap wr ga k k1 (.int .i64 ys[k1]!) (.int .i64 ys[k]!)));have Fv:=aa Id;obtain⟨x,J6⟩:∃x,ys[k]! =x:=⟨_,rfl⟩
     obtain⟨y,Al⟩:∃y,ys[k1]! =y:=⟨_,rfl⟩
     rw[J6]at c1 FT oz;rw[Al]at c2 FT oz;clear J6 Al hlen oJ Ic Id HI HF HP HE;go_wp2_with fail;go_region;clear c1 c2 f1 f2;go_wp2_with fail;go_roundg (p-k1);case measure=>have :=n8.out;have :=Fv.out;omega
     case rel=>exact⟨k1,cS ys k k1,by have :=Fv.out;omega,by have :=Fv.out;omega,by go_num,Yb.out,FT.out,oz.out,Ln.out⟩
    ·have FF:Hid (Fk (some ⟨ga,0,none⟩) c xs cT w (.returned (.tuple #[])) wr):=⟨rfl,ys,HP.out,HI.out,HF.out,by have :=HE.out;rw[TI Ib]at this;exact this⟩
     go_wp2_with fail;go_end0;exact FF.out
theorem Bc (g:Nat)(cb:Array Value)(q:Int->Int->Int)(eg:∀args w,(callFunc g args).run Tryz.prog w= .ok (.enter g args) w)(w:World)(A:Option Addr)(c:Nat)(xs:List Int)(h:Ints w A c xs)(hl:xs.length<=17592186044416)(a m b:Nat)(ss:a<m)(Ot:m<b)(u5:b<=xs.length)(hc:zK g cb q A xs w)(h1:m-a≠1)(h2:b-m=1)(N:Nat):
  Calls Tryz.prog 216 #[.slice A xs.length c, .int .i64 a, .int .i64 m, .int .i64 b, .func (.func g) #[] cb] w (Fk A c xs (j7 q (N+1) xs a m b) w):=by
 obtain⟨t,ht⟩:∃t:Nat->Bool,(fun h=> !decide (q xs[m]! xs[h]! <0))=t:=⟨_,rfl⟩
 have HT:Hid (∀h,t h= !decide (q xs[m]! xs[h]! <0)):=fun h=>by rw[<-ht]
 obtain⟨zB,xw⟩:∃I,sO t b a m=I:=⟨_,rfl⟩
 obtain⟨cT,de⟩:∃R,j7 q (N+1) xs a m b=R:=⟨_,rfl⟩
 have dM:Hid (OD (m-zB) m xs=cT):=(by rw[<-de,O8 h1 h2,ht,xw]:_=_)
 rw[de];have Sy:=aa xw;clear ht xw de;obtain⟨ga,hA,uy⟩:=h.pos (i:=a) (by omega);subst hA;have HH:=aa h;have HC:=aa hc;have KC:Hid (∀(wr:World),Fr [] w wr->∀i j:Nat,i<xs.length->j<xs.length->∀u:Ext wr,Calls Tryz.prog g (#[.int .i64 xs[i]!, .int .i64 xs[j]!]++cb) u.v fun e W'=>e= .returned (.int .i64 (q xs[i]! xs[j]!))/\Fr [] u.v W'):=fun wr hf i j hi hj u=>HC.out u.v ((hf.ag u.fr).mono (fun k hk=>by cases hk)) _ (a8 hi) _ (a8 hj);have CE:Hid (∀(wr:World),Fr [] w wr->∀i:Nat,i<xs.length->∀u:Ext wr,u.v.cell? ⟨ga,i,none⟩=some (.int .i64 xs[i]!)):=fun wr hf i hi u=>(HH.out.fD (hf.ag u.fr)).cell hi;obtain⟨d1,Av⟩:∃d,m-a=d:=⟨_,rfl⟩
 obtain⟨d2,qj⟩:∃d,b-m=d:=⟨_,rfl⟩
 have w0:IntKind.i64.wrap ((m:Int)-(a:Int))=(d1:Int):=by rw[IntWalk.i64_in _ (by omega)];omega
 have w1:IntKind.i64.wrap ((b:Int)-(m:Int))=(d2:Int):=by rw[IntWalk.i64_in _ (by omega)];omega
 clear h hc;have ke:¬(d1:Int)=1:=by omega
 have qk:((d1:Int)==1)=false:=by simpa using ke
 obtain rfl :d2=1:=by omega
 go_enter Tryz.func216,Tryz.ntmps216;go_wp2_with fail;clear w0 w1 ke qk;go_loopg [14,15] (m-a) (fun g OX Lr wr=>∃(i j:Nat),j=i+g/\a<=i/\j<=m/\OX= .int .i64 i/\Lr= .int .i64 j/\Hid (Fr [] w wr)/\Hid (∃f,j-i<=f/\sO t f i j=zB));case atStart=>exact⟨a,m,by omega,by omega,by omega,rfl,rfl,Fr.refl _ _,⟨b,by omega,Sy.out⟩⟩
 case round=>
  obtain⟨i,j,hg,hi,hj,rfl,rfl,HF,HE⟩:=hrel;have HG:=aa hg;have akQ:i<=j:=by omega
  clear hg;by_cases tM:i<j
  ·have w2:IntKind.i64.wrap ((i:Int)+(j:Int))=(i:Int)+(j:Int):=IntWalk.i64_in _ (by omega);obtain⟨h,hh⟩:∃h:Nat,((i:Int)+(j:Int))/2=(h:Int):=⟨(i+j)/2,by omega⟩
   have h0:i<=h:=by omega
   have h1:h<j:=by omega
   have hx:(h:Int)<(xs.length:Int):=by omega
   have hax:(m:Int)<(xs.length:Int):=by omega
   have w3:IntKind.i64.wrap ((h:Int)+1)=(h:Int)+1:=IntWalk.i64_in _ (by omega);have AK:Hid (¬q xs[m]! xs[h]! <0->∃f,j-(h+1)<=f/\sO t f (h+1) j=zB):=fun hq=>by obtain⟨f,f1,f2⟩:=HE.out;rw[Cr (h:=h) (by omega) tM (by omega) (by rw[HT.out,aah hq];rfl)]at f2;exact⟨f-1,by omega,f2⟩
   have AM:Hid (q xs[m]! xs[h]! <0->∃f,h-i<=f/\sO t f i h=zB):=fun hq=>by obtain⟨f,f1,f2⟩:=HE.out;rw[IT (h:=h) (by omega) tM (by omega) (by rw[HT.out,aai hq];rfl)]at f2;exact⟨f-1,by omega,f2⟩
   have rJ:=aa (KC.out wr HF.out m h (by omega) (by omega));have e1:=CE.out wr HF.out h (by omega);have e2:=CE.out wr HF.out m (by omega);obtain⟨x,J6⟩:∃x,xs[h]! =x:=⟨_,rfl⟩
   obtain⟨y,Al⟩:∃y,xs[m]! =y:=⟨_,rfl⟩
   rw[J6]at e1 rJ AK AM;rw[Al]at e2 rJ AK AM;obtain⟨r,hr⟩:∃r,q y x=r:=⟨_,rfl⟩
   rw[hr]at rJ AK AM;have H2:=aa hh;clear J6 Al hr;go_upto_region 17 with fail;clear hh;have hh:=H2.out;try rw[hh]
   clear hh;by_cases kp:r<0
   ·have hd:decide (r<0)=true:=aai kp;have Fy:=aa (AM.out kp);clear AK AM;refine au (by kernel_rfl) (by kernel_rfl) ?_;repeat (go_big_quiet_step (exact bX (rJ.out _)))
    refine aak ?_;rintro w4 ⟨u2,b8⟩;have cG:Hid (Fr [] wr w4):=b8▸u2.fr;clear b8 u2;have cw:=aa (HF.out.ag cG.out);clear e1 e2 HF cG rJ;go_wp2_with fail;go_roundg (h-i);case measure=>have :=HG.out;omega
    case rel=>exact⟨i,h,by omega,by omega,by omega,rfl,rfl,cw.out,Fy.out⟩
   ·have Zq:0<=r:=by omega
    have hd:decide (r<0)=false:=aah kp;have Fy:=aa (AK.out kp);clear AK AM;refine au (by kernel_rfl) (by kernel_rfl) ?_;repeat (go_big_quiet_step (exact bX (rJ.out _)))
    refine aak ?_;rintro w4 ⟨u2,b8⟩;have cG:Hid (Fr [] wr w4):=b8▸u2.fr;clear b8 u2;have cw:=aa (HF.out.ag cG.out);clear e1 e2 HF cG rJ;go_wp2_with fail;go_roundg (j-(h+1));case measure=>have :=HG.out;omega
    case rel=>exact⟨h+1,j,by omega,by omega,by omega,by go_num,rfl,cw.out,Fy.out⟩
  ·have Ew:zB=i:=by obtain⟨f,f1,f2⟩:=HE.out;rw[Cs tM]at f2;exact f2.symm
   have HRP:Hid (OD (m-i) m xs=cT):=(by have :=dM.out;rw[Ew]at this;exact this:_=_)
   clear Ew HE dM;have him:i<=m:=by omega
   have Ye:=aa (HH.out.fD HF.out);have Fx:Hid (Fr (ak (some ⟨ga,0,none⟩)) w wr):=HF.out.mono (fun k hk=>by cases hk);clear HF;go_wp2_with fail;go_loopg [17] (m-i) (fun g x13 wr=>∃(k:Nat) (ys:List Int),k=i+g/\k<=m/\x13= .int .i64 k/\Hid (ys.Perm xs)/\Hid (Ints wr (some ⟨ga,0,none⟩) c ys)/\Hid (Fr (ak (some ⟨ga,0,none⟩)) w wr)/\Hid (OD (k-i) k ys=cT));case atStart=>exact⟨m,xs,by omega,by omega,rfl,dy _,Ye.out,Fx.out,HRP.out⟩
   case round=>
    obtain⟨k,ys,hg,hk,rfl,HP,HI,HF,HE⟩:=hrel;have n8:=aa hg;have hlen:=HP.out.length_eq;have hik:i<=k:=(by omega)
    clear hg Ye Fx;by_cases Ib:i<k
    ·obtain⟨k1,Id⟩:∃k1,k-1=k1:=⟨_,rfl⟩
     have w3:IntKind.i64.wrap ((k:Int)-1)=(k1:Int):=by rw[IntWalk.i64_in _ (by omega)];omega
     have oJ:k<ys.length:=(by omega)
     have Ic:k1<ys.length:=(by omega)
     have c1:=HI.out.cell oJ;have c2:=HI.out.cell Ic;have f1:=HI.out.frozen k;have f2:=HI.out.frozen k1;have dS:¬k=k1:=(by omega)
     have fN:(k:Int)<(xs.length:Int):=(by omega)
     have gd:(k1:Int)<(xs.length:Int):=(by omega)
     have Yb:Hid ((cS ys k k1).Perm xs):=(gR oJ Ic).trans HP.out;have Ln:Hid (OD (k1-i) k1 (cS ys k k1)=cT):=(by have :=HE.out;rw[Rr Ib Id]at this;exact this:_=_)
     have FT:=aa (HI.out.swap k k1);have oz:=aa (HF.out.ag (Fr.swap wr ga k k1 (.int .i64 ys[k1]!) (.int .i64 ys[k]!)));have Fv:=aa Id;obtain⟨x,J6⟩:∃x,ys[k]! =x:=⟨_,rfl⟩
     obtain⟨y,Al⟩:∃y,ys[k1]! =y:=⟨_,rfl⟩
     rw[J6]at c1 FT oz;rw[Al]at c2 FT oz;clear J6 Al hlen oJ Ic Id HI HF HP HE;go_wp2_with fail;go_region;clear c1 c2 f1 f2;go_wp2_with fail;go_roundg (k1-i);case measure=>have :=n8.out;have :=Fv.out;omega
     case rel=>exact⟨k1,cS ys k k1,by have :=Fv.out;omega,by have :=Fv.out;omega,by go_num,Yb.out,FT.out,oz.out,Ln.out⟩
    ·have FF:Hid (Fk (some ⟨ga,0,none⟩) c xs cT w (.returned (.tuple #[])) wr):=⟨rfl,ys,HP.out,HI.out,HF.out,by have :=HE.out;rw[V0 Ib]at this;exact this⟩
     go_wp2_with fail;go_end0;exact FF.out
def RV (g:Nat)(cb:Array Value)(q:Int->Int->Int)(N:Nat):Prop:=
 ∀(w:World) (A:Option Addr) (c:Nat) (xs:List Int) (h:Ints w A c xs) (hl:xs.length<=17592186044416) (a m b:Nat) (ss:a<m) (Ot:m<b) (u5:b<=xs.length) (hc:zK g cb q A xs w) (hN:b-a<=N),
  Calls Tryz.prog 216 #[.slice A xs.length c, .int .i64 a, .int .i64 m, .int .i64 b, .func (.func g) #[] cb] w (Fk A c xs (j7 q N xs a m b) w)
theorem Be (g:Nat)(cb:Array Value)(q:Int->Int->Int)(eg:∀args w,(callFunc g args).run Tryz.prog w= .ok (.enter g args) w)(w:World)(A:Option Addr)(c:Nat)(xs:List Int)(h:Ints w A c xs)(hl:xs.length<=17592186044416)(a m b:Nat)(ss:a<m)(Ot:m<b)(u5:b<=xs.length)(hc:zK g cb q A xs w)(h1:m-a≠1)(h2:b-m≠1)(N:Nat)(hN:b-a<=N+1)(ih:RV g cb q N):
  Calls Tryz.prog 216 #[.slice A xs.length c, .int .i64 a, .int .i64 m, .int .i64 b, .func (.func g) #[] cb] w (Fk A c xs (j7 q (N+1) xs a m b) w):=by
 obtain⟨cT,de⟩:∃R,j7 q (N+1) xs a m b=R:=⟨_,rfl⟩
 rw[de];obtain⟨ga,hA,uy⟩:=h.pos (i:=a) (by omega);subst hA;have HH:=aa h;have HC:=aa hc;have KC:Hid (∀(wr:World),Fr [] w wr->∀i j:Nat,i<xs.length->j<xs.length->∀u:Ext wr,Calls Tryz.prog g (#[.int .i64 xs[i]!, .int .i64 xs[j]!]++cb) u.v fun e W'=>e= .returned (.int .i64 (q xs[i]! xs[j]!))/\Fr [] u.v W'):=fun wr hf i j hi hj u=>HC.out u.v ((hf.ag u.fr).mono (fun k hk=>by cases hk)) _ (a8 hi) _ (a8 hj);have CE:Hid (∀(wr:World),Fr [] w wr->∀i:Nat,i<xs.length->∀u:Ext wr,u.v.cell? ⟨ga,i,none⟩=some (.int .i64 xs[i]!)):=fun wr hf i hi u=>(HH.out.fD (hf.ag u.fr)).cell hi;obtain⟨d1,Av⟩:∃d,m-a=d:=⟨_,rfl⟩
 obtain⟨d2,qj⟩:∃d,b-m=d:=⟨_,rfl⟩
 have w0:IntKind.i64.wrap ((m:Int)-(a:Int))=(d1:Int):=by rw[IntWalk.i64_in _ (by omega)];omega
 have w1:IntKind.i64.wrap ((b:Int)-(m:Int))=(d2:Int):=by rw[IntWalk.i64_in _ (by omega)];omega
 clear h hc;have ke:¬(d1:Int)=1:=by omega
 have qk:((d1:Int)==1)=false:=by simpa using ke
 have qE:¬(d2:Int)=1:=by omega
 have iK:((d2:Int)==1)=false:=by simpa using qE
 obtain⟨M,hM⟩:∃M:Nat,((a:Int)+(b:Int))/2=(M:Int):=⟨(a+b)/2,by omega⟩
 obtain⟨n,hn⟩:∃n:Nat,M+m=n:=⟨_,rfl⟩
 have wab:IntKind.i64.wrap ((a:Int)+(b:Int))=(a:Int)+(b:Int):=IntWalk.i64_in _ (by omega);have wn:IntKind.i64.wrap ((M:Int)+(m:Int))=(n:Int):=by rw[IntWalk.i64_in _ (by omega)];omega
 have HM:Hid (a<M/\M<b/\M+m=n/\(a+b)/2=M/\n<=2*xs.length):=⟨by omega,by omega,by omega,by omega,by omega⟩
 have HIH:=aa ih;obtain⟨t,ht⟩:∃t:Nat->Bool,(fun h=> !decide (q xs[n-1-h]! xs[h]! <0))=t:=⟨_,rfl⟩
 have HT:Hid (∀h,t h= !decide (q xs[n-1-h]! xs[h]! <0)):=fun h=>by rw[<-ht]
 obtain⟨zB,xw⟩:∃I,sO t b (if M<m then n-b else a) (if M<m then M else m)=I:=⟨_,rfl⟩
 have Sy:=aa xw;have dM:Hid (Bf q N (Bf q N (Pb xs zB m (n-zB)) a zB M) M (n-zB) b=cT):=(by rw[<-de,Pa h1 h2 (by omega) hn rfl ht xw rfl]:_=_)
 clear ht xw de;clear ih;go_enter Tryz.func216,Tryz.ntmps216
 go_upto_if 140 with fail
 clear w0 w1 ke qk qE iK wab wn
 go_cut [20,21] (fun x20 x21 wx=>∃s r:Nat,x20= .int .i64 s/\x21= .int .i64 r/\a<=s/\s<=r/\r<=m/\r<=M/\n<=b+s/\w=wx/\Hid (s=(if M<m then n-b else a)/\r=(if M<m then M else m)))
 case first =>
  as_aux_lemma=>
   obtain⟨m1,m2,m3,m4,m5⟩:=HM.out;by_cases hmM:M<m
   ·obtain⟨s0,hs0⟩:∃s0,n-b=s0:=⟨_,rfl⟩
    have wx:IntKind.i64.wrap ((n:Int)-(b:Int))=(s0:Int):=by rw[IntWalk.i64_in _ (by omega)];omega
    have ZE:(M:Int)<(m:Int):=(by omega)
    have HS:Hid (a<=s0/\s0<=M/\M<=m/\M<=M/\n<=b+s0):=⟨by omega,by omega,by omega,by omega,by omega⟩
    have X6:Hid (s0=(if M<m then n-b else a)/\M=(if M<m then M else m)):=⟨by rw[aae hmM,hs0],by rw[aae hmM]⟩
    clear hs0 m1 m2 m3 m4 m5 Av qj;go_wp2_with fail;go_meet;case rel=>exact⟨s0,M,rfl,rfl,HS.out.1,HS.out.2.1,HS.out.2.2.1,HS.out.2.2.2.1,HS.out.2.2.2.2,rfl,X6.out⟩
   ·have ZE:(m:Int)<=(M:Int):=by omega
    have HS:Hid (a<=a/\a<=m/\m<=m/\m<=M/\n<=b+a):=⟨by omega,by omega,by omega,by omega,by omega⟩
    have X6:Hid (a=(if M<m then n-b else a)/\m=(if M<m then M else m)):=⟨by rw[aac hmM],by rw[aac hmM]⟩
    clear m1 m2 m3 m4 m5 Av qj;go_wp2_with fail;go_meet;case rel=>exact⟨a,m,rfl,rfl,HS.out.1,HS.out.2.1,HS.out.2.2.1,HS.out.2.2.2.1,HS.out.2.2.2.2,rfl,X6.out⟩
 case rest=>
  obtain⟨s0,r0,rfl,rfl,b1,b2,b3,b4,b5,rfl,X6⟩:=hcut;have FU:Hid (sO t b s0 r0=zB):=(by have :=Sy.out;rw[<-X6.out.1,<-X6.out.2]at this;exact this:_=_)
  have HB:=aa (And.intro b1 (And.intro b2 (And.intro b3 (And.intro b4 b5))));have qE:2<=n:=by have :=HM.out;omega
  have ov:n<=2*xs.length:=by have :=HM.out;omega
  obtain⟨p,hp⟩:∃p,n-1=p:=⟨_,rfl⟩
  have wp1:IntKind.i64.wrap ((n:Int)-1)=(p:Int):=by rw[IntWalk.i64_in _ (by omega)];omega
  have HP0:=aa hp;clear b1 b2 b3 b4 b5 hp Av qj;go_wp2_with fail;clear wp1;go_loopg [20,21] (r0-s0) (fun g x20 x21 wr=>∃(s r:Nat),r=s+g/\Hid (a<=s/\r<=m/\r<=M/\n<=b+s)/\x20= .int .i64 s/\x21= .int .i64 r/\Hid (Fr [] w wr)/\Hid (∃f,r-s<=f/\sO t f s r=zB));case atStart=>exact⟨s0,r0,by have :=HB.out;omega,by have :=HB.out;exact⟨by omega,by omega,by omega,by omega⟩,rfl,rfl,Fr.refl _ _,⟨b,by have :=HB.out;omega,FU.out⟩⟩
  case round=>
   obtain⟨s,r,hg,HR,rfl,rfl,HF,HE⟩:=hrel;have HG:=aa hg;have ar2:s<=r:=by omega
   clear hg;by_cases hsr:s<r
   ·as_aux_lemma=>
     have w2:IntKind.i64.wrap ((s:Int)+(r:Int))=(s:Int)+(r:Int):=IntWalk.i64_in _ (by have :=HR.out;omega);obtain⟨h,hh⟩:∃h:Nat,((s:Int)+(r:Int))/2=(h:Int):=⟨(s+r)/2,by omega⟩
     have h0:s<=h:=(by omega)
     have h1:h<r:=(by omega)
     obtain⟨u,hu⟩:∃u,p-h=u:=⟨_,rfl⟩
     have Mp:u<xs.length:=by have :=HR.out;have :=HP0.out;have :=HM.out;omega
     have hhl:h<xs.length:=by have :=HR.out;omega
     have wt:IntKind.i64.wrap ((p:Int)-(h:Int))=(u:Int):=by rw[IntWalk.i64_in _ (by have :=HP0.out;omega)];have :=HR.out;have :=HP0.out;have :=HM.out;omega
     have hx:(h:Int)<(xs.length:Int):=(by omega)
     have htx:(u:Int)<(xs.length:Int):=(by omega)
     have w3:IntKind.i64.wrap ((h:Int)+1)=(h:Int)+1:=IntWalk.i64_in _ (by omega);have AK:Hid (¬q xs[u]! xs[h]! <0->∃f,r-(h+1)<=f/\sO t f (h+1) r=zB):=fun hq=>by obtain⟨f,f1,f2⟩:=HE.out;rw[Cr (h:=h) (by omega) hsr (by omega) (by rw[HT.out,HP0.out,hu,aah hq];rfl)]at f2;exact⟨f-1,by omega,f2⟩
     have AM:Hid (q xs[u]! xs[h]! <0->∃f,h-s<=f/\sO t f s h=zB):=fun hq=>by obtain⟨f,f1,f2⟩:=HE.out;rw[IT (h:=h) (by omega) hsr (by omega) (by rw[HT.out,HP0.out,hu,aai hq];rfl)]at f2;exact⟨f-1,by omega,f2⟩
     have rJ:=aa (KC.out wr HF.out u h Mp hhl);have e1:=CE.out wr HF.out h hhl;have e2:=CE.out wr HF.out u Mp;obtain⟨x,J6⟩:∃x,xs[h]! =x:=⟨_,rfl⟩
     obtain⟨y,Al⟩:∃y,xs[u]! =y:=⟨_,rfl⟩
     rw[J6]at e1 rJ AK AM;rw[Al]at e2 rJ AK AM;obtain⟨z,hz⟩:∃z,q y x=z:=⟨_,rfl⟩
     rw[hz]at rJ AK AM;have H2:=aa hh;clear J6 Al hz hu Mp hhl;go_upto_region 35 with fail;clear hh;have hh:=H2.out;try rw[hh]
     clear hh;by_cases kp:z<0
     ·have hd:decide (z<0)=true:=aai kp;have Fy:=aa (AM.out kp);clear AK AM;refine au (by kernel_rfl) (by kernel_rfl) ?_;repeat (go_big_quiet_step (exact bX (rJ.out _)))
      refine aak ?_;rintro w4 ⟨u2,b8⟩;have cG:Hid (Fr [] wr w4):=b8▸u2.fr;clear b8 u2;have cw:=aa (HF.out.ag cG.out);clear e1 e2 HF cG rJ;go_wp2_with fail;go_roundg (h-s);case measure=>have :=HG.out;omega
      case rel=>exact⟨s,h,by omega,by have :=HR.out;exact⟨by omega,by omega,by omega,by omega⟩,rfl,rfl,cw.out,Fy.out⟩
     ·have Zq:0<=z:=(by omega)
      have hd:decide (z<0)=false:=aah kp;have Fy:=aa (AK.out kp);clear AK AM;refine au (by kernel_rfl) (by kernel_rfl) ?_;repeat (go_big_quiet_step (exact bX (rJ.out _)))
      refine aak ?_;rintro w4 ⟨u2,b8⟩;have cG:Hid (Fr [] wr w4):=b8▸u2.fr;clear b8 u2;have cw:=aa (HF.out.ag cG.out);clear e1 e2 HF cG rJ;go_wp2_with fail;go_roundg (r-(h+1));case measure=>have :=HG.out;omega
      case rel=>exact⟨h+1,r,by omega,by have :=HR.out;exact⟨by omega,by omega,by omega,by omega⟩,by go_num,rfl,cw.out,Fy.out⟩
   ·obtain rfl :s=r:=by omega
    have Ew:zB=s:=by obtain⟨f,f1,f2⟩:=HE.out;rw[Cs hsr]at f2;exact f2.symm
    obtain⟨E,hE⟩:∃E,n-s=E:=⟨_,rfl⟩
    have fM:=dM.out;rw[Ew,hE]at fM;obtain⟨Y1,hY1⟩:∃Y,Pb xs s m E=Y:=⟨_,rfl⟩
    rw[hY1]at fM;obtain⟨Y2,hY2⟩:∃Y,Bf q N Y1 a s M=Y:=⟨_,rfl⟩
    rw[hY2]at fM;have HY1:=aa hY1;have X0:=aa hY2;have HY3:=aa fM;clear Ew fM hY1 hY2 HE;have wE:IntKind.i64.wrap ((n:Int)-(s:Int))=(E:Int):=by have :=HR.out;have :=HM.out;rw[IntWalk.i64_in _ (by omega)];omega
    have HE:Hid (E<=b/\m<=E/\M<=E):=⟨by have :=HR.out;have :=HM.out;omega,by have :=HR.out;have :=HM.out;omega,by have :=HR.out;have :=HM.out;omega⟩
    have Ye:=aa (HH.out.fD HF.out);have Fx:Hid (Fr (ak (some ⟨ga,0,none⟩)) w wr):=HF.out.mono (fun k hk=>by cases hk);clear hE HF KC CE dM;go_upto_region 39 with fail;clear wE;obtain⟨Pw,RQ⟩:∃q,Hid (decide (s<m/\m<E)=q):=⟨_,rfl⟩
    go_cut [185] (fun x wx=>x= .bool Pw/\wr=wx)
    case first =>
     as_aux_lemma=>
      by_cases k1:s<m
      ·have k1i:(s:Int)<(m:Int):=(by omega)
       by_cases k2:m<E
       ·have k2i:(m:Int)<(E:Int):=(by omega)
        have hq:Pw=true:=RQ.out▸aai ⟨k1,k2⟩;go_wp2_with fail;go_meet;case rel=>exact⟨by rw[hq],rfl⟩
       ·have k2i:(E:Int)<=(m:Int):=(by omega)
        have hq:Pw=false:=RQ.out▸aah (fun e=>k2 e.2);go_wp2_with fail;go_meet;case rel=>exact⟨by rw[hq],rfl⟩
      ·have k1i:(m:Int)<=(s:Int):=(by omega)
       have hq:Pw=false:=RQ.out▸aah (fun e=>k1 e.1);go_wp2_with fail;go_meet;case rel=>exact⟨by rw[hq],rfl⟩
    case rest=>
     obtain⟨rfl,rfl⟩:=hcut
     go_upto_if 185 with fail
     go_cut [] (fun wx=>Pm (some ⟨ga,0,none⟩) c xs Y1 w wx)
     case first =>
      as_aux_lemma=>
       cases Pw with
       |true=>
        have hq:=of_decide_eq_true RQ.out;have KR:=aa (Bs wr (some ⟨ga,0,none⟩) c xs Ye.out hl s m E hq.1 hq.2 (by have :=HE.out;omega) g cb);have HYE:Hid (oq m (E-s) (m-s) (E-m) xs=Y1):=(by have :=HY1.out;unfold Pb at this;rw[aae hq]at this;exact this:_=_)
        clear hq;go_wp2_with fail;refine KR.out.mono ?_;clear KR;rintro e w2 ⟨rfl,zs,z1,z2,z3,z4⟩;have FF:Hid (Pm (some ⟨ga,0,none⟩) c xs Y1 w w2):=⟨zs,z1,z2,Fx.out.ag z3,z4.trans HYE.out⟩
        clear z1 z2 z3 z4;go_wp2_with fail;go_meet;case rel=>exact FF.out
       |false=>
        have FF:Hid (Pm (some ⟨ga,0,none⟩) c xs Y1 w wr):=⟨xs,dy _,Ye.out,Fx.out,by have :=HY1.out;unfold Pb at this;rw[aac (of_decide_eq_false RQ.out)]at this;exact this⟩
        go_wp2_with fail;go_meet;case rel=>exact FF.out
     case rest=>
      obtain⟨w5,rfl⟩:∃x,x=wc:=⟨_,rfl⟩
      obtain⟨ys5,y1,y2,y3,y4⟩:=hcut;subst y4;have HP5:=aa y1;have HI5:=aa y2;have kO:=aa y3;have HL5:Hid (ys5.length=xs.length):=y1.length_eq;clear y1 y2 y3;go_upto_region 41 with fail;obtain⟨Pv,RP⟩:∃q,Hid (decide (a<s/\s<M)=q):=⟨_,rfl⟩
      go_cut [199] (fun x wx=>x= .bool Pv/\w5=wx)
      case first =>
       as_aux_lemma=>
        by_cases k1:a<s
        ·have k1i:(a:Int)<(s:Int):=(by omega)
         by_cases k2:s<M
         ·have k2i:(s:Int)<(M:Int):=(by omega)
          have hq:Pv=true:=RP.out▸aai ⟨k1,k2⟩;go_wp2_with fail;go_meet;case rel=>exact⟨by rw[hq],rfl⟩
         ·have k2i:(M:Int)<=(s:Int):=(by omega)
          have hq:Pv=false:=RP.out▸aah (fun e=>k2 e.2);go_wp2_with fail;go_meet;case rel=>exact⟨by rw[hq],rfl⟩
        ·have k1i:(s:Int)<=(a:Int):=(by omega)
         have hq:Pv=false:=RP.out▸aah (fun e=>k1 e.1);go_wp2_with fail;go_meet;case rel=>exact⟨by rw[hq],rfl⟩
      case rest=>
       obtain⟨rfl,rfl⟩:=hcut
       go_upto_if 199 with fail
       go_cut [] (fun wx=>Pm (some ⟨ga,0,none⟩) c xs Y2 w wx)
       case first =>
        as_aux_lemma=>
         cases Pv with
         |true=>
          have hq:=of_decide_eq_true RP.out;have KR:=aa (HIH.out w5 (some ⟨ga,0,none⟩) c ys5 HI5.out (by rw[HL5.out];exact hl) a s M hq.1 hq.2 (by rw[HL5.out];have :=HM.out;omega) (HC.out.ag kO.out HP5.out) (by have :=HM.out;omega));rw[HL5.out]at KR;have HYE:Hid (j7 q N ys5 a s M=Y2):=(by have :=X0.out;unfold Bf at this;rw[aae hq]at this;exact this:_=_)
          clear hq;go_wp2_with fail;refine KR.out.mono ?_;clear KR;rintro e w2 ⟨rfl,zs,z1,z2,z3,z4⟩;have FF:Hid (Pm (some ⟨ga,0,none⟩) c xs Y2 w w2):=⟨zs,z1.trans HP5.out,z2,kO.out.ag z3,z4.trans HYE.out⟩
          clear z1 z2 z3 z4;go_wp2_with fail;go_meet;case rel=>exact FF.out
         |false=>
          have FF:Hid (Pm (some ⟨ga,0,none⟩) c xs Y2 w w5):=⟨ys5,HP5.out,HI5.out,kO.out,by have :=X0.out;unfold Bf at this;rw[aac (of_decide_eq_false RP.out)]at this;exact this⟩
          go_wp2_with fail;go_meet;case rel=>exact FF.out
       case rest=>
        obtain⟨w6,rfl⟩:∃x,x=wc:=⟨_,rfl⟩
        obtain⟨ys6,y1,y2,y3,y4⟩:=hcut;subst y4;have HP6:=aa y1;have HI6:=aa y2;have jo:=aa y3;have Ft:Hid (ys6.length=xs.length):=y1.length_eq;clear y1 y2 y3;go_upto_region 43 with fail;obtain⟨Pu,RO⟩:∃q,Hid (decide (M<E/\E<b)=q):=⟨_,rfl⟩
        go_cut [213] (fun x wx=>x= .bool Pu/\w6=wx)
        case first =>
         as_aux_lemma=>
          by_cases k1:M<E
          ·have k1i:(M:Int)<(E:Int):=(by omega)
           by_cases k2:E<b
           ·have k2i:(E:Int)<(b:Int):=(by omega)
            have hq:Pu=true:=RO.out▸aai ⟨k1,k2⟩;go_wp2_with fail;go_meet;case rel=>exact⟨by rw[hq],rfl⟩
           ·have k2i:(b:Int)<=(E:Int):=(by omega)
            have hq:Pu=false:=RO.out▸aah (fun e=>k2 e.2);go_wp2_with fail;go_meet;case rel=>exact⟨by rw[hq],rfl⟩
          ·have k1i:(E:Int)<=(M:Int):=(by omega)
           have hq:Pu=false:=RO.out▸aah (fun e=>k1 e.1);go_wp2_with fail;go_meet;case rel=>exact⟨by rw[hq],rfl⟩
        case rest=>
         obtain⟨rfl,rfl⟩:=hcut
         go_upto_if 213 with fail
         cases Pu with
         |true=>
          have hq:=of_decide_eq_true RO.out;have KR:=aa (HIH.out w6 (some ⟨ga,0,none⟩) c ys6 HI6.out (by rw[Ft.out];exact hl) M E b hq.1 hq.2 (by rw[Ft.out];have :=HM.out;omega) (HC.out.ag jo.out HP6.out) (by have :=HM.out;omega));rw[Ft.out]at KR;have HYE:Hid (j7 q N ys6 M E b=cT):=(by have :=HY3.out;unfold Bf at this;rw[aae hq]at this;exact this:_=_)
          clear hq;go_wp2_with fail;refine KR.out.mono ?_;clear KR;rintro e w2 ⟨rfl,zs,z1,z2,z3,z4⟩;have FF:Hid (Pm (some ⟨ga,0,none⟩) c xs cT w w2):=⟨zs,z1.trans HP6.out,z2,jo.out.ag z3,z4.trans HYE.out⟩
          clear z1 z2 z3 z4;go_wp2_with fail;go_end0;exact FF.out.pmp
         |false=>
          have FF:Hid (Pm (some ⟨ga,0,none⟩) c xs cT w w6):=⟨ys6,HP6.out,HI6.out,jo.out,by have :=HY3.out;unfold Bf at this;rw[aac (of_decide_eq_false RO.out)]at this;exact this⟩
          go_wp2_with fail;go_end0;exact FF.out.pmp
theorem wh (g:Nat)(cb:Array Value)(q:Int->Int->Int)(eg:∀args w,(callFunc g args).run Tryz.prog w= .ok (.enter g args) w):∀N,RV g cb q N:=by
 intro N;induction N with
 |zero=>intro w A c xs h hl a m b ss Ot u5 hc hN;omega
 |succ N ih=>
  intro w A c xs h hl a m b ss Ot u5 hc hN;by_cases h1:m-a=1
  ·exact Bd g cb q eg w A c xs h hl a m b ss Ot u5 hc h1 N
  ·by_cases h2:b-m=1
   ·exact Bc g cb q eg w A c xs h hl a m b ss Ot u5 hc h1 h2 N
   ·exact Be g cb q eg w A c xs h hl a m b ss Ot u5 hc h1 h2 N hN ih
theorem Bh (g:Nat)(cb:Array Value)(q:Int->Int->Int)(eg:∀args w,(callFunc g args).run Tryz.prog w= .ok (.enter g args) w)(w:World)(A:Option Addr)(c:Nat)(xs:List Int)(h:Ints w A c xs)(hl:xs.length<=17592186044416)(hc:zK g cb q A xs w):
  Calls Tryz.prog 202 #[.slice A xs.length c, .int .i64 xs.length, .func (.func g) #[] cb] w (Fk A c xs (TL q xs) w):=by
 obtain⟨cT,de⟩:∃R,TL q xs=R:=⟨_,rfl⟩
 rw[de];unfold TL at de;obtain⟨n,hn⟩:∃n,xs.length=n:=⟨_,rfl⟩
 have HN:=aa hn;have HH:=aa h;have HC:=aa hc;rw[hn];rw[hn]at hl de;obtain⟨Z,hZ⟩:∃Z,yb q n (n+1) 0 xs=Z:=⟨_,rfl⟩
 rw[hZ]at de;have HZ:=aa hZ;have dM:=aa de;clear hZ de;clear h hc hn;have KI:Hid (∀(W:World) (ys:List Int),ys.Perm xs->Ints W A c ys->Fr (ak A) w W->∀a b:Nat,a<=b->b<=n->Calls Tryz.prog 178 #[.slice A n c, .int .i64 a, .int .i64 b, .func (.func g) #[] cb] W fun e w'=>e= .returned (.tuple #[])/\Pm A c xs (po q a (b-(a+1)) (a+1) ys) w w'):=fun W ys hp hi hf a b h1 h2=>by have hlen:ys.length=n:=hp.length_eq.trans HN.out;have :=uT W A c ys hi (by omega) a b h1 (by omega) g cb q eg (HC.out.ag hf hp);rw[hlen]at this;exact this.mono fun e w' he=>⟨he.pm.1,he.pm.2.step hp hf⟩
 have KM:Hid (∀(W:World) (ys:List Int),ys.Perm xs->Ints W A c ys->Fr (ak A) w W->∀a m b:Nat,a<m->m<b->b<=n->Calls Tryz.prog 216 #[.slice A n c, .int .i64 a, .int .i64 m, .int .i64 b, .func (.func g) #[] cb] W fun e w'=>e= .returned (.tuple #[])/\Pm A c xs (j7 q n ys a m b) w w'):=fun W ys hp hi hf a m b h1 h2 h3=>by have hlen:ys.length=n:=hp.length_eq.trans HN.out;have :=wh g cb q eg n W A c ys hi (by omega) a m b h1 h2 (by omega) (HC.out.ag hf hp) (by omega);rw[hlen]at this;exact this.mono fun e w' he=>⟨he.pm.1,he.pm.2.step hp hf⟩
 go_enter Tryz.func202,Tryz.ntmps202;go_wp2_with fail;go_loopg [7,8] n (fun g x7 x8 wr=>∃(a:Nat),n<=a+g/\a<=n/\x7= .int .i64 a/\x8= .int .i64 (a+20:Nat)/\Hid (∃ys f,Pm A c xs ys w wr/\n+1<=a+f/\yb q n f a ys=Z));case atStart=>exact⟨0,by omega,by omega,rfl,rfl,⟨xs,n+1,⟨xs,dy _,HH.out,Fr.refl _ _,rfl⟩,by omega,HZ.out⟩⟩
 case round=>
  obtain⟨a,hg,ha,rfl,rfl,HP⟩:=hrel;have HG:=aa hg;clear hg;obtain⟨b,hb⟩:∃b,a+20=b:=⟨_,rfl⟩
  rw[hb];by_cases u5:b<=n
  ·have QX:(b:Int)<=(n:Int):=by omega
   have w1:IntKind.i64.wrap ((b:Int)+20)=(b:Int)+20:=IntWalk.i64_in _ (by omega);obtain⟨ys',f,⟨ys,y1,y2,y3,rfl⟩,f1,f2⟩:=HP.out;have K:=aa (KI.out wr ys y1 y2 y3 a b (by omega) u5);have HB:=aa hb;have dn:Hid (∃f,n+1<=b+f/\yb q n f b (po q a (b-(a+1)) (a+1) ys)=Z):=⟨f-1,by omega,by rw[RB (by omega) hb u5]at f2;exact f2⟩
   clear f1 f2;clear y1 y2 y3 hb HP;go_wp2_with fail;refine K.out.mono ?_;clear K;rintro e w2 ⟨rfl,hp⟩;have HP:=aa hp;clear hp;go_wp2_with fail;go_roundg (n-b);case measure=>have :=HG.out;have :=HB.out;omega
   case rel=>exact⟨b,by omega,u5,rfl,by go_num,(by obtain⟨f,f1,f2⟩:=dn.out;exact⟨_,f,HP.out,f1,f2⟩:∃ys f,Pm A c xs ys w w2/\n+1<=b+f/\yb q n f b ys=Z)⟩
  ·have QX:(n:Int)<(b:Int):=by omega
   obtain⟨ys',f,⟨ys,y1,y2,y3,rfl⟩,f1,f2⟩:=HP.out;have dn:Hid (po q a (n-(a+1)) (a+1) ys=Z):=(by rw[V6 (by omega) hb u5]at f2;exact f2:_=_)
   clear f1 f2;have K:=aa (KI.out wr ys y1 y2 y3 a n ha (ap _));clear y1 y2 y3 hb HP;go_wp2_with fail;refine K.out.mono ?_;clear K;rintro e w2 ⟨rfl,hp⟩;have HP:=aa hp;rw[dn.out]at HP;clear hp;go_wp2_with fail;go_loopg [6,7,8] (n+1) (fun g x6 x7 x8 wr=>∃(k:Nat),n+1<=k+g/\20<=k/\k<=2*n+20/\x6= .int .i64 k/\Hid (∃ys f,Pm A c xs ys w wr/\n+1<=k+f/\wQ q n f k ys=cT));case atStart=>exact⟨20,by omega,by omega,by omega,rfl,⟨_,n+1,HP.out,by omega,dM.out⟩⟩
   case round=>
    obtain⟨k,fE,hk,Tn,rfl,CG⟩:=hrel;have n8:=aa fE;have HK:=aa Tn;clear fE Tn HP;by_cases jg:k<n
    ·obtain⟨k2,Tn⟩:∃k2,2*k=k2:=⟨_,rfl⟩
     have w1:IntKind.i64.wrap (2*(k:Int))=(k2:Int):=by rw[IntWalk.i64_in _ (by omega)];omega
     have w1':IntKind.i64.wrap ((k:Int)*2)=(k2:Int):=by rw[IntWalk.i64_in _ (by omega)];omega
     have Fu:=aa Tn;have asy:k2<=35184372088832:=(by omega)
     obtain⟨yk,fk,hpk,fk1,fk2⟩:=CG.out;have Se:=aa hpk;obtain⟨Z2,VQ⟩:∃Z,sd q n k (n+1) 0 yk=Z:=⟨_,rfl⟩
     have HZ2:=aa VQ;have qc:Hid (∃f,n+1<=k2+f/\wQ q n f k2 Z2=cT):=⟨fk-1,by omega,by rw[PP (by omega) jg Tn,VQ]at fk2;exact fk2⟩
     clear Tn VQ fk1 fk2 hpk;go_wp2_with fail;go_loopg [7,8] n (fun g x7 x8 wr=>∃(a:Nat),n<=a+g/\a<=n/\x7= .int .i64 a/\x8= .int .i64 (a+k2:Nat)/\Hid (∃ys f,Pm A c xs ys w wr/\n+1<=a+f/\sd q n k f a ys=Z2));case atStart=>exact⟨0,by omega,by omega,rfl,by rw[da],⟨yk,n+1,Se.out,by omega,HZ2.out⟩⟩
     case round=>
      obtain⟨a,hg,ha,rfl,rfl,HP⟩:=hrel;have oP:=aa hg;clear hg CG Se;obtain⟨b,hb⟩:∃b,a+k2=b:=⟨_,rfl⟩
      obtain⟨m,hm⟩:∃m,a+k=m:=⟨_,rfl⟩
      rw[hb];have wm:IntKind.i64.wrap ((a:Int)+(k:Int))=(m:Int):=by rw[IntWalk.i64_in _ (by omega)];omega
      by_cases u5:b<=n
      ·have QX:(b:Int)<=(n:Int):=(by omega)
       have wb:IntKind.i64.wrap ((b:Int)+(k2:Int))=(b:Int)+(k2:Int):=IntWalk.i64_in _ (by omega);obtain⟨ys',f,⟨ys,y1,y2,y3,rfl⟩,f1,f2⟩:=HP.out;have K:=aa (KM.out wr ys y1 y2 y3 a m b (by omega) (by have :=Fu.out;omega) u5);have HB:=aa hb;have dn:Hid (∃f,n+1<=b+f/\sd q n k f b (j7 q n ys a m b)=Z2):=⟨f-1,by have :=Fu.out;omega,by rw[PQ (by omega) Fu.out hb hm u5]at f2;exact f2⟩
       clear f1 f2;clear y1 y2 y3 hb hm HP;go_wp2_with fail;refine K.out.mono ?_;clear K;rintro e w2 ⟨rfl,hp⟩;have HP:=aa hp;clear hp;go_wp2_with fail;go_roundg (n-b);case measure=>have :=oP.out;have :=HB.out;have :=Fu.out;omega
       case rel=>exact⟨b,by omega,u5,rfl,by go_num,(by obtain⟨f,f1,f2⟩:=dn.out;exact⟨_,f,HP.out,f1,f2⟩:∃ys f,Pm A c xs ys w w2/\n+1<=b+f/\sd q n k f b ys=Z2)⟩
      ·have QX:(n:Int)<(b:Int):=(by omega)
       by_cases Xz:m<n
       ·have ZE:(m:Int)<(n:Int):=(by omega)
        obtain⟨ys',f,⟨ys,y1,y2,y3,rfl⟩,f1,f2⟩:=HP.out;have dn:Hid (j7 q n ys a m n=Z2):=(by rw[PR (by omega) Fu.out hb hm u5 Xz]at f2;exact f2:_=_)
        clear f1 f2;have K:=aa (KM.out wr ys y1 y2 y3 a m n (by omega) Xz (ap _));clear y1 y2 y3 hb hm HP;go_wp2_with fail;refine K.out.mono ?_;clear K;rintro e w2 ⟨rfl,hp⟩;have HP:=aa hp;rw[dn.out]at HP;clear hp;go_wp2_with fail;go_roundg (n+1-k2);case measure=>have :=n8.out;have :=Fu.out;omega
        case rel=>exact⟨k2,by omega,by have :=Fu.out;omega,by have :=Fu.out;omega,rfl,(by obtain⟨f,f1,f2⟩:=qc.out;exact⟨_,f,HP.out,f1,f2⟩:∃ys f,Pm A c xs ys w w2/\n+1<=k2+f/\wQ q n f k2 ys=cT)⟩
       ·have ZE:(n:Int)<=(m:Int):=(by omega)
        have dn:Hid (Pm A c xs Z2 w wr):=by obtain⟨ys,f,h1,f1,f2⟩:=HP.out;rw[Ue (by omega) Fu.out hb hm u5 Xz]at f2;rw[<-f2];exact h1
        clear hb hm HP;go_wp2_with fail;go_roundg (n+1-k2);case measure=>have :=n8.out;have :=Fu.out;omega
        case rel=>exact⟨k2,by omega,by have :=Fu.out;omega,by have :=Fu.out;omega,rfl,(by obtain⟨f,f1,f2⟩:=qc.out;exact⟨_,f,dn.out,f1,f2⟩:∃ys f,Pm A c xs ys w wr/\n+1<=k2+f/\wQ q n f k2 ys=cT)⟩
    ·have Ov:(n:Int)<=(k:Int):=(by omega)
     have dn:Hid (Pm A c xs cT w wr):=by obtain⟨ys,f,h1,f1,f2⟩:=CG.out;rw[Ud jg]at f2;rw[<-f2];exact h1
     clear CG;go_wp2_with fail;go_end0;exact dn.out.pmp
theorem tt (g:Nat)(cb:Array Value)(q:Int->Int->Int)(eg:∀args w,(callFunc g args).run Tryz.prog w= .ok (.enter g args) w)(w:World)(A:Option Addr)(c:Nat)(xs:List Int)(h:Ints w A c xs)(hl:xs.length<=17592186044416)(hc:zK g cb q A xs w):
  Calls Tryz.prog 170 #[.slice A xs.length c, .func (.func g) #[] cb] w (Fk A c xs (TL q xs) w):=by
 have K:=aa (Bh g cb q eg w A c xs h hl hc);clear h hc;go_enter Tryz.func170,Tryz.ntmps170;go_wp2_with fail;refine K.out.mono ?_;clear K;rintro e w2 ⟨rfl,hp⟩;have HP:Hid (Pm A c xs (TL q xs) w w2):=hp;clear hp;go_wp2_with fail;go_end0;exact HP.out.pmp
theorem BH (w:World)(L:aO)(S:Sv)(h:aX w L S)(m:Nat)(ok:S.Ok m)(n:Nat)(hn:n<S.list.length)(h0:0<(S.rc n).lits.length):
  Calls Tryz.prog 169 #[.pointer (some ⟨L.a,0,none⟩), .int .i64 n] w fun e w'=>e= .returned (.bool (S.locked n))/\Fr [] w w':=by
 have sl:n<L.cs.length:=by rw[h.ot];exact hn
 have eE:=h.qC sl;obtain⟨gc,jv,x0,-,-⟩:=h.qz sl;have gV:=h.ql n sl;have jU:=ok.lit (n:=n) (k:=0) h0;rw[eE]at h0 jU;obtain⟨⟨A,c,l,b,ac⟩,hx⟩:∃x,L.cs[n]! =x:=⟨_,rfl⟩
 rw[hx]at eE x0 gV h0 jU;simp only[Cw.rc]at eE x0 gV h0 jU;have lx:=ok.vl;have qh:=ok.ll;obtain⟨ga,hA,uy⟩:=gV.pos h0;subst hA;have cy:=gV.cell h0;obtain⟨y,hy⟩:∃y,l[0]! =y:=⟨_,rfl⟩
 rw[hy]at cy jU;obtain⟨c0,-,-,c3,-⟩:=h.cells;rw[jv]at c3;have Eu:=h.ot;rw[Eu]at c3;have jZ:S.locked n=(decide (0<S.T.lB y)&&decide (S.T.fy (tv y)=(n:Int)+1)):=by unfold Sv.locked;rw[eE];simp only;rw[hy];rfl
 have hni:(n:Int)<(S.list.length:Int):=by omega
 have Vn:(0:Int)<(l.length:Int):=by omega
 have KV:=aa (ee w L.tL S.T h.tr y (by omega) (by omega) ok.small);have KR:=aa (kw w L.tL S.T h.tr (tv y));have rF:=GA (x:=y) (by omega);have dP:IntKind.i64.wrap (-y)= -y:=IntWalk.i64_in _ (by omega);have oG:IntKind.i64.wrap ((n:Int)+1)=(n:Int)+1:=IntWalk.i64_in _ (by omega);obtain⟨v,hv⟩:∃v,S.T.lB y=v:=⟨_,rfl⟩
 obtain⟨t,ht⟩:∃t,tv y=t:=⟨_,rfl⟩
 obtain⟨r,hr⟩:∃r,S.T.fy t=r:=⟨_,rfl⟩
 rw[hv]at KV;rw[ht,hr]at KR;rw[ht]at rF;rw[jZ,hv,ht,hr];obtain⟨res,fM⟩:∃res,(decide (0<v)&&decide (r=(n:Int)+1))=res:=⟨_,rfl⟩
 rw[fM];have dM:=aa fM;clear jZ hv hr ht hy eE hx gV h Eu fM;go_enter Tryz.func169,Tryz.ntmps169;go_wp2_with fail;refine KV.out.mono ?_;clear KV;rintro e w2 ⟨rfl,rfl⟩;by_cases Oj:0<v
 ·by_cases uv:r=(n:Int)+1
  ·have hb:(r==(n:Int)+1)=true:=by simpa using uv
   by_cases Al:y< -y
   ·rw[aae Al]at rF;go_wp2_with fail;try rw[show max y t=t by omega]
    refine KR.out.mono ?_;rintro e w2 ⟨rfl,rfl⟩;go_wp2_with fail;go_ret;exact⟨by rw[<-dM.out,aai Oj,aai uv];rfl,Fr.refl _ _⟩
   ·rw[aac Al]at rF;have lE: -y<=y:=(by omega)
    go_wp2_with fail;try rw[show max t (-t)=t by omega]
    refine KR.out.mono ?_;rintro e w2 ⟨rfl,rfl⟩;go_wp2_with fail;go_ret;exact⟨by rw[<-dM.out,aai Oj,aai uv];rfl,Fr.refl _ _⟩
  ·have hb:(r==(n:Int)+1)=false:=by simpa using uv
   by_cases Al:y< -y
   ·rw[aae Al]at rF;go_wp2_with fail;try rw[show max y t=t by omega]
    refine KR.out.mono ?_;rintro e w2 ⟨rfl,rfl⟩;go_wp2_with fail;go_ret;exact⟨by rw[<-dM.out,aai Oj,aah uv];rfl,Fr.refl _ _⟩
   ·rw[aac Al]at rF;have lE: -y<=y:=(by omega)
    go_wp2_with fail;try rw[show max t (-t)=t by omega]
    refine KR.out.mono ?_;rintro e w2 ⟨rfl,rfl⟩;go_wp2_with fail;go_ret;exact⟨by rw[<-dM.out,aai Oj,aah uv];rfl,Fr.refl _ _⟩
 ·have hv1:v<=0:=by omega
  go_wp2_with fail;go_ret;exact⟨by rw[<-dM.out,aah (by omega:¬0<v)];rfl,Fr.refl _ _⟩
theorem Gj (w:World)(L:aO)(S:Sv)(h:aX w L S)(k:Nat)(hk:w.cell? ⟨k,0,none⟩=some (.pointer (some ⟨L.a,0,none⟩)))(x y:Nat)(hx:x<S.list.length)(hy:y<S.list.length):
  Calls Tryz.prog 171 #[.int .i64 x, .int .i64 y, .pointer (some ⟨k,0,none⟩)] w fun e w'=>e= .returned (.int .i64 (Fg S (x:Int) (y:Int)))/\Fr [] w w':=by
 have hxc:x<L.cs.length:=by rw[h.ot];exact hx
 have Uw:y<L.cs.length:=by rw[h.ot];exact hy
 obtain⟨gc,jv,-,-,x2⟩:=h.qz hxc;obtain⟨gc',Z5,-,-,y2⟩:=h.qz Uw;rw[jv]at Z5;obtain rfl :gc=gc':=by simpa using Z5
 have ex:=h.qC hxc;have ey:=h.qC Uw;obtain⟨-,-,-,c3,-⟩:=h.cells;rw[jv,h.ot]at c3;have hxi:(x:Int)<(S.list.length:Int):=by omega
 have hyi:(y:Int)<(S.list.length:Int):=by omega
 have hq:Fg S (x:Int) (y:Int)=wrap64 ((L.cs[x]!).act-(L.cs[y]!).act):=by unfold Fg;rw[Int.toNat_natCast,Int.toNat_natCast,ex,ey];rfl
 rw[hq];obtain⟨u,hu⟩:∃u,(L.cs[x]!).act=u:=⟨_,rfl⟩
 obtain⟨v,hv⟩:∃v,(L.cs[y]!).act=v:=⟨_,rfl⟩
 rw[hu]at x2⊢;rw[hv]at y2⊢;have e0:=Ext.cell hk;have e1:=Ext.cell c3;have e2:=Ext.cell x2;have e3:=Ext.cell y2;clear hq hu hv ex ey h Z5 jv hxc Uw hk c3 x2 y2;go_enter Tryz.func171,Tryz.ntmps171;go_wp2_with fail;refine au (by kernel_rfl) (by kernel_rfl) ?_;repeat (go_big_quiet_step (fail))
 refine aak ?_;rintro w2 ⟨u2,b8⟩;have bj:Hid (Fr [] w w2):=b8▸u2.fr;clear b8 u2;clear e0 e1 e2 e3;go_wp2_with fail;go_ret;exact⟨rfl,bj.out⟩
theorem EU:∀args w,(callFunc 171 args).run Tryz.prog w= .ok (.enter 171 args) w:=enters_of Tryz.func171 (by kernel_rfl) rfl
theorem aX.afi {w:World}{L:aO}{S:Sv}(h:aX w L S){n:Nat}(hn:n<L.cs.length){gc:Nat}(jv:L.cA=some ⟨gc,0,none⟩):
  w.frozen? ⟨gc,n*3,none⟩=false/\w.frozen? ⟨gc,n*3+1,none⟩=false/\
  aX ((w.setCell ⟨gc,n*3,none⟩ (.slice none 0 0)).setCell ⟨gc,n*3+1,none⟩ (.bool false)).drew { L with cs:=L.cs.set n ⟨none,0,[],false,(L.cs[n]!).act⟩} { S with list:=S.list.set n ⟨[],false,(S.rc n).act⟩}/\
   Fr [gc] w ((w.setCell ⟨gc,n*3,none⟩ (.slice none 0 0)).setCell ⟨gc,n*3+1,none⟩ (.bool false)).drew/\(L.cY gc).1=L.id:=by
 have r:=h.vt;unfold sS at r;rw[jv]at r;have lf:L.cY gc=(L.id,3,0):=h.t3 gc (by rw[jv];simp[ak]);have hf:Fr [gc] w ((w.setCell ⟨gc,n*3,none⟩ (.slice none 0 0)).setCell ⟨gc,n*3+1,none⟩ (.bool false)).drew:=(((Fr.refl _ w).setCell (.inl (by simp)) _).setCell (.inl (by simp)) _).drew;have o:=h.off (P:=(· =(3,0))) hf (fun k hk hl=>⟨_,rfl,by simp at hk;subst hk;exact lf⟩);have gU:=(World.ownsRow.stored r (n*3) (.slice none 0 0)).1;have UE:=(World.ownsRow.stored gU (n*3+1) (.bool false)).1;have eE:=h.qC hn;have qi:∀j:Nat,(L.cs.set n ⟨none,0,[],false,(L.cs[n]!).act⟩)[j]! =if n=j/\n<L.cs.length then⟨none,0,[],false,(L.cs[n]!).act⟩else L.cs[j]! :=fun j=>ef _ _ _ _;refine⟨World.ownsRow.frozenAt r _,World.ownsRow.frozenAt r _,⟨?_,o.tr (by decide),o.hp (by decide),h.iQ,?_,h.B9,?_,o.rws (by decide),o.vp (by decide),o.yz (by decide),o.uQ (by decide),fun j hj=> ?_,fun c hc=>o.sD c hc (by simp),
  h.t0,h.t1,h.t2,h.t3,h.t4,h.t5,h.t6,h.t7,fun j hj k hk=> ?_,h.t9⟩,hf,by rw[lf]⟩
 ·have :=o.obj (by decide);simp only[pM,ao]at this⊢;exact this
 ·simp only;rw[<-h.Cb,List.map_set];congr 1;rw[eE];rfl
 ·unfold sS;obtain⟨g0,g1,g2⟩:=mS L.cs n hn;have e:((fq L.cs).set (n*3) (.slice none 0 0)).set (n*3+1) (.bool false)=fq (L.cs.set n ⟨none,0,[],false,(L.cs[n]!).act⟩):=by rw[<-pW L.cs n _ hn];simp only;refine(kW ?_).symm;rw[List.getElem?_set_ne (by omega),List.getElem?_set_ne (by omega)];exact g2
  simp only[ao];rw[<-e,jv];exact World.ownsRow.drew UE
 ·simp only[ao]at hj;simp only;rw[qi];by_cases hc:n=j/\n<L.cs.length
  ·rw[aae hc];exact Ints.nil _
  ·rw[aac hc];exact o.ql j hj (by simp)
 ·simp only[ao]at hj;simp only at hk;rw[qi]at hk;by_cases hc:n=j/\n<L.cs.length
  ·rw[aae hc]at hk;simp[ak]at hk
  ·rw[aac hc]at hk;exact h.t8 j hj k hk
namespace Sv
def zO (S:Sv)(n:Nat):Bool:=(S.rc n).jr&&decide (2<(S.rc n).lits.length)&& !S.locked n
def iY (S:Sv)(k:Nat):List Nat:=(List.range k).filter S.zO
theorem C3 (S:Sv)(k:Nat):S.iY (k+1)=S.iY k++if S.zO k=true then[k]else[]:=by unfold iY;rw[List.range_succ,List.filter_append,List.filter_cons,List.filter_nil]
theorem vV (S:Sv)(k:Nat):(S.iY k).length<=k:=by unfold iY;have :=List.length_filter_le S.zO (List.range k);rw[cu]at this;exact this
end Sv
theorem Gs {ys:List Int}{wl:List Nat}(h:ys.Perm (bO wl)):∃ls:List Nat,ys=bO ls/\ls.Perm wl:=by
 refine⟨ys.map Int.toNat,?_,?_⟩
 ·unfold bO;rw[List.map_map];refine(List.map_id ys).symm.trans (List.map_congr_left fun x hx=> ?_);obtain⟨n,_,rfl⟩:=aG.1 (h.mem_iff.1 hx);simp
 ·have :=h.map Int.toNat;unfold bO at this;rw[List.map_map]at this;have e:(Int.toNat∘fun n:Nat=>(n:Int))=id:=by funext n;simp
  rw[e,List.map_id]at this;exact this
namespace Sv
def jk (S:Sv)(ls:List Nat)(j:Nat):Sv:=(ls.take j).foldl cg S
theorem Cc (S:Sv)(ls:List Nat){j:Nat}(h:j<ls.length):S.jk ls (j+1)=(S.jk ls j).cg ls[j]! :=by unfold jk;rw[List.take_add_one,List.foldl_append];simp only[ae,af h,ay,fI,List.foldl_cons,List.foldl_nil]
theorem EY {S:Sv}{ls:List Nat}(hp:ls.Perm S.tj)(he:bO ls=TL (Fg S) (bO S.tj)):I6 S (S.jk ls (ls.length/2)):=by
 have hn:S.tj.Nodup:=List.Nodup.sublist List.filter_sublist List.nodup_range;refine⟨ls.take (ls.length/2),List.Nodup.sublist (List.take_sublist _ _) (hp.nodup_iff.2 hn),fun n hn=>hp.mem_iff.1 (List.mem_of_mem_take hn),⟨?_,?_⟩,rfl⟩
 ·rw[bp,<-hp.length_eq];omega
 ·have e:ls=(TL (Fg S) (bO S.tj)).map Int.toNat:=by
   rw[<-he];unfold bO;rw[List.map_map];have e2:(Int.toNat∘fun n:Nat=>(n:Int))=id:=by funext n;simp
   rw[e2,List.map_id]
  unfold XI;rw[<-e,<-hp.length_eq]
end Sv
theorem Bw:I7:=by
 intro w L S h ok uY mz;obtain⟨w1,dP⟩:∃w1,w.alloc (.cells #[.pointer (some ⟨L.a,0,none⟩)] 79)=w1:=⟨_,rfl⟩
 have gm:Hid (Fr [] w w1):=by rw[<-dP];exact aH _ _
 have oM:w1.cell? ⟨w.heap.size,0,none⟩=some (.pointer (some ⟨L.a,0,none⟩)):=by rw[<-dP];exact(At.new w _ _).cell 0
 have ou:w1.heap.size=w.heap.size+1:=by rw[<-dP];simp
 obtain⟨L1,yJ⟩:∃L1,L.shut w=L1:=⟨_,rfl⟩
 have H1:Hid (aX w1 L1 S):=by rw[<-yJ];exact h.shut.keep gm.out
 have fa:Hid (L.ext L1 w):=by rw[<-yJ];exact L.mI w
 have Fq:Hid (∀k,w.heap.size<=k->(L1.cY k).1≠L1.id):=fun k hk=>by rw[<-yJ];exact aO.jR hk
 have Wo:=aa ou;have yv:=aa oM;have lz:=aa ok;have mB:L1.a=L.a:=fa.out.1;obtain⟨-,-,-,c3,-⟩:=H1.out.cells;rw[mB,H1.out.ot]at c3;have pB:Hid (S.list.length<=2199023255552):=ok.ll;have qh:=ok.ll;clear h ok yJ ou;go_enter Tryz.func139,Tryz.ntmps139;go_upto_region 2 with fail;clear dP;go_wp2_with fail;go_loopg [2,12] S.list.length (fun g x2 Yq wr=>∃(k:Nat) (A':Option Addr) (c':Nat),k+g=S.list.length/\x2= .slice A' (S.iY k).length c'/\Yq= .int .i64 k/\Hid (Ints wr A' c' (bO (S.iY k)))/\Hid (∀j,j∈ak A'->w1.heap.size<=j)/\Hid (Fr [] w1 wr));case atStart=>exact⟨0,none,0,by omega,rfl,rfl,Ints.nil _,fun j hj=>by simp[ak]at hj,Fr.refl _ _⟩
 case round=>
  obtain⟨k,A',c',hk,rfl,rfl,HI,zG,HF⟩:=hrel;have HK:=aa hk;have jg:k<=S.list.length:=by omega
  clear hk;by_cases bw:k<S.list.length
  ·have H2:=aa (H1.out.keep HF.out);have hkc:k<L1.cs.length:=by rw[H1.out.ot];exact bw
   obtain⟨gc,jv,x0,x1,x2⟩:=H2.out.qz hkc;have eE:=H1.out.qC hkc;obtain⟨⟨Ar,cr,lr,br,ar⟩,hx⟩:∃x,L1.cs[k]! =x:=⟨_,rfl⟩
   rw[hx]at x0 x1 x2 eE;simp only[Cw.rc]at x0 x1 x2 eE;rw[jv]at c3;have cb:=HF.out.aN yv.out;have c3':=HF.out.aN c3;obtain⟨w2,oG⟩:∃w2,wr.alloc (.cells #[.slice Ar lr.length cr, .bool br, .int .i64 ar] 158)=w2:=⟨_,rfl⟩
   have cw:Hid (Fr [] w1 w2):=oG▸(HF.out.ag (aH _ _));have agt:Hid (Fr [] wr w2):=oG▸(aH _ _);have n0:w2.cell? ⟨wr.heap.size,0,none⟩=some (.slice Ar lr.length cr):=by rw[<-oG];exact(At.new wr _ _).cell 0
   have n1:w2.cell? ⟨wr.heap.size,1,none⟩=some (.bool br):=by rw[<-oG];exact(At.new wr _ _).cell 1
   have cb2:=cw.out.aN yv.out;have fh:S.zO k=(br&&decide (2<lr.length)&& !S.locked k):=by unfold Sv.zO;rw[eE]
   have R7:=aa fh;have sU:=aa (S.C3 k);have KL:Hid (0<lr.length->Calls Tryz.prog 169 #[.pointer (some ⟨L.a,0,none⟩), .int .i64 k] w2 fun e w'=>e= .returned (.bool (S.locked k))/\Fr [] w2 w'):=fun h0=>by have :=BH w2 L1 S (H1.out.keep cw.out) 0 lz.out k bw (by rw[eE];exact h0);rw[mB]at this;exact this
   have Ov:(k:Int)<(S.list.length:Int):=by omega
   have wk:IntKind.i64.wrap ((k:Int)+1)=(k:Int)+1:=IntWalk.i64_in _ (by omega);clear hx eE fh;go_upto_region 5 with fail;clear oG c3' c3 x0 x1 x2 cb jv;obtain⟨wb,fh⟩:∃wb,S.zO k=wb:=⟨_,rfl⟩
   rw[fh]at R7 sU;have HWQ:=aa fh;clear fh
   go_cut [30]from 13 to 34 (fun x wx=>x= .bool wb/\Hid (Fr [] w2 wx))
   case first =>
    cases br with
    |false=>
     have hq:wb=false:=by rw[R7.out];rfl
     clear KL;go_wp2_with fail;go_meet;case rel=>exact⟨by rw[hq],Fr.refl _ _⟩
    |true=>
     by_cases h2:2<lr.length
     ·have h2i:(2:Int)<(lr.length:Int):=(by omega)
      have KL:=KL.out (by omega);obtain⟨lk,jZ⟩:∃lk,S.locked k=lk:=⟨_,rfl⟩
      rw[jZ]at KL R7;have hq:wb= !lk:=by rw[R7.out,aai h2];rfl
      have Fu:=aa KL;have HQ:=aa hq;clear KL hq jZ;go_wp2_with fail;refine Fu.out.mono ?_;clear Fu;rintro e w3 ⟨rfl,hf⟩;have db:=aa hf;clear hf;cases lk with
      |true=>
       go_wp2_with fail;go_meet;case rel=>exact⟨by rw[HQ.out];rfl,db.out⟩
      |false=>
       go_wp2_with fail;go_meet;case rel=>exact⟨by rw[HQ.out];rfl,db.out⟩
     ·have h2i:(lr.length:Int)<=2:=(by omega)
      have hq:wb=false:=by rw[R7.out,aah h2];rfl
      clear KL;go_wp2_with fail;go_meet;case rel=>exact⟨by rw[hq],Fr.refl _ _⟩
   case rest=>
    obtain⟨rfl,db⟩:=hcut;obtain⟨w3,rfl⟩:∃x,x=wc:=⟨_,rfl⟩
    have Jp:=aa (cw.out.ag db.out);have ags:=aa (agt.out.ag db.out);clear KL n0 n1 cb2 cw db agt;cases wb with
    |false=>
     have HW:=sU.out;simp only[dD,if_false,bZ]at HW;have HW:=aa HW;go_wp2_with fail;go_roundg (gk-1);case measure=>have :=HK.out;omega
     case rel=>exact⟨k+1,A',c',by have :=HK.out;omega,by rw[HW.out],by go_num,by rw[HW.out];exact HI.out.fD ags.out,zG.out,Jp.out⟩
    |true=>
     have HW:=sU.out;simp only[if_true]at HW;have HW:=aa HW;obtain⟨wb,fh⟩:∃W,w3.alloc (.cells #[.int .i64 (k:Int)] 3)=W:=⟨_,rfl⟩
     have gm:Hid (Fr [] w3 wb):=fh▸aH _ _;have kq:wb.cell? ⟨w3.heap.size,0,none⟩=some (.int .i64 (k:Int)):=by have :=(At.new w3 3 #[.int .i64 (k:Int)]).cell 0;rw[fh]at this;simpa using this
     have HLW:Hid ((S.iY k).length<=k):=S.vV k;go_wp2_with (at_builtin;(refine dd _ rfl _ _ rfl A' c' (bO (S.iY k)) (S.iY k).length rfl (bf _).symm ((HI.out.fD ags.out).fr gm.out (by simp)) ⟨w3.heap.size,0,none⟩ 1 (k:Int) rfl kq (by rw[bf];have :=HLW.out;omega) ?_;intro g cap w4 gV ro hg Tj))
     have CY:Hid (Ints w4 (some ⟨g,0,none⟩) cap (bO (S.iY (k+1)))):=by rw[HW.out,<-kT];exact gV
     have CZ:Hid ((S.iY (k+1)).length=(S.iY k).length+1):=by rw[HW.out];simp[Hid]
     have Jo:Hid (∀j,j∈ak (some (⟨g,0,none⟩:Addr))->w1.heap.size<=j):=fun j hj=>by
      simp[ak]at hj;subst hj;rcases hg with h1 |h1
      ·exact zG.out j h1
      ·have :=Jp.out.size;have :=gm.out.size;omega
     have gY:Hid (Fr [] w1 w4):=(Jp.out.ag gm.out).trans ro (fun x hx=> .inr (zG.out x hx));clear kq gV ro hg Tj fh;go_roundg (gk-1);case measure=>have :=HK.out;omega
     case rel=>exact⟨k+1,some ⟨g,0,none⟩,cap,by have :=HK.out;omega,by rw[CZ.out],by go_num,CY.out,Jo.out,gY.out⟩
  ·obtain rfl :k=S.list.length:=by omega
   obtain⟨wl,Te⟩:∃wl,S.iY S.list.length=wl:=⟨_,rfl⟩
   have HWL:Hid (S.tj=wl):=Te;have kF:∀x∈wl,x<S.list.length:=fun x hx=>by rw[<-Te]at hx;exact(Sv.AQ (S:=S) hx).1
   have HIN:=aa kF;have hnw:wl.length<=S.list.length:=by rw[<-Te];exact S.vV _
   rw[Te]at HI⊢;clear Te kF;have FW:Hid (w.heap.size<w1.heap.size):=by have :=Wo.out;show _<_;omega
   have KS:=aa (tt 171 #[.pointer (some ⟨w.heap.size,0,none⟩)] (Fg S) EU wr A' c' (bO wl) HI.out (by rw[bf];omega) (fun W hW x hx y hy=>by have cX:Fr [] w1 W:=HF.out.trans hW (fun x hx=> .inr (zG.out x hx));obtain⟨x',Td,rfl⟩:=aG.1 hx;obtain⟨y',hy',rfl⟩:=aG.1 hy;have :=Gj W L1 S (H1.out.keep cX) w.heap.size (by rw[mB];exact cX.aN yv.out) x' y' (HIN.out x' Td) (HIN.out y' hy');exact this));rw[bf]at KS;obtain⟨n,hn⟩:∃n,wl.length=n:=⟨_,rfl⟩
   rw[hn]at KS⊢;have mv:=aa hn;rw[hn]at hnw;clear hn;go_upto_region 8 with fail;go_wp2_with fail;refine KS.out.mono ?_;clear KS;rintro e w2 ⟨rfl,ys,y1,y2,y3,y4⟩;have bW:Fr [] w1 w2:=HF.out.trans y3 (fun x hx=> .inr (zG.out x hx));obtain⟨ls,rfl,kf⟩:=Gs y1;have HY4:Hid (bO ls=TL (Fg S) (bO S.tj)):=(by rw[y4,HWL.out]:_=_)
   have vP:Hid (ls.Perm S.tj):=kf.trans (HWL.out▸dy _);have CI:Hid (ls.length=n):=kf.length_eq.trans mv.out;have HIL:=aa (fun x (hx:x∈ls)=>HIN.out x (kf.mem_iff.1 hx));have nZ:=aa y2;have cw:=aa bW;have oy:n<=c'/\(A'=none->n=0):=by
    have h1:=y2.form;have h2:=CI.out;have h3:=bf ls;rcases h1 with⟨a1,a2,a3⟩ |⟨g,a1,a2,a3,a4⟩
    ·have :ls.length=0:=by rw[<-h3,a3];rfl
     exact⟨by omega,fun _=>by omega⟩
    ·exact⟨by omega,fun e=>by rw[a1]at e;cases e⟩
   obtain⟨oy,Xw⟩:=oy;have Yc:=aa Xw;obtain⟨h,hh⟩:∃h:Nat,n/2=h:=⟨_,rfl⟩
   have hdiv:(n:Int)/2=(h:Int):=by omega
   have apd:IntKind.i64.wrap ((h:Int))=(h:Int):=IntWalk.i64_in _ (by omega);have hhc:h<=c':=by omega
   have HH2:=aa hh;have hhn:h<=n:=by omega
   clear y1 y2 y3 y4 bW kf Xw HI HF hh;go_upto_region 9 with fail;go_wp2_with fail;go_loopg [45] h (fun g x wr=>∃(j:Nat) (Lj:aO),j+g=h/\x= .int .i64 j/\Hid (aX wr Lj (S.jk ls j))/\Hid (Lj.a=L1.a/\Lj.id=L1.id/\Lj.cY=L1.cY)/\Hid (Ints wr A' c' (bO ls))/\Hid (Fr (L.own w) w wr)/\Hid (wr.cell? ⟨w.heap.size,0,none⟩=some (.pointer (some ⟨L.a,0,none⟩))));case atStart=>exact⟨0,L1,by omega,rfl,H1.out.keep cw.out,⟨rfl,rfl,rfl⟩,nZ.out,(gm.out.ag cw.out).mono (fun k hk=>by cases hk),cw.out.aN yv.out⟩
   case round=>
    obtain⟨j,Lj,hj,rfl,HS,Ss,HIJ,HFJ,HCJ⟩:=hrel;have HJ:=aa hj;have hjh:j<=h:=(by omega)
    clear hj;by_cases bw:j<h
    ·have M1:j<(bO ls).length:=by rw[bf,CI.out];omega
     obtain⟨ga,hA,uy⟩:=HIJ.out.pos M1;subst hA;have cx:=HIJ.out.cell M1;rw[pZ]at cx;obtain⟨v,hv⟩:∃v,ls[j]! =v:=⟨_,rfl⟩
     rw[hv]at cx;have Vq:j<ls.length:=by rw[CI.out];omega
     have hvm:v∈ls:=by rw[<-hv,ae,af Vq];exact j5 Vq
     have lx:=HIL.out v hvm;have gU:S.jk ls (j+1)=(S.jk ls j).cg v:=(by rw[S.Cc ls Vq,hv])
     have mE:=aa gU;have ut:=Sv.lp (ls.take j) S;have hlen:(S.jk ls j).list.length=S.list.length:=ut.2.2.1;have ju:(S.jk ls j).many=S.many-(j:Int):=by have :=ut.2.2.2.2.2;rw[bp,j4 (by omega)]at this;exact this
     obtain⟨Sj,hSj⟩:∃Sj,S.jk ls j=Sj:=⟨_,rfl⟩
     rw[hSj]at HS mE hlen ju;have aue:=aa hlen;have hla:Lj.a=L.a:=Ss.out.1.trans mB;have hvc:v<Lj.cs.length:=by rw[HS.out.ot,hlen];exact lx
     obtain⟨gc,jv,x0,x1,x2⟩:=HS.out.qz hvc;obtain⟨f0,f1,Av,qj,hd3⟩:=HS.out.afi hvc jv;obtain⟨-,-,-,c3,-,-,-,-,-,-,-,OG,-⟩:=HS.out.cells;rw[hla]at c3 OG;rw[jv,HS.out.ot,hlen]at c3;have cb:=HCJ.out;have hvi:(v:Int)<(S.list.length:Int):=(by omega)
     obtain⟨W1,jO⟩:∃W,((wr.setCell ⟨gc,v*3,none⟩ (.slice none 0 0)).setCell ⟨gc,v*3+1,none⟩ (.bool false)).drew=W:=⟨_,rfl⟩
     have NR:=aa jO;rw[jO]at Av qj;have H1:=aa Av;have OS:=aa qj;have HD3:=aa hd3;have hwm:IntKind.i64.wrap (Sj.many-1)=Sj.many-1:=IntWalk.i64_in _ (by rw[ju];omega);have Vn:(j:Int)<(h:Int):=(by omega)
     clear gU hSj ut hlen ju hvm M1 Vq hv jO Av qj hd3 x2;go_wp2_with fail;go_region;clear x0 x1 f0 f1 c3 OG cb;have jO:=NR.out;rw[jO];clear jO NR;have e2:Lj.ext { Lj with cs:=Lj.cs.set v ⟨none,0,[],false,(Lj.cs[v]!).act⟩} wr:=⟨rfl,rfl,fun k _ e=>e⟩
     have eL:L.ext Lj w:=⟨hla,Ss.out.2.1.trans fa.out.2.1,fun k hk e=>fa.out.2.2 k hk (by rw[<-Ss.out.2.2];exact e)⟩
     have anu:Hid (Fr (L.own w) w W1):=aO.aQ eL HFJ.out (aO.gS OS.out (fun k hk _=>by simp at hk;rw[hk];exact HD3.out));obtain⟨L2,hL2⟩:∃L2,{ Lj with cs:=Lj.cs.set v ⟨none,0,[],false,(Lj.cs[v]!).act⟩}=L2:=⟨_,rfl⟩
     have mw:Hid (L2.a=L1.a/\L2.id=L1.id/\L2.cY=L1.cY):=by rw[<-hL2];exact Ss.out
     rw[hL2]at H1;have aee:L2.a=L.a:=mw.out.1.trans mB;have XR:L.ext L2 w:=⟨aee,mw.out.2.1.trans fa.out.2.1,fun k hk e=>fa.out.2.2 k hk (by rw[<-mw.out.2.2];exact e)⟩
     obtain⟨-,-,-,-,-,-,-,-,-,-,-,OG,-⟩:=H1.out.cells;obtain⟨g1,g2⟩:=H1.out.qe 11 (.int .i64 (Sj.many-1)) (Sj.cg v) (by simp[pM,Sv.cg]) ⟨rfl,rfl,rfl,rfl,rfl,rfl,rfl⟩;have f11:=H1.out.obj.frozen 11;rw[aee]at OG g1 g2 f11;have Xx:w.heap.size≠gc:=fun e=>by have :=Fq.out gc (by omega);rw[mw.out.2.2.symm,mw.out.2.1.symm]at this;exact this (by rw[mw.out.2.2,<-Ss.out.2.2,mw.out.2.1,<-Ss.out.2.1];exact HD3.out)
     have cb:W1.cell? ⟨w.heap.size,0,none⟩=some (.pointer (some ⟨L.a,0,none⟩)):=OS.out.bK (by simpa using Xx) HCJ.out;have anG:=aa cb;have ov:w.heap.size≠L.a:=fun e=>by have :=Fq.out L.a (by omega);rw[<-mB,<-mw.out.1,<-mw.out.2.2,<-mw.out.2.1]at this;exact this (by rw[H1.out.t0])
     have FR:=aa ov;have HG1:=aa g1;have n8:Hid (Fr (L.own w) w (W1.setCell ⟨L.a,11,none⟩ (.int .i64 (Sj.many-1)))):=aO.aQ XR anu.out g2;have WF:Hid (Ints (W1.setCell ⟨L.a,11,none⟩ (.int .i64 (Sj.many-1))) (some ⟨ga,0,none⟩) c' (bO ls)):=by have pu:(L1.cY ga).1≠L1.id:=Fq.out ga (by have :=zG.out ga (by simp[ak]);have :=FW.out;omega);have q1:Ints W1 (some ⟨ga,0,none⟩) c' (bO ls):=HIJ.out.fr OS.out (fun k hk hm=>by simp[ak]at hk hm;subst hk;rw[hm]at pu;exact pu (by rw[<-Ss.out.2.2,<-Ss.out.2.1];exact HD3.out));refine q1.gN (p:=⟨L.a,11,none⟩) (fun hk=> ?_) _;simp[ak]at hk;rw[<-hk]at pu;rw[<-mB,<-mw.out.1,<-mw.out.2.2,<-mw.out.2.1]at pu;exact pu (by rw[H1.out.t0])
     have wj:IntKind.i64.wrap ((j:Int)+1)=(j:Int)+1:=IntWalk.i64_in _ (by omega);clear g1 g2 e2 eL XR hL2 Xx ov;go_wp2_with fail;go_roundg (gk-1);case measure=>have :=HJ.out;omega
     case rel=>exact⟨j+1,L2,by have :=HJ.out;omega,by go_num,mE.out▸HG1.out,mw.out,WF.out,n8.out,((Fr.refl [L.a] W1).setCell (p:=⟨L.a,11,none⟩) (.inl (by simp)) (.int .i64 (Sj.many-1))).bK (p:=⟨w.heap.size,0,none⟩) (by simpa using FR.out) anG.out⟩
    ·obtain rfl :j=h:=by omega
     have FF:Hid (∃S',Sv.I6 S S'/\pz (.tuple #[]) S' L w (.returned (.tuple #[])) wr):=⟨S.jk ls j,by have :=Sv.EY vP.out HY4.out;rw[CI.out,HH2.out]at this;exact this,rfl,Lj,HS.out,⟨Ss.out.1.trans mB,Ss.out.2.1.trans fa.out.2.1,fun k hk e=>fa.out.2.2 k hk (by rw[<-Ss.out.2.2];exact e)⟩,HFJ.out⟩
     go_wp2_with fail;go_end0;exact FF.out
theorem Py {w:World}{e:TypeId}{A:Option Addr}{n c:Nat}{xs:List Value}(h:w.ownsRow 0 e 1 (.slice A n c) n xs):w.ownsRow 0 e 1 (.slice A 0 c) 0 []:=by
 refine⟨by simp,?_⟩;rcases h.2 with⟨hv,rfl⟩ |⟨g,cap,cur,hv,hb,hg,hn,hm,hs,ht⟩
 ·simp only[Value.slice.injEq,true_and]at hv;obtain⟨rfl,rfl⟩:=hv;exact .inl ⟨rfl,rfl⟩
 ·simp only[Value.slice.injEq,true_and]at hv;obtain⟨rfl,rfl⟩:=hv;exact .inr ⟨g,c,cur,rfl,hb,hg,bR _,hm,hs,by simp⟩
theorem T6 {w:World}{e:TypeId}{A:Option Addr}{n c:Nat}{xs:List Value}(h:w.ownsRow 0 e 1 (.slice A n c) n xs):n<=c:=by
 rcases h.2 with⟨hv,rfl⟩ |⟨g,cap,cur,hv,hb,hg,hn,hm,hs,ht⟩
 ·exact bR _
 ·simp only[Value.slice.injEq,true_and]at hv;rw[hv.2];exact hn
theorem EN (w:World)(n:Nat)(hn:n<=4194304):
  Calls Tryz.prog 112 #[.slice none 0 0, .int .i64 n] w fun e w'=>∃A c,e= .returned (.slice A 0 c)/\w'.ownsRow 0 22 1 (.slice A 0 c) 0 []/\(∀k,k∈ak A->w.heap.size<=k)/\Fr [] w w':=by
 have d1:decide ((n:Int)<0)=false:=aah (by omega);have Oh:IntKind.i64.wrap (0-0)=0:=by decide
 have dP:IntKind.i64.wrap ((n:Int)-0)=n:=IntWalk.i64_in _ (by omega);have oG:IntKind.i64.wrap (n:Int)=n:=IntWalk.i64_in _ (by omega);by_cases h0:n=0
 ·subst h0;go_enter Tryz.func112,Tryz.ntmps112;go_wp2_with fail;go_ret;exact⟨none,0,rfl,World.ownsRow_nil _ 0 _ 1,fun k hk=>by simp[ak]at hk,Fr.refl _ _⟩
 ·have d2:decide (0<(n:Int))=true:=aai (by omega);have Xy:0<n:=by omega
  obtain⟨A',c',w',iV,ho,hf,hg⟩:=mJ w 28 3 28 22 (.slice none 0 0) 24 Tryz.underlying28 Tryz.underlying3 pS rfl rfl none 0 0 [] (World.ownsRow_nil w 0 22 1) n (by unfold maxLen;omega) (by omega) (by omega);have oy:=T6 ho;have HO:=aa (Py ho);have HF:=aa hf;have HG:Hid (∀k,k∈ak A'->w.heap.size<=k):=fun k hk=>by
   rcases hg k hk with h1 |h1
   ·simp[ak]at h1
   ·exact h1
  simp only[da]at oy iV;clear ho hf hg h0;rcases A' with _ |⟨ga,go,gs⟩
  ·exfalso;rcases HO.out.2 with⟨hv,_⟩ |⟨g,cap,cur,hv,_⟩
   ·simp only[Value.slice.injEq,true_and]at hv;omega
   ·simp at hv
  ·go_enter Tryz.func112,Tryz.ntmps112;go_wp2_with (at_builtin;refine Lib.wpList_append_run _ rfl _ _ _ _ rfl _ _ rfl rfl _ _ iV ?_)
   go_ret;exact⟨some ⟨ga,go,gs⟩,c',rfl,HO.out,HG.out,HF.out⟩
theorem rM (wb:World){ops:Array Oper}{rest:List Oper}{o:Oper}{a:Act}{Q:Exit->Act->World->Prop}(ow:o.guard=none)(s x:Operand)
  (ho:o.op= .call { callee:= .builtin .append,args:=#[s,x],argTypes:=#[28,28] }){w3:World}{B:Nat}(A:Option Addr)(c:Nat)(hs:List Ls)(HN:NwLs w3 B A c hs)(fh:Fr [] w3 wb)(hB:B<=wb.heap.size)(n:Nat)(Th:a.eval s= .slice A n c)(hn:n=hs.length)
  (ad:Addr) (m d:Nat) (ms:List Ls) (hx:a.eval x= .slice (some ad) m d) (hm:m=ms.length) (hr:∀j:Nat,j<ms.length->wb.cell? (ad.add j)=some (ms[j]!).val)
  (Oq:∀h∈ms,Ints wb h.A h.c h.l/\Ra h.l/\h.l.length<=1048576/\∀k,k∈ak h.A->B<=k) (hlen:hs.length+ms.length<=4194304)
  (h:∀A' cap w',NwLs w' B A' cap (hs++ms)->Fr (ak A) wb w'->(∀k,k∈ak A'->k∈ak A\/k=wb.heap.size)->wpList Tryz.prog ops Q rest (a.put o.dst (.slice A' (n+m) cap)) w'):
  wpList Tryz.prog ops Q (o::rest) a wb:=
 ed wb ow s x ho A c hs n Th hn (HN.keep fh).row ad m d ms hx hm hr hlen fun A' cap w' h1 h2 h3 h4=>h A' cap w' (HN.more fh Oq h2 h1 h3 hB) h2 h3
def upt (oI lX:List Ls)(k:Nat):List Ls:=if k=0 then[]else if k=1 then oI else oI++lX
theorem NwLs.Cl {w:World}{B:Nat}{A:Option Addr}{c:Nat}{hs:List Ls}(k:NwLs w B A c hs):(A=none/\hs=[]/\c=0)\/∃g,A=some ⟨g,0,none⟩/\∀j:Nat,j<hs.length->w.cell? ⟨g,j,none⟩=some (hs[j]!).val:=by
 rcases k.row.2 with⟨hv,h0⟩ |⟨g,cap,cur,hv,hb,hg,hn,hm,lX,ht⟩
 ·simp only[Value.slice.injEq]at hv;exact .inl ⟨hv.1,aP hv.2.1,hv.2.2⟩
 ·simp only[Value.slice.injEq,true_and]at hv;obtain⟨rfl,rfl⟩:=hv;refine .inr ⟨g,rfl,fun j hj=> ?_⟩;rw[World.ownsRow.cellAt k.row j (by omega)];simp only[aJ,af hj,cD,ae,ay]
theorem Ci (w:World)(G:Nat)(B:Nat)(hB:B<=w.heap.size)(A1 A2:Option Addr)(c1 c2:Nat)(oI lX:List Ls)(h1:NwLs w B A1 c1 oI)(h2:NwLs w B A2 c2 lX)
  (xu:w.cell? ⟨G,0,none⟩=some (.slice A1 oI.length c1))(yH:w.cell? ⟨G,1,none⟩=some (.slice A2 lX.length c2))(hl:oI.length+lX.length<=4194304):
  Calls Tryz.prog 71 #[.slice (some ⟨G,0,none⟩) 2 2] w fun e w'=>∃A c,e= .returned (.slice A (oI++lX).length c)/\NwLs w' B A c (oI++lX)/\Fr [] w w':=by
 have KG:=aa (fun W n hn=>EN W n hn);have th:=aa h1;have jw:=aa h2;have qr:=aa xu;have pE:=aa yH;have HBW:=aa hB;clear h1 h2;obtain⟨n1,ke⟩:∃n,oI.length=n:=⟨_,rfl⟩
 obtain⟨n2,qE⟩:∃n,lX.length=n:=⟨_,rfl⟩
 have qq:=aa ke;have mw:=aa qE;have Kf:(oI++lX).length=n1+n2:=by rw[aj,ke,qE]
 rw[Kf];rw[ke]at xu hl;rw[qE]at yH hl;obtain⟨n3,Oo⟩:∃n:Nat,(n1:Int)+(n2:Int)=(n:Int):=⟨n1+n2,by omega⟩
 have Oh:IntKind.i64.wrap (0+(n1:Int))=n1:=by rw[IntWalk.i64_in _ (by omega)];omega
 have dP:IntKind.i64.wrap ((n1:Int)+(n2:Int))=(n3:Int):=by rw[IntWalk.i64_in _ (by omega)];omega
 have dn1:decide ((n1:Int)<0)=false:=aah (by omega);have dn2:decide ((n3:Int)<0)=false:=aah (by omega);clear ke qE Kf hB;go_enter Tryz.func71,Tryz.ntmps71;go_wp2_with fail;go_loopg [3,11] 2 (fun gk x3 Lr wr=>∃k:Nat,k+gk=2/\x3= .int .i64 (if k=0 then(0:Int)else if k=1 then(n1:Int)else(n3:Int))/\Lr= .int .i64 k/\Hid (wr=w));case atStart=>exact⟨0,rfl,rfl,rfl,rfl⟩
 case round=>
  obtain⟨k,hk,rfl,rfl,HW⟩:=hrel;have hw:=HW.out.symm;subst hw;clear HW;have hk3:k=0\/k=1\/k=2:=by omega
  rcases hk3 with rfl |rfl |rfl
  ·go_wp2_with fail;go_roundg (gk-1);case measure=>omega
   case rel=>exact⟨1,by omega,by go_num,by go_num,rfl⟩
  ·go_wp2_with fail;go_roundg (gk-1);case measure=>omega
   case rel=>exact⟨2,by omega,by go_num,by go_num,rfl⟩
  ·have KG1:=aa (KG.out w n3 (by omega));clear hk KG Oh dP dn1 dn2;go_wp2_with fail;refine KG1.out.mono ?_;clear KG1;rintro e w1 ⟨A3,c3,rfl,ho3,xp,dh⟩;have dI:=aa dh;have om:Hid (NwLs w1 B A3 c3 []):=⟨ho3,fun k hk=>aE HBW.out (xp k hk),fun h hh=>by cases hh⟩
   have auc:Hid (n1+n2=n3):=(by show _=_;omega)
   have oP:=aa xp;clear ho3 xp dh Oo;go_wp2_with fail;go_loopg [6,27] 2 (fun gk x6 x27 wr=>∃(k:Nat) (A':Option Addr) (c':Nat) (hs:List Ls),k+gk=2/\x6= .slice A' hs.length c'/\x27= .int .i64 k/\Hid (hs=upt oI lX k)/\Hid (NwLs wr B A' c' hs)/\Hid (∀k,k∈ak A'->w.heap.size<=k)/\Hid (Fr [] w wr));case atStart=>exact⟨0,A3,c3,[],rfl,rfl,rfl,rfl,om.out,oP.out,dI.out⟩
   case round=>
    clear om dI;obtain⟨k,A',c',hs,hk,rfl,rfl,HE,HN,HG,HF⟩:=hrel;have HK:=aa hk;have hk3:k=0\/k=1\/k=2:=(by omega)
    clear hk;have pF:Hid (B<=wr.heap.size):=aE HBW.out HF.out.size;rcases hk3 with rfl |rfl |rfl
    ·have hc:=HF.out.aN xu;have HM:=aa (th.out.keep HF.out);have fa:Hid (hs++oI=upt oI lX 1):=(by rw[HE.out];rfl :_=_)
     rcases HM.out.Cl with⟨rfl,h0,rfl⟩ |⟨g1,rfl,yG⟩
     ·have Qx:n1=0:=by rw[<-qq.out,h0];rfl
      have dn:Hid (hs=upt oI lX 1):=((show hs=hs++oI by rw[h0,bZ]).trans fa.out:_=_)
      rw[Qx]at hc;clear h0 Qx xu yH;go_wp2_with (at_builtin;refine wpList_append_own_none rfl _ _ _ rfl 0 22 _ 1 Tryz.underlying28 (info_parts pS).choose_spec.1 _ hs.length _ rfl HN.out.row rfl ?_)
      go_roundg (gk-1);case measure=>have :=HK.out;omega
      case rel=>exact⟨1,A',c',hs,by have :=HK.out;omega,rfl,by go_num,dn.out,HN.out,HG.out,HF.out⟩
     ·have HCS:=aa yG;have hle:hs.length+n1<=4194304:=by have h9:hs.length<=0:=(by rw[HE.out];exact ap _);omega
      clear yG xu yH;go_wp2_with (at_builtin;(refine rM _ rfl _ _ rfl A' c' hs HN.out (Fr.refl _ _) pF.out hs.length rfl rfl ⟨g1,0,none⟩ n1 c1 oI rfl qq.out.symm (fun j hj=>by rw[dH,da];exact HCS.out j hj) HM.out.each (by rw[qq.out];exact hle) ?_;intro A4 c4 w4 uX eS BV;have yq:=aa uX;have gY:=aa (HF.out.trans eS (fun k hk=> .inr (HG.out k hk)));have Jo:Hid (∀k,k∈ak A4->w.heap.size<=k):=(fun k hk=>(by rcases BV k hk with h9 |h9;exact HG.out k h9;(have :=HF.out.size;omega):w.heap.size<=k));clear uX eS BV))
      go_roundg (gk-1);case measure=>have :=HK.out;omega
      case rel=>exact⟨1,A4,c4,hs++oI,by have :=HK.out;omega,by rw[aj,qq.out],by go_num,fa.out,yq.out,Jo.out,gY.out⟩
    ·have hc:=HF.out.aN yH;have HM:=aa (jw.out.keep HF.out);have fa:Hid (hs++lX=upt oI lX 2):=(by rw[HE.out];rfl :_=_)
     rcases HM.out.Cl with⟨rfl,h0,rfl⟩ |⟨g1,rfl,yG⟩
     ·have Qx:n2=0:=by rw[<-mw.out,h0];rfl
      have dn:Hid (hs=upt oI lX 2):=((show hs=hs++lX by rw[h0,bZ]).trans fa.out:_=_)
      rw[Qx]at hc;clear h0 Qx xu yH;go_wp2_with (at_builtin;refine wpList_append_own_none rfl _ _ _ rfl 0 22 _ 1 Tryz.underlying28 (info_parts pS).choose_spec.1 _ hs.length _ rfl HN.out.row rfl ?_)
      go_roundg (gk-1);case measure=>have :=HK.out;omega
      case rel=>exact⟨2,A',c',hs,by have :=HK.out;omega,rfl,by go_num,dn.out,HN.out,HG.out,HF.out⟩
     ·have HCS:=aa yG;have hle:hs.length+n2<=4194304:=by have h9:hs.length<=n1:=(by rw[HE.out];show oI.length<=n1;rw[qq.out];exact ap _);omega
      clear yG xu yH;go_wp2_with (at_builtin;(refine rM _ rfl _ _ rfl A' c' hs HN.out (Fr.refl _ _) pF.out hs.length rfl rfl ⟨g1,0,none⟩ n2 c2 lX rfl mw.out.symm (fun j hj=>by rw[dH,da];exact HCS.out j hj) HM.out.each (by rw[mw.out];exact hle) ?_;intro A4 c4 w4 uX eS BV;have yq:=aa uX;have gY:=aa (HF.out.trans eS (fun k hk=> .inr (HG.out k hk)));have Jo:Hid (∀k,k∈ak A4->w.heap.size<=k):=(fun k hk=>(by rcases BV k hk with h9 |h9;exact HG.out k h9;(have :=HF.out.size;omega):w.heap.size<=k));clear uX eS BV))
      go_roundg (gk-1);case measure=>have :=HK.out;omega
      case rel=>exact⟨2,A4,c4,hs++lX,by have :=HK.out;omega,by rw[aj,mw.out],by go_num,fa.out,yq.out,Jo.out,gY.out⟩
    ·have rl:hs.length=n1+n2:=by rw[HE.out];show(oI++lX).length=_;rw[aj,qq.out,mw.out]
     have HNE:Hid (NwLs wr B A' c' (oI++lX)):=by have :=HN.out;rw[HE.out]at this;exact this
     rw[rl];clear HK rl xu yH;go_wp2_with fail;go_ret;exact⟨A',c',rfl,HNE.out,HF.out⟩
structure Bq (w wr:World)(H:Qh)(q:Qn):Prop where
 fr:Fr [] w wr
 bq:At wr w.heap.size 30 (mZ H q)
 bc:At wr (w.heap.size+1) 27 (iz H.H q.C)
theorem Bq.keep {w wr w':World}{H:Qh}{q:Qn}(h:Bq w wr H q)(hf:Fr [] wr w'):Bq w w' H q:=⟨h.fr.ag hf,h.bq.keep hf,h.bc.keep hf⟩
theorem Bq.start (w:World)(H:Qh)(q:Qn):Bq w ((w.alloc (.cells (mZ H q) 30)).alloc (.cells (iz H.H q.C) 27)) H q:=by refine⟨(aH _ _).ag (aH _ _),(At.new w _ _).keep (aH _ _),?_⟩;have :=At.new (w.alloc (.cells (mZ H q) 30)) 27 (iz H.H q.C);rw[show(w.alloc (.cells (mZ H q) 30)).heap.size=w.heap.size+1 by simp]at this;exact this
theorem Bq.cells {w wr:World}{H:Qh}{q:Qn}(h:Bq w wr H q):
  wr.cell? ⟨w.heap.size+1,0,none⟩=some (.int .i64 q.C.mx)/\wr.cell? ⟨w.heap.size+1,1,none⟩=some (.slice H.H.iA q.C.ins.length H.H.iC)/\wr.cell? ⟨w.heap.size+1,2,none⟩=some (.slice H.H.lA q.C.aM.length H.H.lC)/\wr.cell? ⟨w.heap.size+1,3,none⟩=some (.slice H.H.oA q.C.outs.length H.H.oC)/\
  wr.cell? ⟨w.heap.size+1,4,none⟩=some (.slice H.H.bA q.C.aT.length H.H.bC)/\wr.cell? ⟨w.heap.size+1,5,none⟩=some (.slice H.H.vA q.C.aU.length H.H.vC)/\wr.cell? ⟨w.heap.size+1,6,none⟩=some (.slice H.H.gA q.C.az.length H.H.gC)/\wr.cell? ⟨w.heap.size+1,7,none⟩=some (.slice H.H.nA q.C.bY.length H.H.nC):=h.bc.Ry
theorem Bq.IP {w wr:World}{H:Qh}{q:Qn}(h:Bq w wr H q):
  wr.cell? ⟨w.heap.size,0,none⟩=some (.int .i64 q.C.mx)/\wr.cell? ⟨w.heap.size,1,none⟩=some (.slice H.H.iA q.C.ins.length H.H.iC)/\wr.cell? ⟨w.heap.size,2,none⟩=some (.slice H.H.lA q.C.aM.length H.H.lC)/\wr.cell? ⟨w.heap.size,3,none⟩=some (.slice H.H.oA q.C.outs.length H.H.oC)/\
  wr.cell? ⟨w.heap.size,4,none⟩=some (.slice H.H.bA q.C.aT.length H.H.bC)/\wr.cell? ⟨w.heap.size,5,none⟩=some (.slice H.H.vA q.C.aU.length H.H.vC)/\wr.cell? ⟨w.heap.size,6,none⟩=some (.slice H.H.gA q.C.az.length H.H.gC)/\wr.cell? ⟨w.heap.size,7,none⟩=some (.slice H.H.nA q.C.bY.length H.H.nC)/\
  wr.cell? ⟨w.heap.size,8,none⟩=some (.slice H.aA q.am.length H.aC)/\wr.cell? ⟨w.heap.size,9,none⟩=some (.slice H.lA q.ls.length H.lC)/\wr.cell? ⟨w.heap.size,10,none⟩=some (.slice H.kA q.ks.length H.kC)/\
  wr.cell? ⟨w.heap.size,11,none⟩=some (.int .i64 q.bad)/\wr.cell? ⟨w.heap.size,12,none⟩=some (.int .i64 q.dep)/\wr.cell? ⟨w.heap.size,13,none⟩=some (.int .i64 q.yL):=by
 refine⟨?_,?_,?_,?_,?_,?_,?_,?_,?_,?_,?_,?_,?_,?_⟩<;>(rw[h.bq.cell];rfl)
def kj (C:Pc)(am:List (List Int))(f:Int):List (List Int):=nP C (fF C f)++nQ C am (fF C f)
theorem xy {C:Pc}(hv:Valid C)(b:Int):(nP C b).length<=8193:=by unfold nP;rw[aj,Q9 _ _ _ (ap _)];have h1:=C8 b (Nt C) (Nt C).length;rw[sF C]at h1;have :=hv.m0;have :=hv.m1;have :=C6 hv;rw[sF C];omega
theorem AU (w:World)(H:Qh)(q:Qn)(h:qm w H q)(hv:Valid q.C)(hl:q.ls=[])(hk:q.ks=[])(hfa:∀x∈q.am,N6 x.l)(ha:q.am.length<=64)(f:Int)(hf:0<=f/\f<=80)(hb:fF q.C f<=262144):
  Calls Tryz.prog 34 #[lD H q, .int .i64 f] w fun e w'=>∃A c hs,e= .returned (.slice A hs.length c)/\NwLs w' w.heap.size A c hs/\hs.map (·.l)=kj q.C (q.am.map (·.l)) f/\Fr [] w w':=by
 obtain⟨w1,dP⟩:∃W,w.alloc (.cells (mZ H q) 30)=W:=⟨_,rfl⟩
 obtain⟨w2,oG⟩:∃W,w1.alloc (.cells (iz H.H q.C) 27)=W:=⟨_,rfl⟩
 have HX:=aa (Bq.start w H q);rw[dP,oG]at HX;have uw:At w1 w.heap.size 30 (mZ H q):=dP▸At.new _ _ _;have ou:w1.heap.size=w.heap.size+1:=by rw[<-dP];simp
 have kp:=(p9 hv.m0 hv.m1 (f:=f) (by omega)).1;have KR:=aa (i8 w2 H.H q.C (h.c.keep HX.out.fr) hv f hf);have KB:=aa (fun W=>lN W H.H q.C hv.m0 hv.m1 f (by omega));have KG:=aa (fun W (hW:Fr [] w W)=>Ba W H.H q.C (h.c.keep hW) hv (fF q.C f) ⟨kp,hb⟩);have KF:=aa (fun W (hW:Fr [] w W)=>Bb W H.H q.C (h.c.keep hW) hv H.aA H.aC q.am (h.a.keep hW) hfa ha (fF q.C f) ⟨kp,hb⟩);have KC:=aa (fun W G B hB A1 A2 c1 c2 oI lX h1 h2 xu yH hl=>Ci W G B hB A1 A2 c1 c2 oI lX h1 h2 xu yH hl);have vQ:=aa (xy hv (fF q.C f));have Su:Hid ((nQ q.C (q.am.map (·.l)) (fF q.C f)).length<=128):=(by have h1:=xC q.C (q.am.map (·.l)) (fF q.C f);rw[aq]at h1;have :=vW hv;show _<=_;omega)
 have HFU:Hid (kj q.C (q.am.map (·.l)) f=nP q.C (fF q.C f)++nQ q.C (q.am.map (·.l)) (fF q.C f)):=(rfl :_=_)
 obtain⟨b,tS⟩:∃b,fF q.C f=b:=⟨_,rfl⟩
 simp only[tS]at KB;rw[tS]at hb KG KF vQ Su HFU;have d0:decide (262144<b)=false:=aah (by omega);clear h hfa kp tS hb hf;obtain⟨⟨mx,ins,aM,outs,aT,aU,az,bY⟩,am,ls,ks,bad,dep,yL⟩:=q;obtain⟨⟨iA,iC,lA,lC,oA,oC,bA,bC,vA,vC,gA,gC,nA,nC⟩,aA,aC,mA,mC,kA,kC⟩:=H;simp only[lD,mZ,dj,iz]at *;subst hl hk;simp only[List.length_nil]at dP uw⊢;obtain⟨q0,q1,q2,q3,q4,q5,q6,q7,q8,q9,mL,nH,nF,nE⟩:=HX.out.IP;obtain⟨c0,c1,c2,c3,c4,c5,c6,c7⟩:=HX.out.cells;have p0:=uw.cell 0;have p1:=uw.cell 1;have p2:=uw.cell 2;have p3:=uw.cell 3;have p4:=uw.cell 4;have p5:=uw.cell 5;have p6:=uw.cell 6;have p7:=uw.cell 7;simp at p0 p1 p2 p3 p4 p5 p6 p7;try simp only at c0 c1 c2 c3 c4 c5 c6 c7
 try simp only[List.length_nil]at q0 q1 q2 q3 q4 q5 q6 q7 q8 q9 mL nH nF nE
 go_enter Tryz.func34,Tryz.ntmps34;go_upto_region 2 with fail;go_wp2_with fail;clear p0 p1 p2 p3 p4 p5 p6 p7 q0 q1 q2 q3 q4 q5 q6 q7 q8 q9 mL nH nF nE uw dP oG;refine KR.out.mono ?_;rintro e w3 ⟨rfl,dh⟩;have ly:=aa (HX.out.keep dh);clear dh KR HX c0 c1 c2 c3 c4 c5 c6 c7;obtain⟨c0,c1,c2,c3,c4,c5,c6,c7⟩:=ly.out.cells;try simp only at c0 c1 c2 c3 c4 c5 c6 c7
 go_wp2_with fail;refine(KB.out w3).mono ?_;rintro e w4 ⟨rfl,dh⟩;have jV:=aa (ly.out.keep dh);clear dh ly c0 c1 c2 c3 c4 c5 c6 c7;obtain⟨c0,c1,c2,c3,c4,c5,c6,c7⟩:=jV.out.cells;try simp only at c0 c1 c2 c3 c4 c5 c6 c7
 go_wp2_with fail;refine(KB.out w4).mono ?_;rintro e w5 ⟨rfl,dh⟩;have uH:=aa (jV.out.keep dh);clear dh jV c0 c1 c2 c3 c4 c5 c6 c7;obtain⟨c0,c1,c2,c3,c4,c5,c6,c7⟩:=uH.out.cells;try simp only at c0 c1 c2 c3 c4 c5 c6 c7
 go_wp2_with fail;refine(KG.out w5 uH.out.fr).mono ?_;rintro e w6 ⟨A1,k1,oI,rfl,ke,td,dh⟩;have zC:=aa (uH.out.keep dh);have FQ:=aa uH.out.fr.size;have th:=aa (ke.low FQ.out);have fa:=aa td;clear dh uH c0 c1 c2 c3 c4 c5 c6 c7 ke td FQ;obtain⟨c0,c1,c2,c3,c4,c5,c6,c7⟩:=zC.out.cells;obtain⟨q0,q1,q2,q3,q4,q5,q6,q7,q8,q9,mL,nH,nF,nE⟩:=zC.out.IP;try simp only at c0 c1 c2 c3 c4 c5 c6 c7
 try simp only[List.length_nil]at q0 q1 q2 q3 q4 q5 q6 q7 q8 q9 mL nH nF nE
 go_wp2_with fail;refine(KF.out w6 zC.out.fr).mono ?_;rintro e w7 ⟨A2,k2,lX,rfl,qE,jM,dh⟩;have HX7:=aa (zC.out.keep dh);have yM:=aa zC.out.fr.size;have jw:=aa (qE.low yM.out);have OQ:=aa (th.out.keep dh);have dn:=aa jM;clear dh zC c0 c1 c2 c3 c4 c5 c6 c7 q0 q1 q2 q3 q4 q5 q6 q7 q8 q9 mL nH nF nE qE jM yM th;obtain⟨wb,fh⟩:∃W,w7.alloc (.cells #[.slice A1 oI.length k1, .slice A2 lX.length k2] 28)=W:=⟨_,rfl⟩
 have gm:Hid (Fr [] w7 wb):=fh▸aH _ _;have tT:At wb w7.heap.size 28 #[.slice A1 oI.length k1, .slice A2 lX.length k2]:=fh▸At.new _ _ _;have CW:=aa (HX7.out.keep gm.out);have rJ:=aa (KC.out wb w7.heap.size w.heap.size CW.out.fr.size A1 A2 k1 k2 oI lX (OQ.out.keep gm.out) (jw.out.keep gm.out) (by rw[tT.cell];rfl) (by rw[tT.cell];rfl) (by have h1:=OQ.out.ic fa.out;have h2:=jw.out.ic dn.out;have h3:(nP ⟨mx,ins,aM,outs,aT,aU,az,bY⟩ b).length<=8193:=vQ.out;have h4:(nQ ⟨mx,ins,aM,outs,aT,aU,az,bY⟩ (am.map (·.l)) b).length<=128:=Su.out;omega));clear tT;go_wp2_with fail;refine rJ.out.mono ?_;rintro e w8 ⟨A3,k3,rfl,Oo,dh⟩;have HX8:=aa (CW.out.keep dh);have om:=aa Oo;have iU:Hid ((oI++lX).map (·.l)=kj ⟨mx,ins,aM,outs,aT,aU,az,bY⟩ (am.map (·.l)) f):=(by rw[bH,fa.out,dn.out];exact HFU.out.symm:_=_)
 obtain⟨hs,hhs⟩:∃hs,oI++lX=hs:=⟨_,rfl⟩
 rw[hhs]at om iU;rw[hhs];clear dh fh CW HX7 rJ Oo hhs;obtain⟨q0,q1,q2,q3,q4,q5,q6,q7,q8,q9,mL,nH,nF,nE⟩:=HX8.out.IP;try simp only[List.length_nil]at q0 q1 q2 q3 q4 q5 q6 q7 q8 q9 mL nH nF nE
 go_wp2_with fail;go_loopg [11,55] 0 (fun gk Lr x55 wr=>Lr= .slice A3 hs.length k3/\x55= .int .i64 0/\Hid (wr=w8));case atStart=>exact⟨rfl,rfl,rfl⟩
 case round=>
  obtain⟨rfl,rfl,HW⟩:=hrel;have hw:=HW.out.symm;subst hw;clear HW;go_wp2_with fail;go_loopg [11,69] 0 (fun gk Lr x69 wr=>Lr= .slice A3 hs.length k3/\x69= .int .i64 0/\Hid (wr=w8));case atStart=>exact⟨rfl,rfl,rfl⟩
  case round=>
   obtain⟨rfl,rfl,HW⟩:=hrel;have hw:=HW.out.symm;subst hw;clear HW;go_wp2_with fail;go_ret;exact⟨A3,k3,hs,rfl,om.out,iU.out,HX8.out.fr⟩
theorem aiL (W:World)(g:Nat)(A:Option Addr)(n c:Nat)(hc:W.cell? ⟨g,2,none⟩=some (.slice A n c))(C:Pc)(hn:n=C.aM.length)(h:Ls)(hk:zy W h):
  Calls Tryz.prog 38 #[h.val, .pointer (some ⟨g,0,none⟩)] W fun e w'=>e= .returned (.bool (yy C h.l))/\Fr [] W w':=by
 subst hn;obtain⟨B,d,l⟩:=h;have KL:=aa (iq W (C.aM.length:Int) B d l hk.1 hk.2.1);show Calls Tryz.prog 38 #[.slice B l.length d, .pointer (some ⟨g,0,none⟩)] W fun e w'=>e= .returned (.bool (yy C l))/\Fr [] W w';obtain⟨k,ZT⟩:∃k,ft (C.aM.length:Int) l=k:=⟨_,rfl⟩
 rw[ZT]at KL;have hu:yy C l=(k !=0):=by unfold yy;rw[ZT];rfl
 rw[hu];clear hk ZT hu;go_enter Tryz.func38,Tryz.ntmps38;go_wp2_with fail;refine KL.out.mono ?_;rintro e w2 ⟨rfl,hf⟩;have HF:=aa hf;clear hf;go_wp2_with fail;go_ret;exact⟨rfl,HF.out⟩
theorem ER:∀args w,(callFunc 38 args).run Tryz.prog w= .ok (.enter 38 args) w:=enters_of Tryz.func38 (by kernel_rfl) rfl
noncomputable def iF (q:Qn)(l:List (List Int)):Int:=
 if ¬sX q=0 then sX q else if 1024<(l.length:Int)then 3 else if(l.any (yy q.C))=true then 23 else 0
theorem Bq.Yw (w:World)(H:Qh)(q:Qn):Fr [] w (w.alloc (.cells (mZ H q) 30))/\At (w.alloc (.cells (mZ H q) 30)) w.heap.size 30 (mZ H q):=⟨aH _ _,At.new w _ _⟩
theorem sJ (w:World)(H:Qh)(q:Qn)(h:qm w H q)(A:Option Addr)(c:Nat)(hs:List Ls)(hr:j3 w A hs)(hl:hs.length<=17592186044416):
  Calls Tryz.prog 17 #[lD H q, .slice A hs.length c] w fun e w'=>e= .returned (.int .i64 (iF q (hs.map (·.l))))/\Fr [] w w':=by
 obtain⟨w1,dP⟩:∃W,w.alloc (.cells (mZ H q) 30)=W:=⟨_,rfl⟩
 have hb:=Bq.Yw w H q;rw[dP]at hb;have dI:=aa hb.1;have oO:=aa hb.2;have KU:=aa (nh w1 H q (h.keep hb.1));have KC:Hid (∀W,Fr [] w1 W->Calls Tryz.prog 24 #[.slice A hs.length c, .func (.func 38) #[] #[.pointer (some ⟨w.heap.size,0,none⟩)]] W fun e w'=>e= .returned (.bool (hs.any fun h=>yy q.C h.l))/\Fr [] W w'):=
  fun W hW=>lu W A c hs 38 #[.pointer (some ⟨w.heap.size,0,none⟩)] (yy q.C) ER ((hr.keep dI.out).keep hW) hl (fun W' Kl h _ ok=>aiL W' _ H.H.lA q.C.aM.length H.H.lC ((hW.ag Kl).aN (by rw[hb.2.cell];rfl)) q.C rfl h ok)
 obtain⟨r,hrr⟩:∃r,iF q (hs.map (·.l))=r:=⟨_,rfl⟩
 rw[hrr];obtain⟨u,hu⟩:∃u,sX q=u:=⟨_,rfl⟩
 obtain⟨t,ht⟩:∃t,(hs.any fun h=>yy q.C h.l)=t:=⟨_,rfl⟩
 have HR:Hid (r=if ¬u=0 then u else if 1024<(hs.length:Int)then 3 else if t=true then 23 else 0):=by show _=_;rw[<-hrr];unfold iF;rw[hu,aq,List.any_map,<-ht];rfl
 rw[hu]at KU;rw[ht]at KC;clear hrr hu ht hb;obtain⟨⟨mx,ins,aM,outs,aT,aU,az,bY⟩,am,ls,ks,bad,dep,yL⟩:=q;obtain⟨⟨iA,iC,lA,lC,oA,oC,bA,bC,vA,vC,gA,gC,nA,nC⟩,aA,aC,mA,mC,kA,kC⟩:=H;simp only[lD,mZ]at *;have q0:=oO.out.cell 0;have q1:=oO.out.cell 1;have q2:=oO.out.cell 2;have q3:=oO.out.cell 3;have q4:=oO.out.cell 4;have q5:=oO.out.cell 5;have q6:=oO.out.cell 6;have q7:=oO.out.cell 7;have q8:=oO.out.cell 8;have q9:=oO.out.cell 9;have mL:=oO.out.cell 10;have nH:=oO.out.cell 11;have nF:=oO.out.cell 12;have nE:=oO.out.cell 13;simp at q0 q1 q2 q3 q4 q5 q6 q7 q8 q9 mL nH nF nE;clear h hr;go_enter Tryz.func17,Tryz.ntmps17;go_wp2_with fail;refine KU.out.mono ?_;clear KU q0 q1 q2 q3 q4 q5 q6 q7 q8 q9 mL nH nF nE dP;rintro e w3 ⟨rfl,dh⟩;have db:=aa dh;have oP:=aa (dI.out.ag dh);clear dh;by_cases h0:u=0
 ·subst h0;have qc:Hid (r=if 1024<(hs.length:Int)then 3 else if t=true then 23 else 0):=by have :=HR.out;rw[aac (by simp)]at this;exact this
  clear HR;by_cases h1:1024<(hs.length:Int)
  ·have d1:decide (1024<(hs.length:Int))=true:=aai h1;have kE:r=3:=by have :=qc.out;rw[aae h1]at this;exact this
   subst kE;clear h1;go_wp2_with fail;go_ret;exact⟨rfl,oP.out⟩
  ·have d1:decide (1024<(hs.length:Int))=false:=aah h1;have AH:Hid (r=if t=true then 23 else 0):=by have :=qc.out;rw[aac h1]at this;exact this
   have XY:=aa (KC.out w3 db.out);clear h1 qc KC;go_wp2_with fail;refine XY.out.mono ?_;rintro e w4 ⟨rfl,eS⟩;have gY:=aa (oP.out.ag eS);clear eS;cases t with
   |true=>
    have kE:r=23:=AH.out;subst kE;go_wp2_with fail;go_ret;exact⟨rfl,gY.out⟩
   |false=>
    have kE:r=0:=AH.out;subst kE;go_wp2_with fail;go_ret;exact⟨rfl,gY.out⟩
 ·have d0:(u==(0:Int))=false:=by simp[h0]
  have kE:r=u:=by have :=HR.out;rw[aae h0]at this;exact this
  subst kE;clear h0;go_wp2_with fail;go_ret;exact⟨rfl,oP.out⟩
end Go.Proofs.YtjmmpfjcpdepjaaGreatDoor
