/- Parts of a proof. -/
import Derived.Test.YtpjbaobgnhjgoaaGreatGAN
set_option linter.unusedVariables false
set_option maxHeartbeats 4000000
set_option maxRecDepth 100000
namespace Go.Proofs.YtpjbaobgnhjgoaaGreat
open Go.RowKit
def Pm(A:Option Addr)(c:Nat)(xs:List Int)(w w':World):Prop:=∃J:List Int,J.Perm xs/\Ints w' A c J/\Fr (ao A) w w'
theorem IQ.pm{A:Option Addr}{c:Nat}{xs:List Int}{w w':World}{e:Ending}(h:IQ A c xs w e w'):e= .returned (.tuple #[])/\Pm A c xs w w':=h
theorem Pm.pmp{A:Option Addr}{c:Nat}{xs:List Int}{w w':World}(h:Pm A c xs w w'):IQ A c xs w (.returned (.tuple #[])) w':=⟨rfl,h⟩
theorem Pm.step{A:Option Addr}{c:Nat}{xs ys:List Int}{w w' J:World}(hp:ys.Perm xs)(hf:Fr (ao A) w w')(h:Pm A c ys w' J):Pm A c xs w J:=by obtain⟨zs,h1,h2,h3⟩:=h;exact⟨zs,h1.trans hp,h2,hf.ak h3⟩
theorem Du(g:Nat)(cb:Array Value)(q:Int->Int->Int)(eg:∀args w,(callFunc g args).run Tryz.prog w= .ok (.enter g args) w)(w:World)(A:Option Addr)(c:Nat)(xs:List Int)(h:Ints w A c xs)(hl:xs.length<=17592186044416)(a m b:Nat)(jN:a<m)(Bh:m<b)(rC:b<=xs.length)(hc:BO g cb q A xs w)(h1:m-a=1):
  Calls Tryz.prog 180 #[.slice A xs.length c, .int .i64 a, .int .i64 m, .int .i64 b, .func (.func g) #[] cb] w (IQ A c xs w):=by
 obtain⟨ga,hA,wX⟩:=h.pos (i:=a) (by omega);subst hA;have HH:=ae h;have HC:=ae hc;have KC:aj (∀(wr:World),Fr [] w wr->∀i j:Nat,i<xs.length->j<xs.length->∀u:Ext wr,Calls Tryz.prog g (#[.int .i64 xs[i]!, .int .i64 xs[j]!]++cb) u.v fun e W'=>e= .returned (.int .i64 (q xs[i]! xs[j]!))/\Fr [] u.v W'):=fun wr hf i j hi hj u=>HC.o u.v ((hf.ak u.fr).mono (fun k hk=>by cases hk)) _ (bk hi) _ (bk hj);have CE:aj (∀(wr:World),Fr [] w wr->∀i:Nat,i<xs.length->∀u:Ext wr,u.v.cell? ⟨ga,i,none⟩=some (.int .i64 xs[i]!)):=fun wr hf i hi u=>(HH.o.fY (hf.ak u.fr)).cell hi;obtain⟨d1,Fs⟩:∃d,m-a=d:=⟨_,rfl⟩
 obtain⟨d2,xM⟩:∃d,b-m=d:=⟨_,rfl⟩
 have w0:IntKind.i64.wrap ((m:Int)-(a:Int))=(d1:Int):=by rw[IntWalk.i64_in _ (by omega)];omega
 have w1:IntKind.i64.wrap ((b:Int)-(m:Int))=(d2:Int):=by rw[IntWalk.i64_in _ (by omega)];omega
 clear h hc;obtain rfl :d1=1:=by omega
 go_enter Tryz.func180,Tryz.ntmps180;go_wp2_with fail;clear w0 w1;go_loopg [10,11] (b-m) (fun g tj uU wr=>∃(i j:Nat),j=i+g/\m<=i/\j<=b/\tj= .int .i64 i/\uU= .int .i64 j/\aj (Fr [] w wr));case atStart=>exact⟨m,b,by omega,by omega,by omega,rfl,rfl,Fr.refl _ _⟩
 case round=>
  obtain⟨i,j,hg,hi,hj,rfl,rfl,HF⟩:=hrel;have HG:=ae hg;have ab:i<=j:=by omega
  clear hg;by_cases Nq:i<j
  ·have w2:IntKind.i64.wrap ((i:Int)+(j:Int))=(i:Int)+(j:Int):=IntWalk.i64_in _ (by omega);obtain⟨h,hh⟩:∃h:Nat,((i:Int)+(j:Int))/2=(h:Int):=⟨(i+j)/2,by omega⟩
   have h0:i<=h:=by omega
   have h1:h<j:=by omega
   have hx:(h:Int)<(xs.length:Int):=by omega
   have ar:(a:Int)<(xs.length:Int):=by omega
   have w3:IntKind.i64.wrap ((h:Int)+1)=(h:Int)+1:=IntWalk.i64_in _ (by omega);have xn:=ae (KC.o wr HF.o h a (by omega) (by omega));have e1:=CE.o wr HF.o h (by omega);have e2:=CE.o wr HF.o a (by omega);obtain⟨x,Ek⟩:∃x,xs[h]! =x:=⟨_,rfl⟩
   obtain⟨y,xD⟩:∃y,xs[a]! =y:=⟨_,rfl⟩
   rw[Ek]at e1 xn;rw[xD]at e2 xn;obtain⟨r,hr⟩:∃r,q x y=r:=⟨_,rfl⟩
   rw[hr]at xn;have H2:=ae hh;clear Ek xD hr;go_upto_region 5 with fail;clear hh;have hh:=H2.o;try rw[hh]
   clear hh;by_cases nN:r<0
   ·have hd:decide (r<0)=true:=qak nN;refine ap ?_;repeat (go_big_quiet_step (exact bf (xn.o _)))
    refine fq ?_;intro w4 cG;have df:=ae (HF.o.ak cG.o);clear e1 e2 HF cG xn;go_wp2;go_roundg (j-(h+1));case measure=>have :=HG.o;omega
    case rel=>exact⟨h+1,j,by omega,by omega,by omega,by go_num,rfl,df.o⟩
   ·have QO:0<=r:=by omega
    have hd:decide (r<0)=false:=qaj nN;refine ap ?_;repeat (go_big_quiet_step (exact bf (xn.o _)))
    refine fq ?_;intro w4 cG;have df:=ae (HF.o.ak cG.o);clear e1 e2 HF cG xn;go_wp2;go_roundg (h-i);case measure=>have :=HG.o;omega
    case rel=>exact⟨i,h,by omega,by omega,by omega,rfl,rfl,df.o⟩
  ·obtain⟨p,hp⟩:∃p,i-1=p:=⟨_,rfl⟩
   have w2:IntKind.i64.wrap ((i:Int)-1)=(p:Int):=by rw[IntWalk.i64_in _ (by omega)];omega
   have aB:p<b:=by omega
   have ad:a<=p:=by omega
   clear hp;have UU:=ae (HH.o.fY HF.o);have Fg:aj (Fr (ao (some ⟨ga,0,none⟩)) w wr):=HF.o.mono (fun k hk=>by cases hk);clear HF;go_wp2_with fail;go_loopg [13] (p-a) (fun g QD wr=>∃(k:Nat)(ys:List Int),p=k+g/\a<=k/\QD= .int .i64 k/\aj (ys.Perm xs)/\aj (Ints wr (some ⟨ga,0,none⟩) c ys)/\aj (Fr (ao (some ⟨ga,0,none⟩)) w wr));case atStart=>exact⟨a,xs,by omega,by omega,rfl,dM _,UU.o,Fg.o⟩
   case round=>
    obtain⟨k,ys,hg,hk,rfl,HP,HI,HF⟩:=hrel;have qT:=ae hg;have hlen:=HP.o.length_eq;clear hg UU Fg;by_cases Bi:k<p
    ·obtain⟨J,Er⟩:∃J,k+1=J:=⟨_,rfl⟩
     have w3:IntKind.i64.wrap ((k:Int)+1)=(J:Int):=by rw[IntWalk.i64_in _ (by omega)];omega
     have pR:k<ys.length:=(by omega)
     have KJ:J<ys.length:=(by omega)
     have c1:=HI.o.cell pR;have c2:=HI.o.cell KJ;have f1:=HI.o.frozen k;have f2:=HI.o.frozen J;have dV:¬k=J:=(by omega)
     have gU:(k:Int)<(xs.length:Int):=(by omega)
     have jn:(J:Int)<(xs.length:Int):=(by omega)
     have Z6:aj ((dK ys k J).Perm xs):=(iI pR KJ).trans HP.o;have AR:=ae (HI.o.swap k J);have oM:=ae (HF.o.ak (Fr.swap wr ga k J (.int .i64 ys[J]!) (.int .i64 ys[k]!)));have Fe:=ae Er;obtain⟨x,Ek⟩:∃x,ys[k]! =x:=⟨_,rfl⟩
     obtain⟨y,xD⟩:∃y,ys[J]! =y:=⟨_,rfl⟩
     rw[Ek]at c1 AR oM;rw[xD]at c2 AR oM;clear Ek xD hlen pR KJ Er HI HF HP;go_wp2;go_region;clear c1 c2 f1 f2;go_wp2;go_roundg (p-J);case measure=>have :=qT.o;have :=Fe.o;omega
     case rel=>exact⟨J,dK ys k J,by have :=Fe.o;omega,by have :=Fe.o;omega,by go_num,Z6.o,AR.o,oM.o⟩
    ·have FF:aj (IQ (some ⟨ga,0,none⟩) c xs w (.returned (.tuple #[])) wr):=⟨rfl,ys,HP.o,HI.o,HF.o⟩
     go_wp2_with fail;go_end0;exact FF.o
theorem Dt(g:Nat)(cb:Array Value)(q:Int->Int->Int)(eg:∀args w,(callFunc g args).run Tryz.prog w= .ok (.enter g args) w)(w:World)(A:Option Addr)(c:Nat)(xs:List Int)(h:Ints w A c xs)(hl:xs.length<=17592186044416)(a m b:Nat)(jN:a<m)(Bh:m<b)(rC:b<=xs.length)(hc:BO g cb q A xs w)(h1:m-a≠1)(h2:b-m=1):
  Calls Tryz.prog 180 #[.slice A xs.length c, .int .i64 a, .int .i64 m, .int .i64 b, .func (.func g) #[] cb] w (IQ A c xs w):=by
 obtain⟨ga,hA,wX⟩:=h.pos (i:=a) (by omega);subst hA;have HH:=ae h;have HC:=ae hc;have KC:aj (∀(wr:World),Fr [] w wr->∀i j:Nat,i<xs.length->j<xs.length->∀u:Ext wr,Calls Tryz.prog g (#[.int .i64 xs[i]!, .int .i64 xs[j]!]++cb) u.v fun e W'=>e= .returned (.int .i64 (q xs[i]! xs[j]!))/\Fr [] u.v W'):=fun wr hf i j hi hj u=>HC.o u.v ((hf.ak u.fr).mono (fun k hk=>by cases hk)) _ (bk hi) _ (bk hj);have CE:aj (∀(wr:World),Fr [] w wr->∀i:Nat,i<xs.length->∀u:Ext wr,u.v.cell? ⟨ga,i,none⟩=some (.int .i64 xs[i]!)):=fun wr hf i hi u=>(HH.o.fY (hf.ak u.fr)).cell hi;obtain⟨d1,Fs⟩:∃d,m-a=d:=⟨_,rfl⟩
 obtain⟨d2,xM⟩:∃d,b-m=d:=⟨_,rfl⟩
 have w0:IntKind.i64.wrap ((m:Int)-(a:Int))=(d1:Int):=by rw[IntWalk.i64_in _ (by omega)];omega
 have w1:IntKind.i64.wrap ((b:Int)-(m:Int))=(d2:Int):=by rw[IntWalk.i64_in _ (by omega)];omega
 clear h hc;have rP:¬(d1:Int)=1:=by omega
 have nq:((d1:Int)==1)=false:=by simpa using rP
 obtain rfl :d2=1:=by omega
 go_enter Tryz.func180,Tryz.ntmps180;go_wp2_with fail;clear w0 w1 rP nq;go_loopg [14,15] (m-a) (fun g tj uU wr=>∃(i j:Nat),j=i+g/\a<=i/\j<=m/\tj= .int .i64 i/\uU= .int .i64 j/\aj (Fr [] w wr));case atStart=>exact⟨a,m,by omega,by omega,by omega,rfl,rfl,Fr.refl _ _⟩
 case round=>
  obtain⟨i,j,hg,hi,hj,rfl,rfl,HF⟩:=hrel;have HG:=ae hg;have ab:i<=j:=by omega
  clear hg;by_cases Nq:i<j
  ·have w2:IntKind.i64.wrap ((i:Int)+(j:Int))=(i:Int)+(j:Int):=IntWalk.i64_in _ (by omega);obtain⟨h,hh⟩:∃h:Nat,((i:Int)+(j:Int))/2=(h:Int):=⟨(i+j)/2,by omega⟩
   have h0:i<=h:=by omega
   have h1:h<j:=by omega
   have hx:(h:Int)<(xs.length:Int):=by omega
   have ad:(m:Int)<(xs.length:Int):=by omega
   have w3:IntKind.i64.wrap ((h:Int)+1)=(h:Int)+1:=IntWalk.i64_in _ (by omega);have xn:=ae (KC.o wr HF.o m h (by omega) (by omega));have e1:=CE.o wr HF.o h (by omega);have e2:=CE.o wr HF.o m (by omega);obtain⟨x,Ek⟩:∃x,xs[h]! =x:=⟨_,rfl⟩
   obtain⟨y,xD⟩:∃y,xs[m]! =y:=⟨_,rfl⟩
   rw[Ek]at e1 xn;rw[xD]at e2 xn;obtain⟨r,hr⟩:∃r,q y x=r:=⟨_,rfl⟩
   rw[hr]at xn;have H2:=ae hh;clear Ek xD hr;go_upto_region 17 with fail;clear hh;have hh:=H2.o;try rw[hh]
   clear hh;by_cases nN:r<0
   ·have hd:decide (r<0)=true:=qak nN;refine ap ?_;repeat (go_big_quiet_step (exact bf (xn.o _)))
    refine fq ?_;intro w4 cG;have df:=ae (HF.o.ak cG.o);clear e1 e2 HF cG xn;go_wp2;go_roundg (h-i);case measure=>have :=HG.o;omega
    case rel=>exact⟨i,h,by omega,by omega,by omega,rfl,rfl,df.o⟩
   ·have QO:0<=r:=by omega
    have hd:decide (r<0)=false:=qaj nN;refine ap ?_;repeat (go_big_quiet_step (exact bf (xn.o _)))
    refine fq ?_;intro w4 cG;have df:=ae (HF.o.ak cG.o);clear e1 e2 HF cG xn;go_wp2;go_roundg (j-(h+1));case measure=>have :=HG.o;omega
    case rel=>exact⟨h+1,j,by omega,by omega,by omega,by go_num,rfl,df.o⟩
  ·have aB:i<=m:=by omega
   have UU:=ae (HH.o.fY HF.o);have Fg:aj (Fr (ao (some ⟨ga,0,none⟩)) w wr):=HF.o.mono (fun k hk=>by cases hk);clear HF;go_wp2_with fail;go_loopg [17] (m-i) (fun g QD wr=>∃(k:Nat)(ys:List Int),k=i+g/\k<=m/\QD= .int .i64 k/\aj (ys.Perm xs)/\aj (Ints wr (some ⟨ga,0,none⟩) c ys)/\aj (Fr (ao (some ⟨ga,0,none⟩)) w wr));case atStart=>exact⟨m,xs,by omega,by omega,rfl,dM _,UU.o,Fg.o⟩
   case round=>
    obtain⟨k,ys,hg,hk,rfl,HP,HI,HF⟩:=hrel;have qT:=ae hg;have hlen:=HP.o.length_eq;have ar:i<=k:=(by omega)
    clear hg UU Fg;by_cases Bi:i<k
    ·obtain⟨J,Er⟩:∃J,k-1=J:=⟨_,rfl⟩
     have w3:IntKind.i64.wrap ((k:Int)-1)=(J:Int):=by rw[IntWalk.i64_in _ (by omega)];omega
     have pR:k<ys.length:=(by omega)
     have KJ:J<ys.length:=(by omega)
     have c1:=HI.o.cell pR;have c2:=HI.o.cell KJ;have f1:=HI.o.frozen k;have f2:=HI.o.frozen J;have dV:¬k=J:=(by omega)
     have gU:(k:Int)<(xs.length:Int):=(by omega)
     have jn:(J:Int)<(xs.length:Int):=(by omega)
     have Z6:aj ((dK ys k J).Perm xs):=(iI pR KJ).trans HP.o;have AR:=ae (HI.o.swap k J);have oM:=ae (HF.o.ak (Fr.swap wr ga k J (.int .i64 ys[J]!) (.int .i64 ys[k]!)));have Fe:=ae Er;obtain⟨x,Ek⟩:∃x,ys[k]! =x:=⟨_,rfl⟩
     obtain⟨y,xD⟩:∃y,ys[J]! =y:=⟨_,rfl⟩
     rw[Ek]at c1 AR oM;rw[xD]at c2 AR oM;clear Ek xD hlen pR KJ Er HI HF HP;go_wp2;go_region;clear c1 c2 f1 f2;go_wp2;go_roundg (J-i);case measure=>have :=qT.o;have :=Fe.o;omega
     case rel=>exact⟨J,dK ys k J,by have :=Fe.o;omega,by have :=Fe.o;omega,by go_num,Z6.o,AR.o,oM.o⟩
    ·have FF:aj (IQ (some ⟨ga,0,none⟩) c xs w (.returned (.tuple #[])) wr):=⟨rfl,ys,HP.o,HI.o,HF.o⟩
     go_wp2_with fail;go_end0;exact FF.o
def Ur(g:Nat)(J:Array Value)(q:Int->Int->Int)(N:Nat):Prop:=
 ∀(w:World)(A:Option Addr)(c:Nat)(xs:List Int)(h:Ints w A c xs)(hl:xs.length<=17592186044416)(a m b:Nat)(jN:a<m)(Bh:m<b)(rC:b<=xs.length)(hc:BO g J q A xs w)(hN:b-a<=N),
  Calls Tryz.prog 180 #[.slice A xs.length c, .int .i64 a, .int .i64 m, .int .i64 b, .func (.func g) #[] J] w (IQ A c xs w)
theorem Dv(g:Nat)(cb:Array Value)(q:Int->Int->Int)(eg:∀args w,(callFunc g args).run Tryz.prog w= .ok (.enter g args) w)(w:World)(A:Option Addr)(c:Nat)(xs:List Int)(h:Ints w A c xs)(hl:xs.length<=17592186044416)(a m b:Nat)(jN:a<m)(Bh:m<b)(rC:b<=xs.length)(hc:BO g cb q A xs w)(h1:m-a≠1)(h2:b-m≠1)(N:Nat)(hN:b-a<=N+1)(ih:Ur g cb q N):
  Calls Tryz.prog 180 #[.slice A xs.length c, .int .i64 a, .int .i64 m, .int .i64 b, .func (.func g) #[] cb] w (IQ A c xs w):=by
 obtain⟨ga,hA,wX⟩:=h.pos (i:=a) (by omega);subst hA;have HH:=ae h;have HC:=ae hc;have KC:aj (∀(wr:World),Fr [] w wr->∀i j:Nat,i<xs.length->j<xs.length->∀u:Ext wr,Calls Tryz.prog g (#[.int .i64 xs[i]!, .int .i64 xs[j]!]++cb) u.v fun e W'=>e= .returned (.int .i64 (q xs[i]! xs[j]!))/\Fr [] u.v W'):=fun wr hf i j hi hj u=>HC.o u.v ((hf.ak u.fr).mono (fun k hk=>by cases hk)) _ (bk hi) _ (bk hj);have CE:aj (∀(wr:World),Fr [] w wr->∀i:Nat,i<xs.length->∀u:Ext wr,u.v.cell? ⟨ga,i,none⟩=some (.int .i64 xs[i]!)):=fun wr hf i hi u=>(HH.o.fY (hf.ak u.fr)).cell hi;obtain⟨d1,Fs⟩:∃d,m-a=d:=⟨_,rfl⟩
 obtain⟨d2,xM⟩:∃d,b-m=d:=⟨_,rfl⟩
 have w0:IntKind.i64.wrap ((m:Int)-(a:Int))=(d1:Int):=by rw[IntWalk.i64_in _ (by omega)];omega
 have w1:IntKind.i64.wrap ((b:Int)-(m:Int))=(d2:Int):=by rw[IntWalk.i64_in _ (by omega)];omega
 clear h hc;have rP:¬(d1:Int)=1:=by omega
 have nq:((d1:Int)==1)=false:=by simpa using rP
 have tm:¬(d2:Int)=1:=by omega
 have kZ:((d2:Int)==1)=false:=by simpa using tm
 obtain⟨M,hM⟩:∃M:Nat,((a:Int)+(b:Int))/2=(M:Int):=⟨(a+b)/2,by omega⟩
 obtain⟨n,hn⟩:∃n:Nat,M+m=n:=⟨_,rfl⟩
 have bt:IntKind.i64.wrap ((a:Int)+(b:Int))=(a:Int)+(b:Int):=IntWalk.i64_in _ (by omega);have wn:IntKind.i64.wrap ((M:Int)+(m:Int))=(n:Int):=by rw[IntWalk.i64_in _ (by omega)];omega
 have HM:aj (a<M/\M<b/\M+m=n/\(a+b)/2=M/\n<=2*xs.length):=⟨by omega,by omega,by omega,by omega,by omega⟩
 have bg:=ae ih;clear ih;go_enter Tryz.func180,Tryz.ntmps180
 go_upto_if 140 with fail
 clear w0 w1 rP nq tm kZ bt wn
 go_cut [20,21] (fun YS aT wx=>∃s r:Nat,YS= .int .i64 s/\aT= .int .i64 r/\a<=s/\s<=r/\r<=m/\r<=M/\n<=b+s/\w=wx)
 case first =>
  as_aux_lemma=>
   obtain⟨m1,m2,m3,m4,m5⟩:=HM.o;by_cases bI:M<m
   ·obtain⟨s0,bo⟩:∃s0,n-b=s0:=⟨_,rfl⟩
    have wx:IntKind.i64.wrap ((n:Int)-(b:Int))=(s0:Int):=by rw[IntWalk.i64_in _ (by omega)];omega
    have bj:(M:Int)<(m:Int):=(by omega)
    have HS:aj (a<=s0/\s0<=M/\M<=m/\M<=M/\n<=b+s0):=⟨by omega,by omega,by omega,by omega,by omega⟩
    clear bo m1 m2 m3 m4 m5 Fs xM;go_wp2;go_meet;case rel=>exact⟨s0,M,rfl,rfl,HS.o.1,HS.o.2.1,HS.o.2.2.1,HS.o.2.2.2.1,HS.o.2.2.2.2,rfl⟩
   ·have bj:(m:Int)<=(M:Int):=by omega
    have HS:aj (a<=a/\a<=m/\m<=m/\m<=M/\n<=b+a):=⟨by omega,by omega,by omega,by omega,by omega⟩
    clear m1 m2 m3 m4 m5 Fs xM;go_wp2;go_meet;case rel=>exact⟨a,m,rfl,rfl,HS.o.1,HS.o.2.1,HS.o.2.2.1,HS.o.2.2.2.1,HS.o.2.2.2.2,rfl⟩
 case rest=>
  obtain⟨s0,r0,rfl,rfl,b1,b2,b3,b4,b5,rfl⟩:=hcut;have HB:=ae (And.intro b1 (And.intro b2 (And.intro b3 (And.intro b4 b5))));have tm:2<=n:=by have :=HM.o;omega
  have rz:n<=2*xs.length:=by have :=HM.o;omega
  obtain⟨p,hp⟩:∃p,n-1=p:=⟨_,rfl⟩
  have bB:IntKind.i64.wrap ((n:Int)-1)=(p:Int):=by rw[IntWalk.i64_in _ (by omega)];omega
  have aB:=ae hp;clear b1 b2 b3 b4 b5 hp Fs xM;go_wp2_with fail;clear bB;go_loopg [20,21] (r0-s0) (fun g YS aT wr=>∃(s r:Nat),r=s+g/\aj (a<=s/\r<=m/\r<=M/\n<=b+s)/\YS= .int .i64 s/\aT= .int .i64 r/\aj (Fr [] w wr));case atStart=>exact⟨s0,r0,by have :=HB.o;omega,by have :=HB.o;exact⟨by omega,by omega,by omega,by omega⟩,rfl,rfl,Fr.refl _ _⟩
  case round=>
   obtain⟨s,r,hg,HR,rfl,rfl,HF⟩:=hrel;have HG:=ae hg;have bG:s<=r:=by omega
   clear hg;by_cases bO:s<r
   ·as_aux_lemma=>
     have w2:IntKind.i64.wrap ((s:Int)+(r:Int))=(s:Int)+(r:Int):=IntWalk.i64_in _ (by have :=HR.o;omega);obtain⟨h,hh⟩:∃h:Nat,((s:Int)+(r:Int))/2=(h:Int):=⟨(s+r)/2,by omega⟩
     have h0:s<=h:=(by omega)
     have h1:h<r:=(by omega)
     obtain⟨t,ht⟩:∃t,p-h=t:=⟨_,rfl⟩
     have Cp:t<xs.length:=by have :=HR.o;have :=aB.o;have :=HM.o;omega
     have Th:h<xs.length:=by have :=HR.o;omega
     have wt:IntKind.i64.wrap ((p:Int)-(h:Int))=(t:Int):=by rw[IntWalk.i64_in _ (by have :=aB.o;omega)];have :=HR.o;have :=aB.o;have :=HM.o;omega
     have hx:(h:Int)<(xs.length:Int):=(by omega)
     have bS:(t:Int)<(xs.length:Int):=(by omega)
     have w3:IntKind.i64.wrap ((h:Int)+1)=(h:Int)+1:=IntWalk.i64_in _ (by omega);have xn:=ae (KC.o wr HF.o t h Cp Th);have e1:=CE.o wr HF.o h Th;have e2:=CE.o wr HF.o t Cp;obtain⟨x,Ek⟩:∃x,xs[h]! =x:=⟨_,rfl⟩
     obtain⟨y,xD⟩:∃y,xs[t]! =y:=⟨_,rfl⟩
     rw[Ek]at e1 xn;rw[xD]at e2 xn;obtain⟨z,hz⟩:∃z,q y x=z:=⟨_,rfl⟩
     rw[hz]at xn;have H2:=ae hh;clear Ek xD hz ht Cp Th;go_upto_region 35 with fail;clear hh;have hh:=H2.o;try rw[hh]
     clear hh;by_cases nN:z<0
     ·have hd:decide (z<0)=true:=qak nN;refine ap ?_;repeat (go_big_quiet_step (exact bf (xn.o _)))
      refine fq ?_;intro w4 cG;have df:=ae (HF.o.ak cG.o);clear e1 e2 HF cG xn;go_wp2;go_roundg (h-s);case measure=>have :=HG.o;omega
      case rel=>exact⟨s,h,by omega,by have :=HR.o;exact⟨by omega,by omega,by omega,by omega⟩,rfl,rfl,df.o⟩
     ·have QO:0<=z:=(by omega)
      have hd:decide (z<0)=false:=qaj nN;refine ap ?_;repeat (go_big_quiet_step (exact bf (xn.o _)))
      refine fq ?_;intro w4 cG;have df:=ae (HF.o.ak cG.o);clear e1 e2 HF cG xn;go_wp2;go_roundg (r-(h+1));case measure=>have :=HG.o;omega
      case rel=>exact⟨h+1,r,by omega,by have :=HR.o;exact⟨by omega,by omega,by omega,by omega⟩,by go_num,rfl,df.o⟩
   ·obtain rfl :s=r:=by omega
    obtain⟨E,hE⟩:∃E,n-s=E:=⟨_,rfl⟩
    have wE:IntKind.i64.wrap ((n:Int)-(s:Int))=(E:Int):=by have :=HR.o;have :=HM.o;rw[IntWalk.i64_in _ (by omega)];omega
    have HE:aj (E<=b/\m<=E/\M<=E):=⟨by have :=HR.o;have :=HM.o;omega,by have :=HR.o;have :=HM.o;omega,by have :=HR.o;have :=HM.o;omega⟩
    have UU:=ae (HH.o.fY HF.o);have Fg:aj (Fr (ao (some ⟨ga,0,none⟩)) w wr):=HF.o.mono (fun k hk=>by cases hk);clear hE HF KC CE;go_upto_region 39 with fail;clear wE;obtain⟨RT,Yc⟩:∃q,aj (decide (s<m/\m<E)=q):=⟨_,rfl⟩
    go_cut [185] (fun x wx=>x= .bool RT/\wr=wx)
    case first =>
     as_aux_lemma=>
      by_cases k1:s<m
      ·have ab:(s:Int)<(m:Int):=(by omega)
       by_cases k2:m<E
       ·have ad:(m:Int)<(E:Int):=(by omega)
        have J:RT=true:=Yc.o▸qak ⟨k1,k2⟩;go_wp2;go_meet;case rel=>exact⟨by rw[J],rfl⟩
       ·have ad:(E:Int)<=(m:Int):=(by omega)
        have J:RT=false:=Yc.o▸qaj (fun e=>k2 e.2);go_wp2;go_meet;case rel=>exact⟨by rw[J],rfl⟩
      ·have ab:(m:Int)<=(s:Int):=(by omega)
       have J:RT=false:=Yc.o▸qaj (fun e=>k1 e.1);go_wp2;go_meet;case rel=>exact⟨by rw[J],rfl⟩
    case rest=>
     obtain⟨rfl,rfl⟩:=hcut
     go_upto_if 185 with fail
     go_cut [] (fun wx=>Pm (some ⟨ga,0,none⟩) c xs w wx)
     case first =>
      as_aux_lemma=>
       cases RT with
       |true=>
        have J:=of_decide_eq_true Yc.o;have KR:=ae (DJ wr (some ⟨ga,0,none⟩) c xs UU.o hl s m E J.1 J.2 (by have :=HE.o;omega) g cb);clear J;go_wp2_with fail;refine KR.o.mono ?_;clear KR;rintro e w2 ⟨rfl,zs,z1,z2,z3⟩;have FF:aj (Pm (some ⟨ga,0,none⟩) c xs w w2):=⟨zs,z1,z2,Fg.o.ak z3⟩
        clear z1 z2 z3;go_wp2;go_meet;case rel=>exact FF.o
       |false=>
        have FF:aj (Pm (some ⟨ga,0,none⟩) c xs w wr):=⟨xs,dM _,UU.o,Fg.o⟩
        go_wp2;go_meet;case rel=>exact FF.o
     case rest=>
      obtain⟨w5,rfl⟩:∃x,x=wc:=⟨_,rfl⟩
      obtain⟨a1,y1,y2,y3⟩:=hcut;have aK:=ae y1;have Z9:=ae y2;have js:=ae y3;have ar:aj (a1.length=xs.length):=y1.length_eq;clear y1 y2 y3;go_upto_region 41 with fail;obtain⟨RS,Yb⟩:∃q,aj (decide (a<s/\s<M)=q):=⟨_,rfl⟩
      go_cut [199] (fun x wx=>x= .bool RS/\w5=wx)
      case first =>
       as_aux_lemma=>
        by_cases k1:a<s
        ·have ab:(a:Int)<(s:Int):=(by omega)
         by_cases k2:s<M
         ·have ad:(s:Int)<(M:Int):=(by omega)
          have J:RS=true:=Yb.o▸qak ⟨k1,k2⟩;go_wp2;go_meet;case rel=>exact⟨by rw[J],rfl⟩
         ·have ad:(M:Int)<=(s:Int):=(by omega)
          have J:RS=false:=Yb.o▸qaj (fun e=>k2 e.2);go_wp2;go_meet;case rel=>exact⟨by rw[J],rfl⟩
        ·have ab:(s:Int)<=(a:Int):=(by omega)
         have J:RS=false:=Yb.o▸qaj (fun e=>k1 e.1);go_wp2;go_meet;case rel=>exact⟨by rw[J],rfl⟩
      case rest=>
       obtain⟨rfl,rfl⟩:=hcut
       go_upto_if 199 with fail
       go_cut [] (fun wx=>Pm (some ⟨ga,0,none⟩) c xs w wx)
       case first =>
        as_aux_lemma=>
         cases RS with
         |true=>
          have J:=of_decide_eq_true Yb.o;have KR:=ae (bg.o w5 (some ⟨ga,0,none⟩) c a1 Z9.o (by rw[ar.o];exact hl) a s M J.1 J.2 (by rw[ar.o];have :=HM.o;omega) (HC.o.ak js.o aK.o) (by have :=HM.o;omega));rw[ar.o]at KR;clear J;go_wp2_with fail;refine KR.o.mono ?_;clear KR;rintro e w2 ⟨rfl,zs,z1,z2,z3⟩;have FF:aj (Pm (some ⟨ga,0,none⟩) c xs w w2):=⟨zs,z1.trans aK.o,z2,js.o.ak z3⟩
          clear z1 z2 z3;go_wp2;go_meet;case rel=>exact FF.o
         |false=>
          have FF:aj (Pm (some ⟨ga,0,none⟩) c xs w w5):=⟨a1,aK.o,Z9.o,js.o⟩
          go_wp2;go_meet;case rel=>exact FF.o
       case rest=>
        obtain⟨w6,rfl⟩:∃x,x=wc:=⟨_,rfl⟩
        obtain⟨ba,y1,y2,y3⟩:=hcut;have aM:=ae y1;have bb:=ae y2;have fC:=ae y3;have Mj:aj (ba.length=xs.length):=y1.length_eq;clear y1 y2 y3;go_upto_region 43 with fail;obtain⟨RR,Ya⟩:∃q,aj (decide (M<E/\E<b)=q):=⟨_,rfl⟩
        go_cut [213] (fun x wx=>x= .bool RR/\w6=wx)
        case first =>
         as_aux_lemma=>
          by_cases k1:M<E
          ·have ab:(M:Int)<(E:Int):=(by omega)
           by_cases k2:E<b
           ·have ad:(E:Int)<(b:Int):=(by omega)
            have J:RR=true:=Ya.o▸qak ⟨k1,k2⟩;go_wp2;go_meet;case rel=>exact⟨by rw[J],rfl⟩
           ·have ad:(b:Int)<=(E:Int):=(by omega)
            have J:RR=false:=Ya.o▸qaj (fun e=>k2 e.2);go_wp2;go_meet;case rel=>exact⟨by rw[J],rfl⟩
          ·have ab:(E:Int)<=(M:Int):=(by omega)
           have J:RR=false:=Ya.o▸qaj (fun e=>k1 e.1);go_wp2;go_meet;case rel=>exact⟨by rw[J],rfl⟩
        case rest=>
         obtain⟨rfl,rfl⟩:=hcut
         go_upto_if 213 with fail
         cases RR with
         |true=>
          have J:=of_decide_eq_true Ya.o;have KR:=ae (bg.o w6 (some ⟨ga,0,none⟩) c ba bb.o (by rw[Mj.o];exact hl) M E b J.1 J.2 (by rw[Mj.o];have :=HM.o;omega) (HC.o.ak fC.o aM.o) (by have :=HM.o;omega));rw[Mj.o]at KR;clear J;go_wp2_with fail;refine KR.o.mono ?_;clear KR;rintro e w2 ⟨rfl,zs,z1,z2,z3⟩;have FF:aj (Pm (some ⟨ga,0,none⟩) c xs w w2):=⟨zs,z1.trans aM.o,z2,fC.o.ak z3⟩
          clear z1 z2 z3;go_wp2_with fail;go_end0;exact FF.o.pmp
         |false=>
          have FF:aj (Pm (some ⟨ga,0,none⟩) c xs w w6):=⟨ba,aM.o,bb.o,fC.o⟩
          go_wp2_with fail;go_end0;exact FF.o.pmp
theorem yO(g:Nat)(cb:Array Value)(q:Int->Int->Int)(eg:∀args w,(callFunc g args).run Tryz.prog w= .ok (.enter g args) w):∀N,Ur g cb q N:=by
 intro N;induction N with
 |zero=>intro w A c xs h hl a m b jN J rC hc hN;omega
 |succ N ih=>
  intro w A c xs h hl a m b jN J rC hc hN;by_cases h1:m-a=1
  ·exact Du g cb q eg w A c xs h hl a m b jN J rC hc h1
  ·by_cases h2:b-m=1
   ·exact Dt g cb q eg w A c xs h hl a m b jN J rC hc h1 h2
   ·exact Dv g cb q eg w A c xs h hl a m b jN J rC hc h1 h2 N hN ih
theorem Dx(g:Nat)(cb:Array Value)(q:Int->Int->Int)(eg:∀args w,(callFunc g args).run Tryz.prog w= .ok (.enter g args) w)(w:World)(A:Option Addr)(c:Nat)(xs:List Int)(h:Ints w A c xs)(hl:xs.length<=17592186044416)(hc:BO g cb q A xs w):
  Calls Tryz.prog 164 #[.slice A xs.length c, .int .i64 xs.length, .func (.func g) #[] cb] w (IQ A c xs w):=by
 obtain⟨n,hn⟩:∃n,xs.length=n:=⟨_,rfl⟩
 have HN:=ae hn;have HH:=ae h;have HC:=ae hc;rw[hn];rw[hn]at hl;clear h hc hn;have KI:aj (∀(W:World)(ys:List Int),ys.Perm xs->Ints W A c ys->Fr (ao A) w W->∀a b:Nat,a<=b->b<=n->Calls Tryz.prog 179 #[.slice A n c, .int .i64 a, .int .i64 b, .func (.func g) #[] cb] W fun e w'=>e= .returned (.tuple #[])/\Pm A c xs w w'):=fun W ys hp hi hf a b h1 h2=>by have hlen:ys.length=n:=hp.length_eq.trans HN.o;have :=xC W A c ys hi (by omega) a b h1 (by omega) g cb q eg (HC.o.ak hf hp);rw[hlen]at this;exact this.mono fun e w' he=>⟨he.pm.1,he.pm.2.step hp hf⟩
 have KM:aj (∀(W:World)(ys:List Int),ys.Perm xs->Ints W A c ys->Fr (ao A) w W->∀a m b:Nat,a<m->m<b->b<=n->Calls Tryz.prog 180 #[.slice A n c, .int .i64 a, .int .i64 m, .int .i64 b, .func (.func g) #[] cb] W fun e w'=>e= .returned (.tuple #[])/\Pm A c xs w w'):=fun W ys hp hi hf a m b h1 h2 h3=>by have hlen:ys.length=n:=hp.length_eq.trans HN.o;have :=yO g cb q eg (b-a) W A c ys hi (by omega) a m b h1 h2 (by omega) (HC.o.ak hf hp) (aq _);rw[hlen]at this;exact this.mono fun e w' he=>⟨he.pm.1,he.pm.2.step hp hf⟩
 go_enter Tryz.func164,Tryz.ntmps164;go_wp2_with fail;go_loopg [7,8] n (fun g x7 x8 wr=>∃(a:Nat),n<=a+g/\a<=n/\x7= .int .i64 a/\x8= .int .i64 (a+20:Nat)/\aj (Pm A c xs w wr));case atStart=>exact⟨0,by omega,by omega,rfl,rfl,⟨xs,dM _,HH.o,Fr.refl _ _⟩⟩
 case round=>
  obtain⟨a,hg,ha,rfl,rfl,J⟩:=hrel;have HG:=ae hg;clear hg;obtain⟨b,hb⟩:∃b,a+20=b:=⟨_,rfl⟩
  rw[hb];by_cases rC:b<=n
  ·have Tu:(b:Int)<=(n:Int):=by omega
   have w1:IntKind.i64.wrap ((b:Int)+20)=(b:Int)+20:=IntWalk.i64_in _ (by omega);obtain⟨ys,y1,y2,y3⟩:=J.o;have K:=ae (KI.o wr ys y1 y2 y3 a b (by omega) rC);have HB:=ae hb;clear y1 y2 y3 hb J;go_wp2_with fail;refine K.o.mono ?_;clear K;rintro e w2 ⟨rfl,hp⟩;have J:=ae hp;clear hp;go_wp2;go_roundg (n-b);case measure=>have :=HG.o;have :=HB.o;omega
   case rel=>exact⟨b,by omega,rC,rfl,by go_num,J.o⟩
  ·have Tu:(n:Int)<(b:Int):=by omega
   obtain⟨ys,y1,y2,y3⟩:=J.o;have K:=ae (KI.o wr ys y1 y2 y3 a n ha (aq _));clear y1 y2 y3 hb J;go_wp2_with fail;refine K.o.mono ?_;clear K;rintro e w2 ⟨rfl,hp⟩;have J:=ae hp;clear hp;go_wp2_with fail;go_loopg [6,7,8] (n+1) (fun g x6 x7 x8 wr=>∃(k:Nat),n+1<=k+g/\20<=k/\k<=2*n+20/\x6= .int .i64 k/\aj (Pm A c xs w wr));case atStart=>exact⟨20,by omega,by omega,by omega,rfl,J.o⟩
   case round=>
    obtain⟨k,fu,hk,sR,rfl,Fz⟩:=hrel;have qT:=ae fu;have HK:=ae sR;clear fu sR J;by_cases iS:k<n
    ·obtain⟨k2,sR⟩:∃k2,2*k=k2:=⟨_,rfl⟩
     have w1:IntKind.i64.wrap (2*(k:Int))=(k2:Int):=by rw[IntWalk.i64_in _ (by omega)];omega
     have Dh:IntKind.i64.wrap ((k:Int)*2)=(k2:Int):=by rw[IntWalk.i64_in _ (by omega)];omega
     have Fd:=ae sR;have ar:k2<=35184372088832:=(by omega)
     clear sR;go_wp2_with fail;go_loopg [7,8] n (fun g x7 x8 wr=>∃(a:Nat),n<=a+g/\a<=n/\x7= .int .i64 a/\x8= .int .i64 (a+k2:Nat)/\aj (Pm A c xs w wr));case atStart=>exact⟨0,by omega,by omega,rfl,by rw[dd],Fz.o⟩
     case round=>
      obtain⟨a,hg,ha,rfl,rfl,J⟩:=hrel;have qS:=ae hg;clear hg Fz;obtain⟨b,hb⟩:∃b,a+k2=b:=⟨_,rfl⟩
      obtain⟨m,hm⟩:∃m,a+k=m:=⟨_,rfl⟩
      rw[hb];have wm:IntKind.i64.wrap ((a:Int)+(k:Int))=(m:Int):=by rw[IntWalk.i64_in _ (by omega)];omega
      by_cases rC:b<=n
      ·have Tu:(b:Int)<=(n:Int):=(by omega)
       have wb:IntKind.i64.wrap ((b:Int)+(k2:Int))=(b:Int)+(k2:Int):=IntWalk.i64_in _ (by omega);obtain⟨ys,y1,y2,y3⟩:=J.o;have K:=ae (KM.o wr ys y1 y2 y3 a m b (by omega) (by have :=Fd.o;omega) rC);have HB:=ae hb;clear y1 y2 y3 hb hm J;go_wp2_with fail;refine K.o.mono ?_;clear K;rintro e w2 ⟨rfl,hp⟩;have J:=ae hp;clear hp;go_wp2;go_roundg (n-b);case measure=>have :=qS.o;have :=HB.o;have :=Fd.o;omega
       case rel=>exact⟨b,by omega,rC,rfl,by go_num,J.o⟩
      ·have Tu:(n:Int)<(b:Int):=(by omega)
       by_cases ad:m<n
       ·have ab:(m:Int)<(n:Int):=(by omega)
        obtain⟨ys,y1,y2,y3⟩:=J.o;have K:=ae (KM.o wr ys y1 y2 y3 a m n (by omega) ad (aq _));clear y1 y2 y3 hb hm J;go_wp2_with fail;refine K.o.mono ?_;clear K;rintro e w2 ⟨rfl,hp⟩;have J:=ae hp;clear hp;go_wp2;go_roundg (n+1-k2);case measure=>have :=qT.o;have :=Fd.o;omega
        case rel=>exact⟨k2,by omega,by have :=Fd.o;omega,by have :=Fd.o;omega,rfl,J.o⟩
       ·have ab:(n:Int)<=(m:Int):=(by omega)
        clear hb hm;go_wp2;go_roundg (n+1-k2);case measure=>have :=qT.o;have :=Fd.o;omega
        case rel=>exact⟨k2,by omega,by have :=Fd.o;omega,by have :=Fd.o;omega,rfl,J.o⟩
    ·have Bj:(n:Int)<=(k:Int):=(by omega)
     go_wp2_with fail;go_end0;exact Fz.o.pmp
theorem vf(g:Nat)(J:Array Value)(q:Int->Int->Int)(eg:∀args w,(callFunc g args).run Tryz.prog w= .ok (.enter g args) w)(w:World)(A:Option Addr)(c:Nat)(xs:List Int)(h:Ints w A c xs)(hl:xs.length<=17592186044416)(hc:BO g J q A xs w):
  Calls Tryz.prog 140 #[.slice A xs.length c, .func (.func g) #[] J] w (IQ A c xs w):=by
 have K:=ae (Dx g J q eg w A c xs h hl hc);clear h hc;go_enter Tryz.func140,Tryz.ntmps140;go_wp2_with fail;refine K.o.mono ?_;clear K;rintro e w2 ⟨rfl,hp⟩;have HP:aj (Pm A c xs w w2):=hp;clear hp;go_wp2_with fail;go_end0;exact HP.o.pmp
theorem D9(w:World)(L:aO)(S:Sv)(h:bh w L S)(m:Nat)(ok:S.Ok m)(n:Nat)(hn:n<S.list.length)(h0:0<(S.rc n).lits.length):
  Calls Tryz.prog 139 #[.pointer (some ⟨L.a,0,none⟩), .int .i64 n] w fun e w'=>e= .returned (.bool (S.locked n))/\Fr [] w w':=by
 have um:n<L.cs.length:=by rw[h.pN];exact hn
 have fJ:=h.sh um;obtain⟨gc,km,x0,-,-⟩:=h.sg um;have iP:=h.qM n um;have gY:=ok.lit (n:=n) (k:=0) h0;rw[fJ]at h0 gY;obtain⟨⟨A,c,l,b,ac⟩,hx⟩:∃x,L.cs[n]! =x:=⟨_,rfl⟩
 rw[hx]at fJ x0 iP h0 gY;simp only[Cw.rc]at fJ x0 iP h0 gY;have lP:=ok.vl;have nV:=ok.ll;obtain⟨ga,hA,wX⟩:=iP.pos h0;subst hA;have cy:=iP.cell h0;obtain⟨y,hy⟩:∃y,l[0]! =y:=⟨_,rfl⟩
 rw[hy]at cy gY;obtain⟨c0,-,-,c3,-⟩:=h.cells;rw[km]at c3;have AI:=h.pN;rw[AI]at c3;have kk:S.locked n=(decide (0<S.T.mQ y)&&decide (S.T.fV (tv y)=(n:Int)+1)):=by unfold Sv.locked;rw[fJ];simp only;rw[hy];rfl
 have ab:(n:Int)<(S.list.length:Int):=by omega
 have Vk:(0:Int)<(l.length:Int):=by omega
 have KV:=ae (eN w L.tL S.T h.tr y (by omega) (by omega) ok.small);have KR:=ae (lI w L.tL S.T h.tr (tv y));have tn:=JY (x:=y) (by omega);have eo:IntKind.i64.wrap (-y)= -y:=IntWalk.i64_in _ (by omega);have kE:IntKind.i64.wrap ((n:Int)+1)=(n:Int)+1:=IntWalk.i64_in _ (by omega);obtain⟨v,hv⟩:∃v,S.T.mQ y=v:=⟨_,rfl⟩
 obtain⟨t,ht⟩:∃t,tv y=t:=⟨_,rfl⟩
 obtain⟨r,hr⟩:∃r,S.T.fV t=r:=⟨_,rfl⟩
 rw[hv]at KV;rw[ht,hr]at KR;rw[ht]at tn;rw[kk,hv,ht,hr];obtain⟨res,gz⟩:∃res,(decide (0<v)&&decide (r=(n:Int)+1))=res:=⟨_,rfl⟩
 rw[gz];have gd:=ae gz;clear kk hv hr ht hy fJ hx iP h AI gz;go_enter Tryz.func139,Tryz.ntmps139;go_wp2_with fail;refine KV.o.mono ?_;clear KV;rintro e w2 ⟨rfl,rfl⟩;by_cases Co:0<v
 ·by_cases J:r=(n:Int)+1
  ·have hb:(r==(n:Int)+1)=true:=by simpa using J
   by_cases xD:y< -y
   ·rw[qai xD]at tn;go_wp2_with fail;try rw[show max y t=t by omega]
    refine KR.o.mono ?_;rintro e w2 ⟨rfl,rfl⟩;go_wp2;go_ret;exact⟨by rw[<-gd.o,qak Co,qak J];rfl,Fr.refl _ _⟩
   ·rw[qah xD]at tn;have ld: -y<=y:=(by omega)
    go_wp2_with fail;try rw[show max t (-t)=t by omega]
    refine KR.o.mono ?_;rintro e w2 ⟨rfl,rfl⟩;go_wp2;go_ret;exact⟨by rw[<-gd.o,qak Co,qak J];rfl,Fr.refl _ _⟩
  ·have hb:(r==(n:Int)+1)=false:=by simpa using J
   by_cases xD:y< -y
   ·rw[qai xD]at tn;go_wp2_with fail;try rw[show max y t=t by omega]
    refine KR.o.mono ?_;rintro e w2 ⟨rfl,rfl⟩;go_wp2;go_ret;exact⟨by rw[<-gd.o,qak Co,qaj J];rfl,Fr.refl _ _⟩
   ·rw[qah xD]at tn;have ld: -y<=y:=(by omega)
    go_wp2_with fail;try rw[show max t (-t)=t by omega]
    refine KR.o.mono ?_;rintro e w2 ⟨rfl,rfl⟩;go_wp2;go_ret;exact⟨by rw[<-gd.o,qak Co,qaj J];rfl,Fr.refl _ _⟩
 ·have WL:v<=0:=by omega
  go_wp2;go_ret;exact⟨by rw[<-gd.o,qaj (by omega:¬0<v)];rfl,Fr.refl _ _⟩
def X6(S:Sv)(x y:Int):Int:=wrap64 ((S.rc x.toNat).act-(S.rc y.toNat).act)
theorem JL(w:World)(L:aO)(S:Sv)(h:bh w L S)(k:Nat)(hk:w.cell? ⟨k,0,none⟩=some (.pointer (some ⟨L.a,0,none⟩)))(x y:Nat)(hx:x<S.list.length)(hy:y<S.list.length):
  Calls Tryz.prog 141 #[.int .i64 x, .int .i64 y, .pointer (some ⟨k,0,none⟩)] w fun e w'=>e= .returned (.int .i64 (X6 S (x:Int) (y:Int)))/\Fr [] w w':=by
 have ab:x<L.cs.length:=by rw[h.pN];exact hx
 have WC:y<L.cs.length:=by rw[h.pN];exact hy
 obtain⟨gc,km,-,-,x2⟩:=h.sg ab;obtain⟨ad,J,-,-,y2⟩:=h.sg WC;rw[km]at J;obtain rfl :gc=ad:=by simpa using J
 have ex:=h.sh ab;have ey:=h.sh WC;obtain⟨-,-,-,c3,-⟩:=h.cells;rw[km,h.pN]at c3;have ar:(x:Int)<(S.list.length:Int):=by omega
 have aB:(y:Int)<(S.list.length:Int):=by omega
 have hq:X6 S (x:Int) (y:Int)=wrap64 ((L.cs[x]!).act-(L.cs[y]!).act):=by unfold X6;rw[Int.toNat_natCast,Int.toNat_natCast,ex,ey];rfl
 rw[hq];obtain⟨u,hu⟩:∃u,(L.cs[x]!).act=u:=⟨_,rfl⟩
 obtain⟨v,hv⟩:∃v,(L.cs[y]!).act=v:=⟨_,rfl⟩
 rw[hu]at x2⊢;rw[hv]at y2⊢;have e0:=Ext.cell hk;have e1:=Ext.cell c3;have e2:=Ext.cell x2;have e3:=Ext.cell y2;clear hq hu hv ex ey h J km ab WC hk c3 x2 y2;go_enter Tryz.func141,Tryz.ntmps141;go_wp2;refine ap ?_;repeat (go_big_quiet_step (fail))
 refine fq ?_;intro w2 aT;clear e0 e1 e2 e3;go_wp2;go_ret;exact⟨rfl,aT.o⟩
theorem If:∀args w,(callFunc 141 args).run Tryz.prog w= .ok (.enter 141 args) w:=enters_of Tryz.func141 (by kernel_rfl) rfl
theorem bh.ahl{w:World}{L:aO}{S:Sv}(h:bh w L S){n:Nat}(hn:n<L.cs.length){gc:Nat}(km:L.cA=some ⟨gc,0,none⟩):
  w.frozen? ⟨gc,n*3,none⟩=false/\w.frozen? ⟨gc,n*3+1,none⟩=false/\
  bh ((w.setCell ⟨gc,n*3,none⟩ (.slice none 0 0)).setCell ⟨gc,n*3+1,none⟩ (.bool false)).drew { L with cs:=L.cs.set n ⟨none,0,[],false,(L.cs[n]!).act⟩} { S with list:=S.list.set n ⟨[],false,(S.rc n).act⟩}/\
   Fr [gc] w ((w.setCell ⟨gc,n*3,none⟩ (.slice none 0 0)).setCell ⟨gc,n*3+1,none⟩ (.bool false)).drew/\(L.dh gc).1=L.id:=by
 have r:=h.wD;unfold uN at r;rw[km]at r;have mH:L.dh gc=(L.id,3,0):=h.t3 gc (by rw[km];simp[ao]);have hf:Fr [gc] w ((w.setCell ⟨gc,n*3,none⟩ (.slice none 0 0)).setCell ⟨gc,n*3+1,none⟩ (.bool false)).drew:=(((Fr.refl _ w).setCell (.inl (by simp)) _).setCell (.inl (by simp)) _).drew;have o:=h.off (P:=(· =(3,0))) hf (fun k hk hl=>⟨_,rfl,by simp at hk;subst hk;exact mH⟩);have pO:=(World.ownsRow.stored r (n*3) (.slice none 0 0)).1;have ab:=(World.ownsRow.stored pO (n*3+1) (.bool false)).1;have fJ:=h.sh hn;have rS:∀j:Nat,(L.cs.set n ⟨none,0,[],false,(L.cs[n]!).act⟩)[j]! =if n=j/\n<L.cs.length then⟨none,0,[],false,(L.cs[n]!).act⟩else L.cs[j]! :=fun j=>eQ _ _ _ _;refine⟨World.ownsRow.frozenAt r _,World.ownsRow.frozenAt r _,⟨?_,o.tr (by decide),o.hp (by decide),h.jf,?_,h.CI,?_,o.rws (by decide),o.wv (by decide),o.yd (by decide),o.vm (by decide),fun j J=> ?_,fun c hc=>o.sV c hc (by simp),
  h.t0,h.t1,h.t2,h.t3,h.t4,h.t5,h.t6,h.t7,fun j J k hk=> ?_,h.t9⟩,hf,by rw[mH]⟩
 ·have :=o.obj (by decide);simp only[qm,aw]at this⊢;exact this
 ·simp only;rw[<-h.CJ,List.map_set];congr 1;rw[fJ];rfl
 ·unfold uN;obtain⟨g0,g1,g2⟩:=oF L.cs n hn;have e:((fP L.cs).set (n*3) (.slice none 0 0)).set (n*3+1) (.bool false)=fP (L.cs.set n ⟨none,0,[],false,(L.cs[n]!).act⟩):=by rw[<-rE L.cs n _ hn];simp only;refine(mp ?_).symm;rw[gW (by omega),gW (by omega)];exact g2
  simp only[aw];rw[<-e,km];exact World.ownsRow.drew ab
 ·simp only[aw]at J;simp only;rw[rS];by_cases hc:n=j/\n<L.cs.length
  ·rw[qai hc];exact Ints.nil _
  ·rw[qah hc];exact o.qM j J (by simp)
 ·simp only[aw]at J;simp only at hk;rw[rS]at hk;by_cases hc:n=j/\n<L.cs.length
  ·rw[qai hc]at hk;simp[ao]at hk
  ·rw[qah hc]at hk;exact h.t8 j J k hk
namespace Sv
def BP(S:Sv)(n:Nat):Bool:=(S.rc n).nI&&decide (2<(S.rc n).lits.length)&& !S.locked n
def jT(S:Sv)(k:Nat):List Nat:=(List.range k).filter S.BP
theorem FD(S:Sv)(k:Nat):S.jT (k+1)=S.jT k++if S.BP k=true then[k]else[]:=by unfold jT;rw[ju,List.filter_append,List.filter_cons,List.filter_nil]
theorem yF(S:Sv)(k:Nat):(S.jT k).length<=k:=by unfold jT;have :=List.length_filter_le S.BP (List.range k);rw[de]at this;exact this
end Sv
theorem JQ{J:List Int}{wl:List Nat}(h:J.Perm (cd wl)):∃ls:List Nat,J=cd ls/\ls.Perm wl:=by
 refine⟨J.map Int.toNat,?_,?_⟩
 ·unfold cd;rw[List.map_map];refine(List.map_id J).symm.trans (List.map_congr_left fun x hx=> ?_);obtain⟨n,_,rfl⟩:=aN.1 (h.mem_iff.1 hx);simp
 ·have :=h.map Int.toNat;unfold cd at this;rw[List.map_map]at this;have e:(Int.toNat∘fun n:Nat=>(n:Int))=id:=by funext n;simp
  rw[e,List.map_id]at this;exact this
namespace Sv
def j7(S:Sv)(ls:List Nat)(j:Nat):Sv:=(ls.take j).foldl cU S
theorem EL(S:Sv)(ls:List Nat){j:Nat}(h:j<ls.length):S.j7 ls (j+1)=(S.j7 ls j).cU ls[j]! :=by unfold j7;rw[List.take_add_one,List.foldl_append];simp only[aa,af h,aJ,eD,List.foldl_cons,List.foldl_nil]
theorem Ij{S:Sv}{ls:List Nat}(hp:ls.Perm S.De):Qc S (S.j7 ls (ls.length/2)):=by have J:S.De.Nodup:=List.Nodup.sublist List.filter_sublist List.nodup_range;refine⟨ls.take (ls.length/2),List.Nodup.sublist (List.take_sublist _ _) (hp.nodup_iff.2 J),fun n J=>hp.mem_iff.1 (List.mem_of_mem_take J),?_,rfl⟩;rw[bz,<-hp.length_eq];omega
end Sv
theorem tU:IM:=by
 intro w L S h ok uY sl;obtain⟨w1,eo⟩:∃w1,w.alloc (.cells #[.pointer (some ⟨L.a,0,none⟩)] 78)=w1:=⟨_,rfl⟩
 have ib:aj (Fr [] w w1):=by rw[<-eo];exact aR _ _
 have nX:w1.cell? ⟨w.heap.size,0,none⟩=some (.pointer (some ⟨L.a,0,none⟩)):=by rw[<-eo];exact(At.new w _ _).cell 0
 have nM:w1.heap.size=w.heap.size+1:=by rw[<-eo];simp
 obtain⟨J,xP⟩:∃J,L.shut w=J:=⟨_,rfl⟩
 have H1:aj (bh w1 J S):=by rw[<-xP];exact h.shut.keep ib.o
 have fH:aj (L.ext J w):=by rw[<-xP];exact L.og w
 have xp:aj (∀k,w.heap.size<=k->(J.dh k).1≠J.id):=fun k hk=>by rw[<-xP];exact aO.ja hk
 have UC:=ae nM;have uS:=ae nX;have lh:=ae ok;have nW:J.a=L.a:=fH.o.1;obtain⟨-,-,-,c3,-⟩:=H1.o.cells;rw[nW,H1.o.pN]at c3;have rK:aj (S.list.length<=2199023255552):=ok.ll;have nV:=ok.ll;clear h ok xP nM;go_enter Tryz.func108,Tryz.ntmps108;go_upto_region 2 with fail;clear eo;go_wp2_with fail;go_loopg [2,12] S.list.length (fun g x2 Jy wr=>∃(k:Nat)(A':Option Addr)(c':Nat),k+g=S.list.length/\x2= .slice A' (S.jT k).length c'/\Jy= .int .i64 k/\aj (Ints wr A' c' (cd (S.jT k)))/\aj (∀j,j∈ao A'->w1.heap.size<=j)/\aj (Fr [] w1 wr));case atStart=>exact⟨0,none,0,by omega,rfl,rfl,Ints.nil _,fun j hj=>by simp[ao]at hj,Fr.refl _ _⟩
 case round=>
  obtain⟨k,A',c',hk,rfl,rfl,HI,VC,HF⟩:=hrel;have HK:=ae hk;have iS:k<=S.list.length:=by omega
  clear hk;by_cases bt:k<S.list.length
  ·have H2:=ae (H1.o.keep HF.o);have bG:k<J.cs.length:=by rw[H1.o.pN];exact bt
   obtain⟨gc,km,x0,x1,x2⟩:=H2.o.sg bG;have fJ:=H1.o.sh bG;obtain⟨⟨Ar,cr,lr,br,ar⟩,hx⟩:∃x,J.cs[k]! =x:=⟨_,rfl⟩
   rw[hx]at x0 x1 x2 fJ;simp only[Cw.rc]at x0 x1 x2 fJ;rw[km]at c3;have cb:=HF.o.aF uS.o;have b5:=HF.o.aF c3;obtain⟨w2,kE⟩:∃w2,wr.alloc (.cells #[.slice Ar lr.length cr, .bool br, .int .i64 ar] 168)=w2:=⟨_,rfl⟩
   have df:aj (Fr [] w1 w2):=kE▸(HF.o.ak (aR _ _));have bj:aj (Fr [] wr w2):=kE▸(aR _ _);have n0:w2.cell? ⟨wr.heap.size,0,none⟩=some (.slice Ar lr.length cr):=by rw[<-kE];exact(At.new wr _ _).cell 0
   have n1:w2.cell? ⟨wr.heap.size,1,none⟩=some (.bool br):=by rw[<-kE];exact(At.new wr _ _).cell 1
   have b6:=df.o.aF uS.o;have fS:S.BP k=(br&&decide (2<lr.length)&& !S.locked k):=by unfold Sv.BP;rw[fJ]
   have Uz:=ae fS;have qQ:=ae (S.FD k);have KL:aj (0<lr.length->Calls Tryz.prog 139 #[.pointer (some ⟨L.a,0,none⟩), .int .i64 k] w2 fun e w'=>e= .returned (.bool (S.locked k))/\Fr [] w2 w'):=fun h0=>by have :=D9 w2 J S (H1.o.keep df.o) 0 lh.o k bt (by rw[fJ];exact h0);rw[nW]at this;exact this
   have Bj:(k:Int)<(S.list.length:Int):=by omega
   have wk:IntKind.i64.wrap ((k:Int)+1)=(k:Int)+1:=IntWalk.i64_in _ (by omega);clear hx fJ fS;go_upto_region 5 with fail;clear kE b5 c3 x0 x1 x2 cb km;obtain⟨wb,fS⟩:∃wb,S.BP k=wb:=⟨_,rfl⟩
   rw[fS]at Uz qQ;have ch:=ae fS;clear fS
   go_cut [30]from 13 to 34 (fun x wx=>x= .bool wb/\aj (Fr [] w2 wx))
   case first =>
    cases br with
    |false=>
     have hq:wb=false:=by rw[Uz.o];rfl
     clear KL;go_wp2;go_meet;case rel=>exact⟨by rw[hq],Fr.refl _ _⟩
    |true=>
     by_cases h2:2<lr.length
     ·have b7:(2:Int)<(lr.length:Int):=(by omega)
      have KL:=KL.o (by omega);obtain⟨lk,kk⟩:∃lk,S.locked k=lk:=⟨_,rfl⟩
      rw[kk]at KL Uz;have hq:wb= !lk:=by rw[Uz.o,qak h2];rfl
      have Fd:=ae KL;have HQ:=ae hq;clear KL hq kk;go_wp2_with fail;refine Fd.o.mono ?_;clear Fd;rintro e w3 ⟨rfl,hf⟩;have dG:=ae hf;clear hf;cases lk with
      |true=>
       go_wp2;go_meet;case rel=>exact⟨by rw[HQ.o];rfl,dG.o⟩
      |false=>
       go_wp2;go_meet;case rel=>exact⟨by rw[HQ.o];rfl,dG.o⟩
     ·have b7:(lr.length:Int)<=2:=(by omega)
      have hq:wb=false:=by rw[Uz.o,qaj h2];rfl
      clear KL;go_wp2;go_meet;case rel=>exact⟨by rw[hq],Fr.refl _ _⟩
   case rest=>
    obtain⟨rfl,dG⟩:=hcut;obtain⟨w3,rfl⟩:∃x,x=wc:=⟨_,rfl⟩
    have Mp:=ae (df.o.ak dG.o);have bg:=ae (bj.o.ak dG.o);clear KL n0 n1 b6 df dG bj;cases wb with
    |false=>
     have HW:=qQ.o;simp only[bu,if_false,cq]at HW;have HW:=ae HW;go_wp2;go_roundg (gk-1);case measure=>have :=HK.o;omega
     case rel=>exact⟨k+1,A',c',by have :=HK.o;omega,by rw[HW.o],by go_num,by rw[HW.o];exact HI.o.fY bg.o,VC.o,Mp.o⟩
    |true=>
     have HW:=qQ.o;simp only[if_true]at HW;have HW:=ae HW;obtain⟨wb,fS⟩:∃W,w3.alloc (.cells #[.int .i64 (k:Int)] 3)=W:=⟨_,rfl⟩
     have ib:aj (Fr [] w3 wb):=fS▸aR _ _;have sr:wb.cell? ⟨w3.heap.size,0,none⟩=some (.int .i64 (k:Int)):=by have :=(At.new w3 3 #[.int .i64 (k:Int)]).cell 0;rw[fS]at this;simpa using this
     have b0:aj ((S.jT k).length<=k):=S.yF k;go_wp2_with (at_builtin;(refine cL _ rfl _ _ rfl A' c' (cd (S.jT k)) (S.jT k).length rfl (bv _).symm ((HI.o.fY bg.o).fr ib.o (by simp)) ⟨w3.heap.size,0,none⟩ 1 (k:Int) rfl sr (by rw[bv];have :=b0.o;omega) ?_;intro g cap w4 iP xK hg ca))
     have N9:aj (Ints w4 (some ⟨g,0,none⟩) cap (cd (S.jT (k+1)))):=by rw[HW.o,<-mg];exact iP
     have CU:aj ((S.jT (k+1)).length=(S.jT k).length+1):=by rw[HW.o];simp[aj]
     have Qt:aj (∀j,j∈ao (some (⟨g,0,none⟩:Addr))->w1.heap.size<=j):=fun j hj=>by
      simp[ao]at hj;subst hj;rcases hg with h1 |h1
      ·exact VC.o j h1
      ·have :=Mp.o.size;have :=ib.o.size;omega
     have ic:aj (Fr [] w1 w4):=(Mp.o.ak ib.o).trans xK (fun x hx=> .inr (VC.o x hx));clear sr iP xK hg ca fS;go_roundg (gk-1);case measure=>have :=HK.o;omega
     case rel=>exact⟨k+1,some ⟨g,0,none⟩,cap,by have :=HK.o;omega,by rw[CU.o],by go_num,N9.o,Qt.o,ic.o⟩
  ·obtain rfl :k=S.list.length:=by omega
   obtain⟨wl,WG⟩:∃wl,S.jT S.list.length=wl:=⟨_,rfl⟩
   have b2:aj (S.De=wl):=WG;have mO:∀x∈wl,x<S.list.length:=fun x hx=>by rw[<-WG]at hx;exact(Sv.MB (S:=S) hx).1
   have UT:=ae mO;have b9:wl.length<=S.list.length:=by rw[<-WG];exact S.yF _
   rw[WG]at HI⊢;clear WG mO;have VK:aj (w.heap.size<w1.heap.size):=by have :=UC.o;show _<_;omega
   have KS:=ae (vf 141 #[.pointer (some ⟨w.heap.size,0,none⟩)] (X6 S) If wr A' c' (cd wl) HI.o (by rw[bv];omega) (fun W hW x hx y hy=>by have di:Fr [] w1 W:=HF.o.trans hW (fun x hx=> .inr (VC.o x hx));obtain⟨x',cc,rfl⟩:=aN.1 hx;obtain⟨y',cf,rfl⟩:=aN.1 hy;have :=JL W J S (H1.o.keep di) w.heap.size (by rw[nW];exact di.aF uS.o) x' y' (UT.o x' cc) (UT.o y' cf);exact this));rw[bv]at KS;obtain⟨n,hn⟩:∃n,wl.length=n:=⟨_,rfl⟩
   rw[hn]at KS⊢;have Mf:=ae hn;rw[hn]at b9;clear hn;go_upto_region 8 with fail;go_wp2_with fail;refine KS.o.mono ?_;clear KS;rintro e w2 ⟨rfl,ys,y1,y2,y3⟩;have cE:Fr [] w1 w2:=HF.o.trans y3 (fun x hx=> .inr (VC.o x hx));obtain⟨ls,rfl,oP⟩:=JQ y1;have b1:aj (ls.Perm S.De):=oP.trans (b2.o▸dM _);have AQ:aj (ls.length=n):=oP.length_eq.trans Mf.o;have AS:=ae (fun x (hx:x∈ls)=>UT.o x (oP.mem_iff.1 hx));have mi:=ae y2;have df:=ae cE;have vK:n<=c'/\(A'=none->n=0):=by
    have h1:=y2.form;have h2:=AQ.o;have h3:=bv ls;rcases h1 with⟨a1,a2,a3⟩ |⟨g,a1,a2,a3,a4⟩
    ·have :ls.length=0:=by rw[<-h3,a3];rfl
     exact⟨by omega,fun _=>by omega⟩
    ·exact⟨by omega,fun e=>by rw[a1]at e;cases e⟩
   obtain⟨vK,Zt⟩:=vK;have Ql:=ae Zt;obtain⟨h,hh⟩:∃h:Nat,n/2=h:=⟨_,rfl⟩
   have hdiv:(n:Int)/2=(h:Int):=by omega
   have cn:IntKind.i64.wrap ((h:Int))=(h:Int):=IntWalk.i64_in _ (by omega);have ct:h<=c':=by omega
   have bS:=ae hh;have cy:h<=n:=by omega
   clear y1 y2 y3 cE oP Zt HI HF hh;go_upto_region 9 with fail;go_wp2_with fail;go_loopg [45] h (fun g x wr=>∃(j:Nat)(Lj:aO),j+g=h/\x= .int .i64 j/\aj (bh wr Lj (S.j7 ls j))/\aj (Lj.a=J.a/\Lj.id=J.id/\Lj.dh=J.dh)/\aj (Ints wr A' c' (cd ls))/\aj (Fr (L.own w) w wr)/\aj (wr.cell? ⟨w.heap.size,0,none⟩=some (.pointer (some ⟨L.a,0,none⟩))));case atStart=>exact⟨0,J,by omega,rfl,H1.o.keep df.o,⟨rfl,rfl,rfl⟩,mi.o,(ib.o.ak df.o).mono (fun k hk=>by cases hk),df.o.aF uS.o⟩
   case round=>
    obtain⟨j,Lj,hj,rfl,HS,UQ,aB,aT,aM⟩:=hrel;have HJ:=ae hj;have cz:j<=h:=(by omega)
    clear hj;by_cases bt:j<h
    ·have K1:j<(cd ls).length:=by rw[bv,AQ.o];omega
     obtain⟨ga,hA,wX⟩:=aB.o.pos K1;subst hA;have cx:=aB.o.cell K1;rw[rG]at cx;obtain⟨v,hv⟩:∃v,ls[j]! =v:=⟨_,rfl⟩
     rw[hv]at cx;have Xn:j<ls.length:=by rw[AQ.o];omega
     have bO:v∈ls:=by rw[<-hv,aa,af Xn];exact gu Xn
     have lP:=AS.o v bO;have pO:S.j7 ls (j+1)=(S.j7 ls j).cU v:=(by rw[S.EL ls Xn,hv])
     have CS:=ae pO;have wW:=Sv.mL (ls.take j) S;have hlen:(S.j7 ls j).list.length=S.list.length:=wW.2.2.1;have pI:(S.j7 ls j).many=S.many-(j:Int):=by have :=wW.2.2.2.2.2;rw[bz,li (by omega)]at this;exact this
     obtain⟨Sj,bo⟩:∃Sj,S.j7 ls j=Sj:=⟨_,rfl⟩
     rw[bo]at HS CS hlen pI;have cp:=ae hlen;have Np:Lj.a=L.a:=UQ.o.1.trans nW;have bI:v<Lj.cs.length:=by rw[HS.o.pN,hlen];exact lP
     obtain⟨gc,km,x0,x1,x2⟩:=HS.o.sg bI;obtain⟨f0,f1,Fs,xM,bB⟩:=HS.o.ahl bI km;obtain⟨-,-,-,c3,-,-,-,-,-,-,-,BD,-⟩:=HS.o.cells;rw[Np]at c3 BD;rw[km,HS.o.pN,hlen]at c3;have cb:=aM.o;have cB:(v:Int)<(S.list.length:Int):=(by omega)
     obtain⟨W1,iQ⟩:∃W,((wr.setCell ⟨gc,v*3,none⟩ (.slice none 0 0)).setCell ⟨gc,v*3+1,none⟩ (.bool false)).drew=W:=⟨_,rfl⟩
     have ba:=ae iQ;rw[iQ]at Fs xM;have H1:=ae Fs;have ab:=ae xM;have ad:=ae bB;have cG:IntKind.i64.wrap (Sj.many-1)=Sj.many-1:=IntWalk.i64_in _ (by rw[pI];omega);have Vk:(j:Int)<(h:Int):=(by omega)
     clear pO bo wW hlen pI bO K1 Xn hv iQ Fs xM bB x2;go_wp2;go_region;clear x0 x1 f0 f1 c3 BD cb;have iQ:=ba.o;rw[iQ];clear iQ ba;have e2:Lj.ext { Lj with cs:=Lj.cs.set v ⟨none,0,[],false,(Lj.cs[v]!).act⟩} wr:=⟨rfl,rfl,fun k _ e=>e⟩
     have eL:L.ext Lj w:=⟨Np,UQ.o.2.1.trans fH.o.2.1,fun k hk e=>fH.o.2.2 k hk (by rw[<-UQ.o.2.2];exact e)⟩
     have b3:aj (Fr (L.own w) w W1):=aO.aQ eL aT.o (aO.iJ ab.o (fun k hk _=>by simp at hk;rw[hk];exact ad.o));obtain⟨L2,aK⟩:∃L2,{ Lj with cs:=Lj.cs.set v ⟨none,0,[],false,(Lj.cs[v]!).act⟩}=L2:=⟨_,rfl⟩
     have n8:aj (L2.a=J.a/\L2.id=J.id/\L2.dh=J.dh):=by rw[<-aK];exact UQ.o
     rw[aK]at H1;have bb:L2.a=L.a:=n8.o.1.trans nW;have ZM:L.ext L2 w:=⟨bb,n8.o.2.1.trans fH.o.2.1,fun k hk e=>fH.o.2.2 k hk (by rw[<-n8.o.2.2];exact e)⟩
     obtain⟨-,-,-,-,-,-,-,-,-,-,-,BD,-⟩:=H1.o.cells;obtain⟨g1,g2⟩:=H1.o.qj 11 (.int .i64 (Sj.many-1)) (Sj.cU v) (by simp[qm,Sv.cU]) ⟨rfl,rfl,rfl,rfl,rfl,rfl,rfl⟩;have f11:=H1.o.obj.frozen 11;rw[bb]at BD g1 g2 f11;have Fo:w.heap.size≠gc:=fun e=>by have :=xp.o gc (by omega);rw[n8.o.2.2.symm,n8.o.2.1.symm]at this;exact this (by rw[n8.o.2.2,<-UQ.o.2.2,n8.o.2.1,<-UQ.o.2.1];exact ad.o)
     have cb:W1.cell? ⟨w.heap.size,0,none⟩=some (.pointer (some ⟨L.a,0,none⟩)):=ab.o.bF (by simpa using Fo) aM.o;have b4:=ae cb;have rz:w.heap.size≠L.a:=fun e=>by have :=xp.o L.a (by omega);rw[<-nW,<-n8.o.1,<-n8.o.2.2,<-n8.o.2.1]at this;exact this (by rw[H1.o.t0])
     have VE:=ae rz;have YI:=ae g1;have qT:aj (Fr (L.own w) w (W1.setCell ⟨L.a,11,none⟩ (.int .i64 (Sj.many-1)))):=aO.aQ ZM b3.o g2;have bT:aj (Ints (W1.setCell ⟨L.a,11,none⟩ (.int .i64 (Sj.many-1))) (some ⟨ga,0,none⟩) c' (cd ls)):=by have rB:(J.dh ga).1≠J.id:=xp.o ga (by have :=VC.o ga (by simp[ao]);have :=VK.o;omega);have q1:Ints W1 (some ⟨ga,0,none⟩) c' (cd ls):=aB.o.fr ab.o (fun k hk hm=>by simp[ao]at hk hm;subst hk;rw[hm]at rB;exact rB (by rw[<-UQ.o.2.2,<-UQ.o.2.1];exact ad.o));refine q1.ie (p:=⟨L.a,11,none⟩) (fun hk=> ?_) _;simp[ao]at hk;rw[<-hk]at rB;rw[<-nW,<-n8.o.1,<-n8.o.2.2,<-n8.o.2.1]at rB;exact rB (by rw[H1.o.t0])
     have wj:IntKind.i64.wrap ((j:Int)+1)=(j:Int)+1:=IntWalk.i64_in _ (by omega);clear g1 g2 e2 eL ZM aK Fo rz;go_wp2;go_roundg (gk-1);case measure=>have :=HJ.o;omega
     case rel=>exact⟨j+1,L2,by have :=HJ.o;omega,by go_num,CS.o▸YI.o,n8.o,bT.o,qT.o,((Fr.refl [L.a] W1).setCell (p:=⟨L.a,11,none⟩) (.inl (by simp)) (.int .i64 (Sj.many-1))).bF (p:=⟨w.heap.size,0,none⟩) (by simpa using VE.o) b4.o⟩
    ·obtain rfl :j=h:=by omega
     have FF:aj (∃S',Sv.Qc S S'/\pB (.tuple #[]) S' L w (.returned (.tuple #[])) wr):=⟨S.j7 ls j,by have :=Sv.Ij b1.o;rw[AQ.o,bS.o]at this;exact this,rfl,Lj,HS.o,⟨UQ.o.1.trans nW,UQ.o.2.1.trans fH.o.2.1,fun k hk e=>fH.o.2.2 k hk (by rw[<-UQ.o.2.2];exact e)⟩,aT.o⟩
     go_wp2_with fail;go_end0;exact FF.o
end Go.Proofs.YtpjbaobgnhjgoaaGreat
