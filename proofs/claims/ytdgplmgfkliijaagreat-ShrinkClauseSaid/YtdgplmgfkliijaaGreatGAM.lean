/- Parts of a proof. -/
import Derived.Test.YtdgplmgfkliijaaGreatGAL
import Derived.Deep.CutRange
set_option linter.unusedVariables false
set_option maxHeartbeats 4000000
set_option maxRecDepth 100000
namespace Go.Proofs.YtdgplmgfkliijaaGreat
open Go.RowKit
def Pm (A:Option Addr) (c:Nat) (xs:List Int) (w w':World):Prop:=∃ys:List Int,ys.Perm xs∧Ints w' A c ys∧Fr (ap A) w w'
theorem Dy.pm {A:Option Addr} {c:Nat} {xs:List Int} {w w':World} {e:Ending} (h:Dy A c xs w e w'):e= .returned (.tuple #[])∧Pm A c xs w w':=h
theorem Pm.pmp {A:Option Addr} {c:Nat} {xs:List Int} {w w':World} (h:Pm A c xs w w'):Dy A c xs w (.returned (.tuple #[])) w':=⟨rfl,h⟩
theorem Pm.step {A:Option Addr} {c:Nat} {xs ys:List Int} {w w' xu:World} (hp:ys.Perm xs) (hf:Fr (ap A) w w') (h:Pm A c ys w' xu):Pm A c xs w xu:=by
 obtain ⟨zs,h1,h2,h3⟩:=h
 exact ⟨zs,h1.trans hp,h2,hf.aj h3⟩
theorem zJ (g:Nat) (cb:Array Value) (q:Int→Int→Int) (eg:∀args w,(callFunc g args).run Tryz.prog w= .ok (.enter g args) w) (w:World) (A:Option Addr) (c:Nat) (xs:List Int) (h:Ints w A c xs) (hl:xs.length≤17592186044416) (a m b:Nat) (tq:a<m) (LJ:m<b) (CV:b≤xs.length) (hc:yu g cb q A xs w) (h1:m-a=1):
  Calls Tryz.prog 161 #[.slice A xs.length c, .int .i64 a, .int .i64 m, .int .i64 b, .func (.func g) #[] cb] w (Dy A c xs w):=by
 obtain ⟨ga,hA,sE⟩:=h.pos (i:=a) (by omega)
 subst hA
 have HH:=ae h
 have HC:=ae hc
 have KC:al (∀(wr:World),Fr [] w wr→∀i j:Nat,i<xs.length→j<xs.length→∀u:Ext wr,Calls Tryz.prog g (#[.int .i64 xs[i]!, .int .i64 xs[j]!]++cb) u.v fun e W'=>e= .returned (.int .i64 (q xs[i]! xs[j]!))∧Fr [] u.v W'):=fun wr hf i j hi hj u=>HC.o u.v ((hf.aj u.fr).mono (fun k hk=>by cases hk)) _ (bu hi) _ (bu hj)
 have CE:al (∀(wr:World),Fr [] w wr→∀i:Nat,i<xs.length→∀u:Ext wr,u.v.cell? ⟨ga,i,none⟩=some (.int .i64 xs[i]!)):=fun wr hf i hi u=>(HH.o.dX (hf.aj u.fr)).cell hi
 obtain ⟨d1,zd⟩:∃d,m-a=d:=⟨_,rfl⟩
 obtain ⟨d2,rl⟩:∃d,b-m=d:=⟨_,rfl⟩
 have w0:IntKind.i64.wrap ((m:Int)-(a:Int))=(d1:Int):=by rw [IntWalk.i64_in _ (by omega)];omega
 have w1:IntKind.i64.wrap ((b:Int)-(m:Int))=(d2:Int):=by rw [IntWalk.i64_in _ (by omega)];omega
 clear h hc
 obtain rfl :d1=1:=by omega
 go_enter Tryz.func161,Tryz.ntmps161
 go_wp2_with fail
 clear w0 w1
 go_loopg [10,11] (b-m) (fun g IF IE wr=>∃(i j:Nat),j=i+g∧m≤i∧j≤b∧IF= .int .i64 i∧IE= .int .i64 j∧al (Fr [] w wr))
 case atStart=>exact ⟨m,b,by omega,by omega,by omega,rfl,rfl,Fr.refl _ _⟩
 case round=>
  obtain ⟨i,j,hg,hi,hj,rfl,rfl,HF⟩:=hrel
  have HG:=ae hg
  have afq:i≤j:=by omega
  clear hg
  by_cases JQ:i<j
  ·have w2:IntKind.i64.wrap ((i:Int)+(j:Int))=(i:Int)+(j:Int):=IntWalk.i64_in _ (by omega)
   obtain ⟨h,hh⟩:∃h:Nat,((i:Int)+(j:Int))/2=(h:Int):=⟨(i+j)/2,by omega⟩
   have h0:i≤h:=by omega
   have h1:h<j:=by omega
   have hx:(h:Int)<(xs.length:Int):=by omega
   have X2:(a:Int)<(xs.length:Int):=by omega
   have w3:IntKind.i64.wrap ((h:Int)+1)=(h:Int)+1:=IntWalk.i64_in _ (by omega)
   have tD:=ae (KC.o wr HF.o h a (by omega) (by omega))
   have e1:=CE.o wr HF.o h (by omega)
   have e2:=CE.o wr HF.o a (by omega)
   obtain ⟨x,Hg⟩:∃x,xs[h]! =x:=⟨_,rfl⟩
   obtain ⟨y,yX⟩:∃y,xs[a]! =y:=⟨_,rfl⟩
   rw [Hg] at e1 tD
   rw [yX] at e2 tD
   obtain ⟨r,hr⟩:∃r,q x y=r:=⟨_,rfl⟩
   rw [hr] at tD
   have H2:=ae hh
   clear Hg yX hr
   go_upto_region 5 with fail
   clear hh
   have hh:=H2.o
   try rw [hh]
   clear hh
   by_cases lN:r<0
   ·have hd:decide (r<0)=true:=decide_eq_true lN
    refine ax ?_
    repeat (go_big_quiet_step (exact bV (tD.o _)))
    refine gO ?_
    intro w4 cv
    have cH:=ae (HF.o.aj cv.o)
    clear e1 e2 HF cv tD
    go_wp2
    go_roundg (j-(h+1))
    case measure=>have :=HG.o;omega
    case rel=>exact ⟨h+1,j,by omega,by omega,by omega,by go_num,rfl,cH.o⟩
   ·have Vw:0≤r:=by omega
    have hd:decide (r<0)=false:=decide_eq_false lN
    refine ax ?_
    repeat (go_big_quiet_step (exact bV (tD.o _)))
    refine gO ?_
    intro w4 cv
    have cH:=ae (HF.o.aj cv.o)
    clear e1 e2 HF cv tD
    go_wp2
    go_roundg (h-i)
    case measure=>have :=HG.o;omega
    case rel=>exact ⟨i,h,by omega,by omega,by omega,rfl,rfl,cH.o⟩
  ·obtain ⟨p,hp⟩:∃p,i-1=p:=⟨_,rfl⟩
   have w2:IntKind.i64.wrap ((i:Int)-1)=(p:Int):=by rw [IntWalk.i64_in _ (by omega)];omega
   have hpb:p<b:=by omega
   have ang:a≤p:=by omega
   clear hp
   have Uv:=ae (HH.o.dX HF.o)
   have DK:al (Fr (ap (some ⟨ga,0,none⟩)) w wr):=HF.o.mono (fun k hk=>by cases hk)
   clear HF
   go_wp2_with fail
   go_loopg [13] (p-a) (fun g Ys wr=>∃(k:Nat) (ys:List Int),p=k+g∧a≤k∧Ys= .int .i64 k∧al (ys.Perm xs)∧al (Ints wr (some ⟨ga,0,none⟩) c ys)∧al (Fr (ap (some ⟨ga,0,none⟩)) w wr))
   case atStart=>exact ⟨a,xs,by omega,by omega,rfl,dh _,Uv.o,DK.o⟩
   case round=>
    obtain ⟨k,ys,hg,hk,rfl,HP,HI,HF⟩:=hrel
    have rV:=ae hg
    have hlen:=HP.o.length_eq
    clear hg Uv DK
    by_cases NM:k<p
    ·obtain ⟨k1,JO⟩:∃k1,k+1=k1:=⟨_,rfl⟩
     have w3:IntKind.i64.wrap ((k:Int)+1)=(k1:Int):=by rw [IntWalk.i64_in _ (by omega)];omega
     have nI:k<ys.length:=by omega
     have Fo:k1<ys.length:=by omega
     have c1:=HI.o.cell nI
     have c2:=HI.o.cell Fo
     have f1:=HI.o.frozen k
     have f2:=HI.o.frozen k1
     have dI:¬k=k1:=by omega
     have ij:(k:Int)<(xs.length:Int):=by omega
     have ix:(k1:Int)<(xs.length:Int):=by omega
     have Uo:al ((dg ys k k1).Perm xs):=(gz nI Fo).trans HP.o
     have Ea:=ae (HI.o.swap k k1)
     have nD:=ae (HF.o.aj (Fr.swap wr ga k k1 (.int .i64 ys[k1]!) (.int .i64 ys[k]!)))
     have DI:=ae JO
     obtain ⟨x,Hg⟩:∃x,ys[k]! =x:=⟨_,rfl⟩
     obtain ⟨y,yX⟩:∃y,ys[k1]! =y:=⟨_,rfl⟩
     rw [Hg] at c1 Ea nD
     rw [yX] at c2 Ea nD
     clear Hg yX hlen nI Fo JO HI HF HP
     go_wp2
     go_region
     clear c1 c2 f1 f2
     go_wp2
     go_roundg (p-k1)
     case measure=>have :=rV.o;have :=DI.o;omega
     case rel=>exact ⟨k1,dg ys k k1,by have :=DI.o;omega,by have :=DI.o;omega,by go_num,Uo.o,Ea.o,nD.o⟩
    ·have FF:al (Dy (some ⟨ga,0,none⟩) c xs w (.returned (.tuple #[])) wr):=⟨rfl,ys,HP.o,HI.o,HF.o⟩
     go_wp2_with fail
     go_end0
     exact FF.o
theorem zI (g:Nat) (cb:Array Value) (q:Int→Int→Int) (eg:∀args w,(callFunc g args).run Tryz.prog w= .ok (.enter g args) w) (w:World) (A:Option Addr) (c:Nat) (xs:List Int) (h:Ints w A c xs) (hl:xs.length≤17592186044416) (a m b:Nat) (tq:a<m) (LJ:m<b) (CV:b≤xs.length) (hc:yu g cb q A xs w) (h1:m-a≠1) (h2:b-m=1):
  Calls Tryz.prog 161 #[.slice A xs.length c, .int .i64 a, .int .i64 m, .int .i64 b, .func (.func g) #[] cb] w (Dy A c xs w):=by
 obtain ⟨ga,hA,sE⟩:=h.pos (i:=a) (by omega)
 subst hA
 have HH:=ae h
 have HC:=ae hc
 have KC:al (∀(wr:World),Fr [] w wr→∀i j:Nat,i<xs.length→j<xs.length→∀u:Ext wr,Calls Tryz.prog g (#[.int .i64 xs[i]!, .int .i64 xs[j]!]++cb) u.v fun e W'=>e= .returned (.int .i64 (q xs[i]! xs[j]!))∧Fr [] u.v W'):=fun wr hf i j hi hj u=>HC.o u.v ((hf.aj u.fr).mono (fun k hk=>by cases hk)) _ (bu hi) _ (bu hj)
 have CE:al (∀(wr:World),Fr [] w wr→∀i:Nat,i<xs.length→∀u:Ext wr,u.v.cell? ⟨ga,i,none⟩=some (.int .i64 xs[i]!)):=fun wr hf i hi u=>(HH.o.dX (hf.aj u.fr)).cell hi
 obtain ⟨d1,zd⟩:∃d,m-a=d:=⟨_,rfl⟩
 obtain ⟨d2,rl⟩:∃d,b-m=d:=⟨_,rfl⟩
 have w0:IntKind.i64.wrap ((m:Int)-(a:Int))=(d1:Int):=by rw [IntWalk.i64_in _ (by omega)];omega
 have w1:IntKind.i64.wrap ((b:Int)-(m:Int))=(d2:Int):=by rw [IntWalk.i64_in _ (by omega)];omega
 clear h hc
 have oZ:¬(d1:Int)=1:=by omega
 have Bf:((d1:Int)==1)=false:=by simpa using oZ
 obtain rfl :d2=1:=by omega
 go_enter Tryz.func161,Tryz.ntmps161
 go_wp2_with fail
 clear w0 w1 oZ Bf
 go_loopg [14,15] (m-a) (fun g IF IE wr=>∃(i j:Nat),j=i+g∧a≤i∧j≤m∧IF= .int .i64 i∧IE= .int .i64 j∧al (Fr [] w wr))
 case atStart=>exact ⟨a,m,by omega,by omega,by omega,rfl,rfl,Fr.refl _ _⟩
 case round=>
  obtain ⟨i,j,hg,hi,hj,rfl,rfl,HF⟩:=hrel
  have HG:=ae hg
  have afq:i≤j:=by omega
  clear hg
  by_cases JQ:i<j
  ·have w2:IntKind.i64.wrap ((i:Int)+(j:Int))=(i:Int)+(j:Int):=IntWalk.i64_in _ (by omega)
   obtain ⟨h,hh⟩:∃h:Nat,((i:Int)+(j:Int))/2=(h:Int):=⟨(i+j)/2,by omega⟩
   have h0:i≤h:=by omega
   have h1:h<j:=by omega
   have hx:(h:Int)<(xs.length:Int):=by omega
   have X2:(m:Int)<(xs.length:Int):=by omega
   have w3:IntKind.i64.wrap ((h:Int)+1)=(h:Int)+1:=IntWalk.i64_in _ (by omega)
   have tD:=ae (KC.o wr HF.o m h (by omega) (by omega))
   have e1:=CE.o wr HF.o h (by omega)
   have e2:=CE.o wr HF.o m (by omega)
   obtain ⟨x,Hg⟩:∃x,xs[h]! =x:=⟨_,rfl⟩
   obtain ⟨y,yX⟩:∃y,xs[m]! =y:=⟨_,rfl⟩
   rw [Hg] at e1 tD
   rw [yX] at e2 tD
   obtain ⟨r,hr⟩:∃r,q y x=r:=⟨_,rfl⟩
   rw [hr] at tD
   have H2:=ae hh
   clear Hg yX hr
   go_upto_region 17 with fail
   clear hh
   have hh:=H2.o
   try rw [hh]
   clear hh
   by_cases lN:r<0
   ·have hd:decide (r<0)=true:=decide_eq_true lN
    refine ax ?_
    repeat (go_big_quiet_step (exact bV (tD.o _)))
    refine gO ?_
    intro w4 cv
    have cH:=ae (HF.o.aj cv.o)
    clear e1 e2 HF cv tD
    go_wp2
    go_roundg (h-i)
    case measure=>have :=HG.o;omega
    case rel=>exact ⟨i,h,by omega,by omega,by omega,rfl,rfl,cH.o⟩
   ·have Vw:0≤r:=by omega
    have hd:decide (r<0)=false:=decide_eq_false lN
    refine ax ?_
    repeat (go_big_quiet_step (exact bV (tD.o _)))
    refine gO ?_
    intro w4 cv
    have cH:=ae (HF.o.aj cv.o)
    clear e1 e2 HF cv tD
    go_wp2
    go_roundg (j-(h+1))
    case measure=>have :=HG.o;omega
    case rel=>exact ⟨h+1,j,by omega,by omega,by omega,by go_num,rfl,cH.o⟩
  ·have him:i≤m:=by omega
   have Uv:=ae (HH.o.dX HF.o)
   have DK:al (Fr (ap (some ⟨ga,0,none⟩)) w wr):=HF.o.mono (fun k hk=>by cases hk)
   clear HF
   go_wp2_with fail
   go_loopg [17] (m-i) (fun g Ys wr=>∃(k:Nat) (ys:List Int),k=i+g∧k≤m∧Ys= .int .i64 k∧al (ys.Perm xs)∧al (Ints wr (some ⟨ga,0,none⟩) c ys)∧al (Fr (ap (some ⟨ga,0,none⟩)) w wr))
   case atStart=>exact ⟨m,xs,by omega,by omega,rfl,dh _,Uv.o,DK.o⟩
   case round=>
    obtain ⟨k,ys,hg,hk,rfl,HP,HI,HF⟩:=hrel
    have rV:=ae hg
    have hlen:=HP.o.length_eq
    have hik:i≤k:=by omega
    clear hg Uv DK
    by_cases NM:i<k
    ·obtain ⟨k1,JO⟩:∃k1,k-1=k1:=⟨_,rfl⟩
     have w3:IntKind.i64.wrap ((k:Int)-1)=(k1:Int):=by rw [IntWalk.i64_in _ (by omega)];omega
     have nI:k<ys.length:=by omega
     have Fo:k1<ys.length:=by omega
     have c1:=HI.o.cell nI
     have c2:=HI.o.cell Fo
     have f1:=HI.o.frozen k
     have f2:=HI.o.frozen k1
     have dI:¬k=k1:=by omega
     have ij:(k:Int)<(xs.length:Int):=by omega
     have ix:(k1:Int)<(xs.length:Int):=by omega
     have Uo:al ((dg ys k k1).Perm xs):=(gz nI Fo).trans HP.o
     have Ea:=ae (HI.o.swap k k1)
     have nD:=ae (HF.o.aj (Fr.swap wr ga k k1 (.int .i64 ys[k1]!) (.int .i64 ys[k]!)))
     have DI:=ae JO
     obtain ⟨x,Hg⟩:∃x,ys[k]! =x:=⟨_,rfl⟩
     obtain ⟨y,yX⟩:∃y,ys[k1]! =y:=⟨_,rfl⟩
     rw [Hg] at c1 Ea nD
     rw [yX] at c2 Ea nD
     clear Hg yX hlen nI Fo JO HI HF HP
     go_wp2
     go_region
     clear c1 c2 f1 f2
     go_wp2
     go_roundg (k1-i)
     case measure=>have :=rV.o;have :=DI.o;omega
     case rel=>exact ⟨k1,dg ys k k1,by have :=DI.o;omega,by have :=DI.o;omega,by go_num,Uo.o,Ea.o,nD.o⟩
    ·have FF:al (Dy (some ⟨ga,0,none⟩) c xs w (.returned (.tuple #[])) wr):=⟨rfl,ys,HP.o,HI.o,HF.o⟩
     go_wp2_with fail
     go_end0
     exact FF.o
def O2 (g:Nat) (cb:Array Value) (q:Int→Int→Int) (N:Nat):Prop:=
 ∀(w:World) (A:Option Addr) (c:Nat) (xs:List Int) (h:Ints w A c xs) (hl:xs.length≤17592186044416) (a m b:Nat) (tq:a<m) (LJ:m<b) (CV:b≤xs.length) (hc:yu g cb q A xs w) (hN:b-a≤N),
  Calls Tryz.prog 161 #[.slice A xs.length c, .int .i64 a, .int .i64 m, .int .i64 b, .func (.func g) #[] cb] w (Dy A c xs w)
theorem zK (g:Nat) (cb:Array Value) (q:Int→Int→Int) (eg:∀args w,(callFunc g args).run Tryz.prog w= .ok (.enter g args) w) (w:World) (A:Option Addr) (c:Nat) (xs:List Int) (h:Ints w A c xs) (hl:xs.length≤17592186044416) (a m b:Nat) (tq:a<m) (LJ:m<b) (CV:b≤xs.length) (hc:yu g cb q A xs w) (h1:m-a≠1) (h2:b-m≠1) (N:Nat) (hN:b-a≤N+1) (ih:O2 g cb q N):
  Calls Tryz.prog 161 #[.slice A xs.length c, .int .i64 a, .int .i64 m, .int .i64 b, .func (.func g) #[] cb] w (Dy A c xs w):=by
 obtain ⟨ga,hA,sE⟩:=h.pos (i:=a) (by omega)
 subst hA
 have HH:=ae h
 have HC:=ae hc
 have KC:al (∀(wr:World),Fr [] w wr→∀i j:Nat,i<xs.length→j<xs.length→∀u:Ext wr,Calls Tryz.prog g (#[.int .i64 xs[i]!, .int .i64 xs[j]!]++cb) u.v fun e W'=>e= .returned (.int .i64 (q xs[i]! xs[j]!))∧Fr [] u.v W'):=fun wr hf i j hi hj u=>HC.o u.v ((hf.aj u.fr).mono (fun k hk=>by cases hk)) _ (bu hi) _ (bu hj)
 have CE:al (∀(wr:World),Fr [] w wr→∀i:Nat,i<xs.length→∀u:Ext wr,u.v.cell? ⟨ga,i,none⟩=some (.int .i64 xs[i]!)):=fun wr hf i hi u=>(HH.o.dX (hf.aj u.fr)).cell hi
 obtain ⟨d1,zd⟩:∃d,m-a=d:=⟨_,rfl⟩
 obtain ⟨d2,rl⟩:∃d,b-m=d:=⟨_,rfl⟩
 have w0:IntKind.i64.wrap ((m:Int)-(a:Int))=(d1:Int):=by rw [IntWalk.i64_in _ (by omega)];omega
 have w1:IntKind.i64.wrap ((b:Int)-(m:Int))=(d2:Int):=by rw [IntWalk.i64_in _ (by omega)];omega
 clear h hc
 have oZ:¬(d1:Int)=1:=by omega
 have Bf:((d1:Int)==1)=false:=by simpa using oZ
 have ot:¬(d2:Int)=1:=by omega
 have jh:((d2:Int)==1)=false:=by simpa using ot
 obtain ⟨M,hM⟩:∃M:Nat,((a:Int)+(b:Int))/2=(M:Int):=⟨(a+b)/2,by omega⟩
 obtain ⟨n,hn⟩:∃n:Nat,M+m=n:=⟨_,rfl⟩
 have wab:IntKind.i64.wrap ((a:Int)+(b:Int))=(a:Int)+(b:Int):=IntWalk.i64_in _ (by omega)
 have wn:IntKind.i64.wrap ((M:Int)+(m:Int))=(n:Int):=by rw [IntWalk.i64_in _ (by omega)];omega
 have HM:al (a<M∧M<b∧M+m=n∧(a+b)/2=M∧n≤2*xs.length):=⟨by omega,by omega,by omega,by omega,by omega⟩
 have HIH:=ae ih
 clear ih
 go_enter Tryz.func161,Tryz.ntmps161
 go_upto_if 140 with fail
 clear w0 w1 oZ Bf ot jh wab wn
 go_cut [20,21] (fun x20 x21 wx=>∃s r:Nat,x20= .int .i64 s∧x21= .int .i64 r∧a≤s∧s≤r∧r≤m∧r≤M∧n≤b+s∧w=wx)
 case first =>
  as_aux_lemma=>
   obtain ⟨m1,m2,m3,m4,m5⟩:=HM.o
   by_cases hmM:M<m
   ·obtain ⟨s0,hs0⟩:∃s0,n-b=s0:=⟨_,rfl⟩
    have wx:IntKind.i64.wrap ((n:Int)-(b:Int))=(s0:Int):=by rw [IntWalk.i64_in _ (by omega)];omega
    have VJ:(M:Int)<(m:Int):=by omega
    have HS:al (a≤s0∧s0≤M∧M≤m∧M≤M∧n≤b+s0):=⟨by omega,by omega,by omega,by omega,by omega⟩
    clear hs0 m1 m2 m3 m4 m5 zd rl
    go_wp2
    go_meet
    case rel=>exact ⟨s0,M,rfl,rfl,HS.o.1,HS.o.2.1,HS.o.2.2.1,HS.o.2.2.2.1,HS.o.2.2.2.2,rfl⟩
   ·have VJ:(m:Int)≤(M:Int):=by omega
    have HS:al (a≤a∧a≤m∧m≤m∧m≤M∧n≤b+a):=⟨by omega,by omega,by omega,by omega,by omega⟩
    clear m1 m2 m3 m4 m5 zd rl
    go_wp2
    go_meet
    case rel=>exact ⟨a,m,rfl,rfl,HS.o.1,HS.o.2.1,HS.o.2.2.1,HS.o.2.2.2.1,HS.o.2.2.2.2,rfl⟩
 case rest=>
  obtain ⟨s0,r0,rfl,rfl,b1,b2,b3,b4,b5,rfl⟩:=hcut
  have HB:=ae (And.intro b1 (And.intro b2 (And.intro b3 (And.intro b4 b5))))
  have ot:2≤n:=by have :=HM.o;omega
  have qw:n≤2*xs.length:=by have :=HM.o;omega
  obtain ⟨p,hp⟩:∃p,n-1=p:=⟨_,rfl⟩
  have wp1:IntKind.i64.wrap ((n:Int)-1)=(p:Int):=by rw [IntWalk.i64_in _ (by omega)];omega
  have HP0:=ae hp
  clear b1 b2 b3 b4 b5 hp zd rl
  go_wp2_with fail
  clear wp1
  go_loopg [20,21] (r0-s0) (fun g x20 x21 wr=>∃(s r:Nat),r=s+g∧al (a≤s∧r≤m∧r≤M∧n≤b+s)∧x20= .int .i64 s∧x21= .int .i64 r∧al (Fr [] w wr))
  case atStart=>exact ⟨s0,r0,by have :=HB.o;omega,by have :=HB.o;exact ⟨by omega,by omega,by omega,by omega⟩,rfl,rfl,Fr.refl _ _⟩
  case round=>
   obtain ⟨s,r,hg,HR,rfl,rfl,HF⟩:=hrel
   have HG:=ae hg
   have amr:s≤r:=by omega
   clear hg
   by_cases hsr:s<r
   ·as_aux_lemma=>
     have w2:IntKind.i64.wrap ((s:Int)+(r:Int))=(s:Int)+(r:Int):=IntWalk.i64_in _ (by have :=HR.o;omega)
     obtain ⟨h,hh⟩:∃h:Nat,((s:Int)+(r:Int))/2=(h:Int):=⟨(s+r)/2,by omega⟩
     have h0:s≤h:=by omega
     have h1:h<r:=by omega
     obtain ⟨t,ht⟩:∃t,p-h=t:=⟨_,rfl⟩
     have Ba:t<xs.length:=by have :=HR.o;have :=HP0.o;have :=HM.o;omega
     have NZ:h<xs.length:=by have :=HR.o;omega
     have wt:IntKind.i64.wrap ((p:Int)-(h:Int))=(t:Int):=by rw [IntWalk.i64_in _ (by have :=HP0.o;omega)];have :=HR.o;have :=HP0.o;have :=HM.o;omega
     have hx:(h:Int)<(xs.length:Int):=by omega
     have htx:(t:Int)<(xs.length:Int):=by omega
     have w3:IntKind.i64.wrap ((h:Int)+1)=(h:Int)+1:=IntWalk.i64_in _ (by omega)
     have tD:=ae (KC.o wr HF.o t h Ba NZ)
     have e1:=CE.o wr HF.o h NZ
     have e2:=CE.o wr HF.o t Ba
     obtain ⟨x,Hg⟩:∃x,xs[h]! =x:=⟨_,rfl⟩
     obtain ⟨y,yX⟩:∃y,xs[t]! =y:=⟨_,rfl⟩
     rw [Hg] at e1 tD
     rw [yX] at e2 tD
     obtain ⟨z,hz⟩:∃z,q y x=z:=⟨_,rfl⟩
     rw [hz] at tD
     have H2:=ae hh
     clear Hg yX hz ht Ba NZ
     go_upto_region 35 with fail
     clear hh
     have hh:=H2.o
     try rw [hh]
     clear hh
     by_cases lN:z<0
     ·have hd:decide (z<0)=true:=decide_eq_true lN
      refine ax ?_
      repeat (go_big_quiet_step (exact bV (tD.o _)))
      refine gO ?_
      intro w4 cv
      have cH:=ae (HF.o.aj cv.o)
      clear e1 e2 HF cv tD
      go_wp2
      go_roundg (h-s)
      case measure=>have :=HG.o;omega
      case rel=>exact ⟨s,h,by omega,by have :=HR.o;exact ⟨by omega,by omega,by omega,by omega⟩,rfl,rfl,cH.o⟩
     ·have Vw:0≤z:=by omega
      have hd:decide (z<0)=false:=decide_eq_false lN
      refine ax ?_
      repeat (go_big_quiet_step (exact bV (tD.o _)))
      refine gO ?_
      intro w4 cv
      have cH:=ae (HF.o.aj cv.o)
      clear e1 e2 HF cv tD
      go_wp2
      go_roundg (r-(h+1))
      case measure=>have :=HG.o;omega
      case rel=>exact ⟨h+1,r,by omega,by have :=HR.o;exact ⟨by omega,by omega,by omega,by omega⟩,by go_num,rfl,cH.o⟩
   ·obtain rfl :s=r:=by omega
    obtain ⟨E,hE⟩:∃E,n-s=E:=⟨_,rfl⟩
    have wE:IntKind.i64.wrap ((n:Int)-(s:Int))=(E:Int):=by have :=HR.o;have :=HM.o;rw [IntWalk.i64_in _ (by omega)];omega
    have HE:al (E≤b∧m≤E∧M≤E):=⟨by have :=HR.o;have :=HM.o;omega,by have :=HR.o;have :=HM.o;omega,by have :=HR.o;have :=HM.o;omega⟩
    have Uv:=ae (HH.o.dX HF.o)
    have DK:al (Fr (ap (some ⟨ga,0,none⟩)) w wr):=HF.o.mono (fun k hk=>by cases hk)
    clear hE HF KC CE
    go_upto_region 39 with fail
    clear wE
    obtain ⟨MK,Sy⟩:∃q,al (decide (s<m∧m<E)=q):=⟨_,rfl⟩
    go_cut [185] (fun x wx=>x= .bool MK∧wr=wx)
    case first =>
     as_aux_lemma=>
      by_cases k1:s<m
      ·have Zl:(s:Int)<(m:Int):=by omega
       by_cases k2:m<E
       ·have Zk:(m:Int)<(E:Int):=by omega
        have hq:MK=true:=Sy.o▸decide_eq_true ⟨k1,k2⟩
        go_wp2
        go_meet
        case rel=>exact ⟨by rw [hq],rfl⟩
       ·have Zk:(E:Int)≤(m:Int):=by omega
        have hq:MK=false:=Sy.o▸decide_eq_false (fun e=>k2 e.2)
        go_wp2
        go_meet
        case rel=>exact ⟨by rw [hq],rfl⟩
      ·have Zl:(m:Int)≤(s:Int):=by omega
       have hq:MK=false:=Sy.o▸decide_eq_false (fun e=>k1 e.1)
       go_wp2
       go_meet
       case rel=>exact ⟨by rw [hq],rfl⟩
    case rest=>
     obtain ⟨rfl,rfl⟩:=hcut
     go_upto_if 185 with fail
     go_cut [] (fun wx=>Pm (some ⟨ga,0,none⟩) c xs w wx)
     case first =>
      as_aux_lemma=>
       cases MK with
       |true=>
        have hq:=of_decide_eq_true Sy.o
        have KR:=ae (zU wr (some ⟨ga,0,none⟩) c xs Uv.o hl s m E hq.1 hq.2 (by have :=HE.o;omega) g cb)
        clear hq
        go_wp2_with fail
        refine KR.o.mono ?_
        clear KR
        rintro e w2 ⟨rfl,zs,z1,z2,z3⟩
        have FF:al (Pm (some ⟨ga,0,none⟩) c xs w w2):=⟨zs,z1,z2,DK.o.aj z3⟩
        clear z1 z2 z3
        go_wp2
        go_meet
        case rel=>exact FF.o
       |false=>
        have FF:al (Pm (some ⟨ga,0,none⟩) c xs w wr):=⟨xs,dh _,Uv.o,DK.o⟩
        go_wp2
        go_meet
        case rel=>exact FF.o
     case rest=>
      obtain ⟨w5,rfl⟩:∃x,x=wc:=⟨_,rfl⟩
      obtain ⟨ys5,y1,y2,y3⟩:=hcut
      have HP5:=ae y1
      have Lf:=ae y2
      have kN:=ae y3
      have Xm:al (ys5.length=xs.length):=y1.length_eq
      clear y1 y2 y3
      go_upto_region 41 with fail
      obtain ⟨MJ,Sx⟩:∃q,al (decide (a<s∧s<M)=q):=⟨_,rfl⟩
      go_cut [199] (fun x wx=>x= .bool MJ∧w5=wx)
      case first =>
       as_aux_lemma=>
        by_cases k1:a<s
        ·have Zl:(a:Int)<(s:Int):=by omega
         by_cases k2:s<M
         ·have Zk:(s:Int)<(M:Int):=by omega
          have hq:MJ=true:=Sx.o▸decide_eq_true ⟨k1,k2⟩
          go_wp2
          go_meet
          case rel=>exact ⟨by rw [hq],rfl⟩
         ·have Zk:(M:Int)≤(s:Int):=by omega
          have hq:MJ=false:=Sx.o▸decide_eq_false (fun e=>k2 e.2)
          go_wp2
          go_meet
          case rel=>exact ⟨by rw [hq],rfl⟩
        ·have Zl:(s:Int)≤(a:Int):=by omega
         have hq:MJ=false:=Sx.o▸decide_eq_false (fun e=>k1 e.1)
         go_wp2
         go_meet
         case rel=>exact ⟨by rw [hq],rfl⟩
      case rest=>
       obtain ⟨rfl,rfl⟩:=hcut
       go_upto_if 199 with fail
       go_cut [] (fun wx=>Pm (some ⟨ga,0,none⟩) c xs w wx)
       case first =>
        as_aux_lemma=>
         cases MJ with
         |true=>
          have hq:=of_decide_eq_true Sx.o
          have KR:=ae (HIH.o w5 (some ⟨ga,0,none⟩) c ys5 Lf.o (by rw [Xm.o];exact hl) a s M hq.1 hq.2 (by rw [Xm.o];have :=HM.o;omega) (HC.o.aj kN.o HP5.o) (by have :=HM.o;omega))
          rw [Xm.o] at KR
          clear hq
          go_wp2_with fail
          refine KR.o.mono ?_
          clear KR
          rintro e w2 ⟨rfl,zs,z1,z2,z3⟩
          have FF:al (Pm (some ⟨ga,0,none⟩) c xs w w2):=⟨zs,z1.trans HP5.o,z2,kN.o.aj z3⟩
          clear z1 z2 z3
          go_wp2
          go_meet
          case rel=>exact FF.o
         |false=>
          have FF:al (Pm (some ⟨ga,0,none⟩) c xs w w5):=⟨ys5,HP5.o,Lf.o,kN.o⟩
          go_wp2
          go_meet
          case rel=>exact FF.o
       case rest=>
        obtain ⟨w6,rfl⟩:∃x,x=wc:=⟨_,rfl⟩
        obtain ⟨ys6,y1,y2,y3⟩:=hcut
        have HP6:=ae y1
        have Uu:=ae y2
        have ik:=ae y3
        have DH:al (ys6.length=xs.length):=y1.length_eq
        clear y1 y2 y3
        go_upto_region 43 with fail
        obtain ⟨MI,Sw⟩:∃q,al (decide (M<E∧E<b)=q):=⟨_,rfl⟩
        go_cut [213] (fun x wx=>x= .bool MI∧w6=wx)
        case first =>
         as_aux_lemma=>
          by_cases k1:M<E
          ·have Zl:(M:Int)<(E:Int):=by omega
           by_cases k2:E<b
           ·have Zk:(E:Int)<(b:Int):=by omega
            have hq:MI=true:=Sw.o▸decide_eq_true ⟨k1,k2⟩
            go_wp2
            go_meet
            case rel=>exact ⟨by rw [hq],rfl⟩
           ·have Zk:(b:Int)≤(E:Int):=by omega
            have hq:MI=false:=Sw.o▸decide_eq_false (fun e=>k2 e.2)
            go_wp2
            go_meet
            case rel=>exact ⟨by rw [hq],rfl⟩
          ·have Zl:(E:Int)≤(M:Int):=by omega
           have hq:MI=false:=Sw.o▸decide_eq_false (fun e=>k1 e.1)
           go_wp2
           go_meet
           case rel=>exact ⟨by rw [hq],rfl⟩
        case rest=>
         obtain ⟨rfl,rfl⟩:=hcut
         go_upto_if 213 with fail
         cases MI with
         |true=>
          have hq:=of_decide_eq_true Sw.o
          have KR:=ae (HIH.o w6 (some ⟨ga,0,none⟩) c ys6 Uu.o (by rw [DH.o];exact hl) M E b hq.1 hq.2 (by rw [DH.o];have :=HM.o;omega) (HC.o.aj ik.o HP6.o) (by have :=HM.o;omega))
          rw [DH.o] at KR
          clear hq
          go_wp2_with fail
          refine KR.o.mono ?_
          clear KR
          rintro e w2 ⟨rfl,zs,z1,z2,z3⟩
          have FF:al (Pm (some ⟨ga,0,none⟩) c xs w w2):=⟨zs,z1.trans HP6.o,z2,ik.o.aj z3⟩
          clear z1 z2 z3
          go_wp2_with fail
          go_end0
          exact FF.o.pmp
         |false=>
          have FF:al (Pm (some ⟨ga,0,none⟩) c xs w w6):=⟨ys6,HP6.o,Uu.o,ik.o⟩
          go_wp2_with fail
          go_end0
          exact FF.o.pmp
theorem qae (g:Nat) (cb:Array Value) (q:Int→Int→Int) (eg:∀args w,(callFunc g args).run Tryz.prog w= .ok (.enter g args) w):∀N,O2 g cb q N:=by
 intro N
 induction N with
 |zero=>intro w A c xs h hl a m b tq LJ CV hc hN;omega
 |succ N ih=>
  intro w A c xs h hl a m b tq LJ CV hc hN
  by_cases h1:m-a=1
  ·exact zJ g cb q eg w A c xs h hl a m b tq LJ CV hc h1
  ·by_cases h2:b-m=1
   ·exact zI g cb q eg w A c xs h hl a m b tq LJ CV hc h1 h2
   ·exact zK g cb q eg w A c xs h hl a m b tq LJ CV hc h1 h2 N hN ih
theorem zM (g:Nat) (cb:Array Value) (q:Int→Int→Int) (eg:∀args w,(callFunc g args).run Tryz.prog w= .ok (.enter g args) w) (w:World) (A:Option Addr) (c:Nat) (xs:List Int) (h:Ints w A c xs) (hl:xs.length≤17592186044416) (hc:yu g cb q A xs w):
  Calls Tryz.prog 152 #[.slice A xs.length c, .int .i64 xs.length, .func (.func g) #[] cb] w (Dy A c xs w):=by
 obtain ⟨n,hn⟩:∃n,xs.length=n:=⟨_,rfl⟩
 have HN:=ae hn
 have HH:=ae h
 have HC:=ae hc
 rw [hn]
 rw [hn] at hl
 clear h hc hn
 have KI:al (∀(W:World) (ys:List Int),ys.Perm xs→Ints W A c ys→Fr (ap A) w W→∀a b:Nat,a≤b→b≤n→Calls Tryz.prog 121 #[.slice A n c, .int .i64 a, .int .i64 b, .func (.func g) #[] cb] W fun e w'=>e= .returned (.tuple #[])∧Pm A c xs w w'):=fun W ys hp hi hf a b h1 h2=>by
  have hlen:ys.length=n:=hp.length_eq.trans HN.o
  have :=tQ W A c ys hi (by omega) a b h1 (by omega) g cb q eg (HC.o.aj hf hp)
  rw [hlen] at this
  exact this.mono fun e w' he=>⟨he.pm.1,he.pm.2.step hp hf⟩
 have KM:al (∀(W:World) (ys:List Int),ys.Perm xs→Ints W A c ys→Fr (ap A) w W→∀a m b:Nat,a<m→m<b→b≤n→Calls Tryz.prog 161 #[.slice A n c, .int .i64 a, .int .i64 m, .int .i64 b, .func (.func g) #[] cb] W fun e w'=>e= .returned (.tuple #[])∧Pm A c xs w w'):=fun W ys hp hi hf a m b h1 h2 h3=>by
  have hlen:ys.length=n:=hp.length_eq.trans HN.o
  have :=qae g cb q eg (b-a) W A c ys hi (by omega) a m b h1 h2 (by omega) (HC.o.aj hf hp) (au _)
  rw [hlen] at this
  exact this.mono fun e w' he=>⟨he.pm.1,he.pm.2.step hp hf⟩
 go_enter Tryz.func152,Tryz.ntmps152
 go_wp2_with fail
 go_loopg [7,8] n (fun g x7 x8 wr=>∃(a:Nat),n≤a+g∧a≤n∧x7= .int .i64 a∧x8= .int .i64 (a+20:Nat)∧al (Pm A c xs w wr))
 case atStart=>exact ⟨0,by omega,by omega,rfl,rfl,⟨xs,dh _,HH.o,Fr.refl _ _⟩⟩
 case round=>
  obtain ⟨a,hg,ha,rfl,rfl,HP⟩:=hrel
  have HG:=ae hg
  clear hg
  obtain ⟨b,hb⟩:∃b,a+20=b:=⟨_,rfl⟩
  rw [hb]
  by_cases CV:b≤n
  ·have Oe:(b:Int)≤(n:Int):=by omega
   have w1:IntKind.i64.wrap ((b:Int)+20)=(b:Int)+20:=IntWalk.i64_in _ (by omega)
   obtain ⟨ys,y1,y2,y3⟩:=HP.o
   have K:=ae (KI.o wr ys y1 y2 y3 a b (by omega) CV)
   have HB:=ae hb
   clear y1 y2 y3 hb HP
   go_wp2_with fail
   refine K.o.mono ?_
   clear K
   rintro e w2 ⟨rfl,hp⟩
   have HP:=ae hp
   clear hp
   go_wp2
   go_roundg (n-b)
   case measure=>have :=HG.o;have :=HB.o;omega
   case rel=>exact ⟨b,by omega,CV,rfl,by go_num,HP.o⟩
  ·have Oe:(n:Int)<(b:Int):=by omega
   obtain ⟨ys,y1,y2,y3⟩:=HP.o
   have K:=ae (KI.o wr ys y1 y2 y3 a n ha (au _))
   clear y1 y2 y3 hb HP
   go_wp2_with fail
   refine K.o.mono ?_
   clear K
   rintro e w2 ⟨rfl,hp⟩
   have HP:=ae hp
   clear hp
   go_wp2_with fail
   go_loopg [6,7,8] (n+1) (fun g x6 x7 x8 wr=>∃(k:Nat),n+1≤k+g∧20≤k∧k≤2*n+20∧x6= .int .i64 k∧al (Pm A c xs w wr))
   case atStart=>exact ⟨20,by omega,by omega,by omega,rfl,HP.o⟩
   case round=>
    obtain ⟨k,eY,hk,RB,rfl,Bo⟩:=hrel
    have rV:=ae eY
    have HK:=ae RB
    clear eY RB HP
    by_cases ly:k<n
    ·obtain ⟨k2,RB⟩:∃k2,2*k=k2:=⟨_,rfl⟩
     have w1:IntKind.i64.wrap (2*(k:Int))=(k2:Int):=by rw [IntWalk.i64_in _ (by omega)];omega
     have w1':IntKind.i64.wrap ((k:Int)*2)=(k2:Int):=by rw [IntWalk.i64_in _ (by omega)];omega
     have Le:=ae RB
     have amR:k2≤35184372088832:=by omega
     clear RB
     go_wp2_with fail
     go_loopg [7,8] n (fun g x7 x8 wr=>∃(a:Nat),n≤a+g∧a≤n∧x7= .int .i64 a∧x8= .int .i64 (a+k2:Nat)∧al (Pm A c xs w wr))
     case atStart=>exact ⟨0,by omega,by omega,rfl,by rw [cS],Bo.o⟩
     case round=>
      obtain ⟨a,hg,ha,rfl,rfl,HP⟩:=hrel
      have qs:=ae hg
      clear hg Bo
      obtain ⟨b,hb⟩:∃b,a+k2=b:=⟨_,rfl⟩
      obtain ⟨m,hm⟩:∃m,a+k=m:=⟨_,rfl⟩
      rw [hb]
      have wm:IntKind.i64.wrap ((a:Int)+(k:Int))=(m:Int):=by rw [IntWalk.i64_in _ (by omega)];omega
      by_cases CV:b≤n
      ·have Oe:(b:Int)≤(n:Int):=by omega
       have wb:IntKind.i64.wrap ((b:Int)+(k2:Int))=(b:Int)+(k2:Int):=IntWalk.i64_in _ (by omega)
       obtain ⟨ys,y1,y2,y3⟩:=HP.o
       have K:=ae (KM.o wr ys y1 y2 y3 a m b (by omega) (by have :=Le.o;omega) CV)
       have HB:=ae hb
       clear y1 y2 y3 hb hm HP
       go_wp2_with fail
       refine K.o.mono ?_
       clear K
       rintro e w2 ⟨rfl,hp⟩
       have HP:=ae hp
       clear hp
       go_wp2
       go_roundg (n-b)
       case measure=>have :=qs.o;have :=HB.o;have :=Le.o;omega
       case rel=>exact ⟨b,by omega,CV,rfl,by go_num,HP.o⟩
      ·have Oe:(n:Int)<(b:Int):=by omega
       by_cases hmn:m<n
       ·have VJ:(m:Int)<(n:Int):=by omega
        obtain ⟨ys,y1,y2,y3⟩:=HP.o
        have K:=ae (KM.o wr ys y1 y2 y3 a m n (by omega) hmn (au _))
        clear y1 y2 y3 hb hm HP
        go_wp2_with fail
        refine K.o.mono ?_
        clear K
        rintro e w2 ⟨rfl,hp⟩
        have HP:=ae hp
        clear hp
        go_wp2
        go_roundg (n+1-k2)
        case measure=>have :=rV.o;have :=Le.o;omega
        case rel=>exact ⟨k2,by omega,by have :=Le.o;omega,by have :=Le.o;omega,rfl,HP.o⟩
       ·have VJ:(n:Int)≤(m:Int):=by omega
        clear hb hm
        go_wp2
        go_roundg (n+1-k2)
        case measure=>have :=rV.o;have :=Le.o;omega
        case rel=>exact ⟨k2,by omega,by have :=Le.o;omega,by have :=Le.o;omega,rfl,HP.o⟩
    ·have LM:(n:Int)≤(k:Int):=by omega
     go_wp2_with fail
     go_end0
     exact Bo.o.pmp
theorem sd (g:Nat) (cb:Array Value) (q:Int→Int→Int) (eg:∀args w,(callFunc g args).run Tryz.prog w= .ok (.enter g args) w) (w:World) (A:Option Addr) (c:Nat) (xs:List Int) (h:Ints w A c xs) (hl:xs.length≤17592186044416) (hc:yu g cb q A xs w):
  Calls Tryz.prog 135 #[.slice A xs.length c, .func (.func g) #[] cb] w (Dy A c xs w):=by
 have K:=ae (zM g cb q eg w A c xs h hl hc)
 clear h hc
 go_enter Tryz.func135,Tryz.ntmps135
 go_wp2_with fail
 refine K.o.mono ?_
 clear K
 rintro e w2 ⟨rfl,hp⟩
 have HP:al (Pm A c xs w w2):=hp
 clear hp
 go_wp2_with fail
 go_end0
 exact HP.o.pmp
theorem Ac (w:World) (L:aQ) (S:Sv) (h:bf w L S) (m:Nat) (ok:S.Ok m) (n:Nat) (hn:n<S.list.length) (h0:0<(S.rc n).lits.length):
  Calls Tryz.prog 134 #[.pointer (some ⟨L.a,0,none⟩), .int .i64 n] w fun e w'=>e= .returned (.bool (S.locked n))∧Fr [] w w':=by
 have rR:n<L.cs.length:=by rw [h.ni];exact hn
 have ed:=h.pD rR
 obtain ⟨gc,i9,x0,-,-⟩:=h.pB rR
 have fJ:=h.pr n rR
 have jA:=ok.lit (n:=n) (k:=0) h0
 rw [ed] at h0 jA
 obtain ⟨⟨A,c,l,b,ac⟩,hx⟩:∃x,L.cs[n]! =x:=⟨_,rfl⟩
 rw [hx] at ed x0 fJ h0 jA
 simp only [Cw.rc] at ed x0 fJ h0 jA
 have nF:=ok.vl
 have sD:=ok.ll
 obtain ⟨ga,hA,sE⟩:=fJ.pos h0
 subst hA
 have cy:=fJ.cell h0
 obtain ⟨y,hy⟩:∃y,l[0]! =y:=⟨_,rfl⟩
 rw [hy] at cy jA
 obtain ⟨c0,-,-,c3,-⟩:=h.cells
 rw [i9] at c3
 have CG:=h.ni
 rw [CG] at c3
 have jL:S.locked n=(decide (0<S.T.kQ y)&&decide (S.T.fe (tv y)=(n:Int)+1)):=by
  unfold Sv.locked
  rw [ed]
  simp only
  rw [hy]
  rfl
 have hni:(n:Int)<(S.list.length:Int):=by omega
 have Ry:(0:Int)<(l.length:Int):=by omega
 have KV:=ae (dQ w L.tL S.T h.tr y (by omega) (by omega) ok.small)
 have KR:=ae (j6 w L.tL S.T h.tr (tv y))
 have qx:=EH (x:=y) (by omega)
 have dO:IntKind.i64.wrap (-y)= -y:=IntWalk.i64_in _ (by omega)
 have mD:IntKind.i64.wrap ((n:Int)+1)=(n:Int)+1:=IntWalk.i64_in _ (by omega)
 obtain ⟨v,hv⟩:∃v,S.T.kQ y=v:=⟨_,rfl⟩
 obtain ⟨t,ht⟩:∃t,tv y=t:=⟨_,rfl⟩
 obtain ⟨r,hr⟩:∃r,S.T.fe t=r:=⟨_,rfl⟩
 rw [hv] at KV
 rw [ht,hr] at KR
 rw [ht] at qx
 rw [jL,hv,ht,hr]
 obtain ⟨res,fS⟩:∃res,(decide (0<v)&&decide (r=(n:Int)+1))=res:=⟨_,rfl⟩
 rw [fS]
 have eP:=ae fS
 clear jL hv hr ht hy ed hx fJ h CG fS
 go_enter Tryz.func134,Tryz.ntmps134
 go_wp2_with fail
 refine KV.o.mono ?_
 clear KV
 rintro e w2 ⟨rfl,rfl⟩
 by_cases LB:0<v
 ·by_cases tS:r=(n:Int)+1
  ·have hb:(r==(n:Int)+1)=true:=by simpa using tS
   by_cases yX:y< -y
   ·rw [if_pos yX] at qx
    go_wp2_with fail
    try rw [show max y t=t by omega]
    refine KR.o.mono ?_
    rintro e w2 ⟨rfl,rfl⟩
    go_wp2
    go_ret
    exact ⟨by rw [←eP.o,decide_eq_true LB,decide_eq_true tS];rfl,Fr.refl _ _⟩
   ·rw [if_neg yX] at qx
    have kS: -y≤y:=by omega
    go_wp2_with fail
    try rw [show max t (-t)=t by omega]
    refine KR.o.mono ?_
    rintro e w2 ⟨rfl,rfl⟩
    go_wp2
    go_ret
    exact ⟨by rw [←eP.o,decide_eq_true LB,decide_eq_true tS];rfl,Fr.refl _ _⟩
  ·have hb:(r==(n:Int)+1)=false:=by simpa using tS
   by_cases yX:y< -y
   ·rw [if_pos yX] at qx
    go_wp2_with fail
    try rw [show max y t=t by omega]
    refine KR.o.mono ?_
    rintro e w2 ⟨rfl,rfl⟩
    go_wp2
    go_ret
    exact ⟨by rw [←eP.o,decide_eq_true LB,decide_eq_false tS];rfl,Fr.refl _ _⟩
   ·rw [if_neg yX] at qx
    have kS: -y≤y:=by omega
    go_wp2_with fail
    try rw [show max t (-t)=t by omega]
    refine KR.o.mono ?_
    rintro e w2 ⟨rfl,rfl⟩
    go_wp2
    go_ret
    exact ⟨by rw [←eP.o,decide_eq_true LB,decide_eq_false tS];rfl,Fr.refl _ _⟩
 ·have hv1:v≤0:=by omega
  go_wp2
  go_ret
  exact ⟨by rw [←eP.o,decide_eq_false (by omega:¬0<v)];rfl,Fr.refl _ _⟩
def So (S:Sv) (x y:Int):Int:=wrap64 ((S.rc x.toNat).act-(S.rc y.toNat).act)
theorem Ev (w:World) (L:aQ) (S:Sv) (h:bf w L S) (k:Nat) (hk:w.cell? ⟨k,0,none⟩=some (.pointer (some ⟨L.a,0,none⟩))) (x y:Nat) (hx:x<S.list.length) (hy:y<S.list.length):
  Calls Tryz.prog 136 #[.int .i64 x, .int .i64 y, .pointer (some ⟨k,0,none⟩)] w fun e w'=>e= .returned (.int .i64 (So S (x:Int) (y:Int)))∧Fr [] w w':=by
 have hxc:x<L.cs.length:=by rw [h.ni];exact hx
 have QT:y<L.cs.length:=by rw [h.ni];exact hy
 obtain ⟨gc,i9,-,-,x2⟩:=h.pB hxc
 obtain ⟨gc',V3,-,-,y2⟩:=h.pB QT
 rw [i9] at V3
 obtain rfl :gc=gc':=by simpa using V3
 have ex:=h.pD hxc
 have ey:=h.pD QT
 obtain ⟨-,-,-,c3,-⟩:=h.cells
 rw [i9,h.ni] at c3
 have XK:(x:Int)<(S.list.length:Int):=by omega
 have hyi:(y:Int)<(S.list.length:Int):=by omega
 have hq:So S (x:Int) (y:Int)=wrap64 ((L.cs[x]!).act-(L.cs[y]!).act):=by
  unfold So
  rw [Int.toNat_natCast,Int.toNat_natCast,ex,ey]
  rfl
 rw [hq]
 obtain ⟨u,hu⟩:∃u,(L.cs[x]!).act=u:=⟨_,rfl⟩
 obtain ⟨v,hv⟩:∃v,(L.cs[y]!).act=v:=⟨_,rfl⟩
 rw [hu] at x2⊢
 rw [hv] at y2⊢
 have e0:=Ext.cell hk
 have e1:=Ext.cell c3
 have e2:=Ext.cell x2
 have e3:=Ext.cell y2
 clear hq hu hv ex ey h V3 i9 hxc QT hk c3 x2 y2
 go_enter Tryz.func136,Tryz.ntmps136
 go_wp2
 refine ax ?_
 repeat (go_big_quiet_step (fail))
 refine gO ?_
 intro w2 bl
 clear e0 e1 e2 e3
 go_wp2
 go_ret
 exact ⟨rfl,bl.o⟩
theorem C7:∀args w,(callFunc 136 args).run Tryz.prog w= .ok (.enter 136 args) w:=enters_of Tryz.func136 (by kernel_rfl) rfl
theorem bf.abj {w:World} {L:aQ} {S:Sv} (h:bf w L S) {n:Nat} (hn:n<L.cs.length) {gc:Nat} (i9:L.cA=some ⟨gc,0,none⟩):
  w.frozen? ⟨gc,n*3,none⟩=false∧w.frozen? ⟨gc,n*3+1,none⟩=false∧
  bf ((w.setCell ⟨gc,n*3,none⟩ (.slice none 0 0)).setCell ⟨gc,n*3+1,none⟩ (.bool false)).drew { L with cs:=L.cs.set n ⟨none,0,[],false,(L.cs[n]!).act⟩} { S with list:=S.list.set n ⟨[],false,(S.rc n).act⟩}∧
   Fr [gc] w ((w.setCell ⟨gc,n*3,none⟩ (.slice none 0 0)).setCell ⟨gc,n*3+1,none⟩ (.bool false)).drew∧(L.cQ gc).1=L.id:=by
 have r:=h.ux
 unfold rM at r
 rw [i9] at r
 have kG:L.cQ gc=(L.id,3,0):=h.t3 gc (by rw [i9];simp [ap])
 have hf:Fr [gc] w ((w.setCell ⟨gc,n*3,none⟩ (.slice none 0 0)).setCell ⟨gc,n*3+1,none⟩ (.bool false)).drew:=(((Fr.refl _ w).setCell (.inl (by simp)) _).setCell (.inl (by simp)) _).drew
 have o:=h.off (P:=(· =(3,0))) hf (fun k hk hl=>⟨_,rfl,by simp at hk;subst hk;exact kG⟩)
 have mg:=(World.ownsRow.stored r (n*3) (.slice none 0 0)).1
 have Q1:=(World.ownsRow.stored mg (n*3+1) (.bool false)).1
 have ed:=h.pD hn
 have po:∀j:Nat,(L.cs.set n ⟨none,0,[],false,(L.cs[n]!).act⟩)[j]! =if n=j∧n<L.cs.length then ⟨none,0,[],false,(L.cs[n]!).act⟩ else L.cs[j]! :=fun j=>dT _ _ _ _
 refine ⟨World.ownsRow.frozenAt r _,World.ownsRow.frozenAt r _,⟨?_,o.tr (by decide),o.hp (by decide),h.io,?_,h.Ay,?_,o.rws (by decide),o.uv (by decide),o.xv (by decide),o.tO (by decide),fun j hj=> ?_,fun c hc=>o.rr c hc (by simp),
  h.t0,h.t1,h.t2,h.t3,h.t4,h.t5,h.t6,h.t7,fun j hj k hk=> ?_,h.t9⟩,hf,by rw [kG]⟩
 ·have :=o.obj (by decide)
  simp only [oQ,aw] at this⊢
  exact this
 ·simp only
  rw [←h.AA,List.map_set]
  congr 1
  rw [ed]
  rfl
 ·unfold rM
  obtain ⟨g0,g1,g2⟩:=mp L.cs n hn
  have e:((eS L.cs).set (n*3) (.slice none 0 0)).set (n*3+1) (.bool false)=eS (L.cs.set n ⟨none,0,[],false,(L.cs[n]!).act⟩):=by
   rw [←o5 L.cs n _ hn]
   simp only
   refine (kz ?_).symm
   rw [List.getElem?_set_ne (by omega),List.getElem?_set_ne (by omega)]
   exact g2
  simp only [aw]
  rw [←e,i9]
  exact World.ownsRow.drew Q1
 ·simp only [aw] at hj
  simp only
  rw [po]
  by_cases hc:n=j∧n<L.cs.length
  ·rw [if_pos hc]
   exact Ints.nil _
  ·rw [if_neg hc]
   exact o.pr j hj (by simp)
 ·simp only [aw] at hj
  simp only at hk
  rw [po] at hk
  by_cases hc:n=j∧n<L.cs.length
  ·rw [if_pos hc] at hk
   simp [ap] at hk
  ·rw [if_neg hc] at hk
   exact h.t8 j hj k hk
namespace Sv
def yx (S:Sv) (n:Nat):Bool:=(S.rc n).iY&&decide (2<(S.rc n).lits.length)&& !S.locked n
def iD (S:Sv) (k:Nat):List Nat:=(List.range k).filter S.yx
theorem Bt (S:Sv) (k:Nat):S.iD (k+1)=S.iD k++if S.yx k=true then [k] else []:=by
 unfold iD
 rw [List.range_succ,List.filter_append,List.filter_cons,List.filter_nil]
theorem uV (S:Sv) (k:Nat):(S.iD k).length≤k:=by
 unfold iD
 have :=List.length_filter_le S.yx (List.range k)
 rw [cX] at this
 exact this
end Sv
theorem EB {ys:List Int} {wl:List Nat} (h:ys.Perm (bR wl)):∃ls:List Nat,ys=bR ls∧ls.Perm wl:=by
 refine ⟨ys.map Int.toNat,?_,?_⟩
 ·unfold bR
  rw [List.map_map]
  refine (List.map_id ys).symm.trans (List.map_congr_left fun x hx=> ?_)
  obtain ⟨n,_,rfl⟩:=az.1 (h.mem_iff.1 hx)
  simp
 ·have :=h.map Int.toNat
  unfold bR at this
  rw [List.map_map] at this
  have e:(Int.toNat∘fun n:Nat=>(n:Int))=id:=by funext n;simp
  rw [e,List.map_id] at this
  exact this
namespace Sv
def iQ (S:Sv) (ls:List Nat) (j:Nat):Sv:=(ls.take j).foldl bW S
theorem AB (S:Sv) (ls:List Nat) {j:Nat} (h:j<ls.length):S.iQ ls (j+1)=(S.iQ ls j).bW ls[j]! :=by
 unfold iQ
 rw [List.take_add_one,List.foldl_append]
 simp only [aa,af h,ay,fq,List.foldl_cons,List.foldl_nil]
theorem Db {S:Sv} {ls:List Nat} (hp:ls.Perm S.Bu):Gd S (S.iQ ls (ls.length/2)):=by
 have hn:S.Bu.Nodup:=List.Nodup.sublist List.filter_sublist List.nodup_range
 refine ⟨ls.take (ls.length/2),List.Nodup.sublist (List.take_sublist _ _) (hp.nodup_iff.2 hn),fun n hn=>hp.mem_iff.1 (List.mem_of_mem_take hn),?_,rfl⟩
 rw [aV,←hp.length_eq]
 omega
end Sv
theorem zW:Ge:=by
 intro w L S h ok xT vO
 obtain ⟨w1,dO⟩:∃w1,w.alloc (.cells #[.pointer (some ⟨L.a,0,none⟩)] 59)=w1:=⟨_,rfl⟩
 have fE:al (Fr [] w w1):=by rw [←dO];exact aN _ _
 have mR:w1.cell? ⟨w.heap.size,0,none⟩=some (.pointer (some ⟨L.a,0,none⟩)):=by rw [←dO];exact (At.new w _ _).cell 0
 have nq:w1.heap.size=w.heap.size+1:=by rw [←dO];simp
 obtain ⟨L1,xF⟩:∃L1,L.shut w=L1:=⟨_,rfl⟩
 have H1:al (bf w1 L1 S):=by rw [←xF];exact h.shut.keep fE.o
 have eG:al (L.ext L1 w):=by rw [←xF];exact L.lY w
 have Lc:al (∀k,w.heap.size≤k→(L1.cQ k).1≠L1.id):=fun k hk=>by rw [←xF];exact aQ.ju hk
 have HSZ:=ae nq
 have xq:=ae mR
 have kM:=ae ok
 have lO:L1.a=L.a:=eG.o.1
 obtain ⟨-,-,-,c3,-⟩:=H1.o.cells
 rw [lO,H1.o.ni] at c3
 have qr:al (S.list.length≤2199023255552):=ok.ll
 have sD:=ok.ll
 clear h ok xF nq
 go_enter Tryz.func109,Tryz.ntmps109
 go_upto_region 2 with fail
 clear dO
 go_wp2_with fail
 go_loopg [2,12] S.list.length (fun g x2 UH wr=>∃(k:Nat) (A':Option Addr) (c':Nat),k+g=S.list.length∧x2= .slice A' (S.iD k).length c'∧UH= .int .i64 k∧al (Ints wr A' c' (bR (S.iD k)))∧al (∀j,j∈ap A'→w1.heap.size≤j)∧al (Fr [] w1 wr))
 case atStart=>exact ⟨0,none,0,by omega,rfl,rfl,Ints.nil _,fun j hj=>by simp [ap] at hj,Fr.refl _ _⟩
 case round=>
  obtain ⟨k,A',c',hk,rfl,rfl,HI,Uq,HF⟩:=hrel
  have HK:=ae hk
  have ly:k≤S.list.length:=by omega
  clear hk
  by_cases bM:k<S.list.length
  ·have H2:=ae (H1.o.keep HF.o)
   have XT:k<L1.cs.length:=by rw [H1.o.ni];exact bM
   obtain ⟨gc,i9,x0,x1,x2⟩:=H2.o.pB XT
   have ed:=H1.o.pD XT
   obtain ⟨⟨Ar,cr,lr,br,ar⟩,hx⟩:∃x,L1.cs[k]! =x:=⟨_,rfl⟩
   rw [hx] at x0 x1 x2 ed
   simp only [Cw.rc] at x0 x1 x2 ed
   rw [i9] at c3
   have cb:=HF.o.aT xq.o
   have c3':=HF.o.aT c3
   obtain ⟨w2,mD⟩:∃w2,wr.alloc (.cells #[.slice Ar lr.length cr, .bool br, .int .i64 ar] 118)=w2:=⟨_,rfl⟩
   have cH:al (Fr [] w1 w2):=mD▸(HF.o.aj (aN _ _))
   have ach:al (Fr [] wr w2):=mD▸(aN _ _)
   have n0:w2.cell? ⟨wr.heap.size,0,none⟩=some (.slice Ar lr.length cr):=by rw [←mD];exact (At.new wr _ _).cell 0
   have n1:w2.cell? ⟨wr.heap.size,1,none⟩=some (.bool br):=by rw [←mD];exact (At.new wr _ _).cell 1
   have cb2:=cH.o.aT xq.o
   have eR:S.yx k=(br&&decide (2<lr.length)&& !S.locked k):=by unfold Sv.yx;rw [ed]
   have Pa:=ae eR
   have pQ:=ae (S.Bt k)
   have KL:al (0<lr.length→Calls Tryz.prog 134 #[.pointer (some ⟨L.a,0,none⟩), .int .i64 k] w2 fun e w'=>e= .returned (.bool (S.locked k))∧Fr [] w2 w'):=fun h0=>by
    have :=Ac w2 L1 S (H1.o.keep cH.o) 0 kM.o k bM (by rw [ed];exact h0)
    rw [lO] at this
    exact this
   have LM:(k:Int)<(S.list.length:Int):=by omega
   have wk:IntKind.i64.wrap ((k:Int)+1)=(k:Int)+1:=IntWalk.i64_in _ (by omega)
   clear hx ed eR
   go_upto_region 5 with fail
   clear mD c3' c3 x0 x1 x2 cb i9
   obtain ⟨wb,eR⟩:∃wb,S.yx k=wb:=⟨_,rfl⟩
   rw [eR] at Pa pQ
   have HWQ:=ae eR
   clear eR
   go_cut [30] from 13 to 34 (fun x wx=>x= .bool wb∧al (Fr [] w2 wx))
   case first =>
    cases br with
    |false=>
     have hq:wb=false:=by rw [Pa.o];rfl
     clear KL
     go_wp2
     go_meet
     case rel=>exact ⟨by rw [hq],Fr.refl _ _⟩
    |true=>
     by_cases h2:2<lr.length
     ·have h2i:(2:Int)<(lr.length:Int):=by omega
      have KL:=KL.o (by omega)
      obtain ⟨lk,jL⟩:∃lk,S.locked k=lk:=⟨_,rfl⟩
      rw [jL] at KL Pa
      have hq:wb= !lk:=by rw [Pa.o,decide_eq_true h2];rfl
      have Le:=ae KL
      have HQ:=ae hq
      clear KL hq jL
      go_wp2_with fail
      refine Le.o.mono ?_
      clear Le
      rintro e w3 ⟨rfl,hf⟩
      have cZ:=ae hf
      clear hf
      cases lk with
      |true=>
       go_wp2
       go_meet
       case rel=>exact ⟨by rw [HQ.o];rfl,cZ.o⟩
      |false=>
       go_wp2
       go_meet
       case rel=>exact ⟨by rw [HQ.o];rfl,cZ.o⟩
     ·have h2i:(lr.length:Int)≤2:=by omega
      have hq:wb=false:=by rw [Pa.o,decide_eq_false h2];rfl
      clear KL
      go_wp2
      go_meet
      case rel=>exact ⟨by rw [hq],Fr.refl _ _⟩
   case rest=>
    obtain ⟨rfl,cZ⟩:=hcut
    obtain ⟨w3,rfl⟩:∃x,x=wc:=⟨_,rfl⟩
    have GA:=ae (cH.o.aj cZ.o)
    have acg:=ae (ach.o.aj cZ.o)
    clear KL n0 n1 cb2 cH cZ ach
    cases wb with
    |false=>
     have HW:=pQ.o
     simp only [dt,if_false,bU] at HW
     have HW:=ae HW
     go_wp2
     go_roundg (gk-1)
     case measure=>have :=HK.o;omega
     case rel=>exact ⟨k+1,A',c',by have :=HK.o;omega,by rw [HW.o],by go_num,by rw [HW.o];exact HI.o.dX acg.o,Uq.o,GA.o⟩
    |true=>
     have HW:=pQ.o
     simp only [if_true] at HW
     have HW:=ae HW
     obtain ⟨wb,eR⟩:∃W,w3.alloc (.cells #[.int .i64 (k:Int)] 3)=W:=⟨_,rfl⟩
     have fE:al (Fr [] w3 wb):=eR▸aN _ _
     have j3:wb.cell? ⟨w3.heap.size,0,none⟩=some (.int .i64 (k:Int)):=by
      have :=(At.new w3 3 #[.int .i64 (k:Int)]).cell 0
      rw [eR] at this
      simpa using this
     have HLW:al ((S.iD k).length≤k):=S.uV k
     go_wp2_with (at_builtin;(refine cT _ rfl _ _ rfl A' c' (bR (S.iD k)) (S.iD k).length rfl (bj _).symm ((HI.o.dX acg.o).fr fE.o (by simp)) ⟨w3.heap.size,0,none⟩ 1 (k:Int) rfl j3 (by rw [bj];have :=HLW.o;omega) ?_;intro g cap w4 fJ qe hg PW))
     have Pi:al (Ints w4 (some ⟨g,0,none⟩) cap (bR (S.iD (k+1)))):=by
      rw [HW.o,←kr]
      exact fJ
     have yp:al ((S.iD (k+1)).length=(S.iD k).length+1):=by rw [HW.o];simp [al]
     have Pw:al (∀j,j∈ap (some (⟨g,0,none⟩:Addr))→w1.heap.size≤j):=fun j hj=>by
      simp [ap] at hj
      subst hj
      rcases hg with h1 |h1
      ·exact Uq.o j h1
      ·have :=GA.o.size;have :=fE.o.size;omega
     have fM:al (Fr [] w1 w4):=(GA.o.aj fE.o).trans qe (fun x hx=> .inr (Uq.o x hx))
     clear j3 fJ qe hg PW eR
     go_roundg (gk-1)
     case measure=>have :=HK.o;omega
     case rel=>exact ⟨k+1,some ⟨g,0,none⟩,cap,by have :=HK.o;omega,by rw [yp.o],by go_num,Pi.o,Pw.o,fM.o⟩
  ·obtain rfl :k=S.list.length:=by omega
   obtain ⟨wl,TC⟩:∃wl,S.iD S.list.length=wl:=⟨_,rfl⟩
   have HWL:al (S.Bu=wl):=TC
   have ke:∀x∈wl,x<S.list.length:=fun x hx=>by rw [←TC] at hx;exact (Sv.zt (S:=S) hx).1
   have HIN:=ae ke
   have Z9:wl.length≤S.list.length:=by rw [←TC];exact S.uV _
   rw [TC] at HI⊢
   clear TC ke
   have Qk:al (w.heap.size<w1.heap.size):=by have :=HSZ.o;show _<_;omega
   have KS:=ae (sd 136 #[.pointer (some ⟨w.heap.size,0,none⟩)] (So S) C7 wr A' c' (bR wl) HI.o (by rw [bj];omega) (fun W hW x hx y hy=>by
    have cU:Fr [] w1 W:=HF.o.trans hW (fun x hx=> .inr (Uq.o x hx))
    obtain ⟨x',PS,rfl⟩:=az.1 hx
    obtain ⟨y',Tz,rfl⟩:=az.1 hy
    have :=Ev W L1 S (H1.o.keep cU) w.heap.size (by rw [lO];exact cU.aT xq.o) x' y' (HIN.o x' PS) (HIN.o y' Tz)
    exact this))
   rw [bj] at KS
   obtain ⟨n,hn⟩:∃n,wl.length=n:=⟨_,rfl⟩
   rw [hn] at KS⊢
   have Qd:=ae hn
   rw [hn] at Z9
   clear hn
   go_upto_region 8 with fail
   go_wp2_with fail
   refine KS.o.mono ?_
   clear KS
   rintro e w2 ⟨rfl,ys,y1,y2,y3⟩
   have bZ:Fr [] w1 w2:=HF.o.trans y3 (fun x hx=> .inr (Uq.o x hx))
   obtain ⟨ls,rfl,jK⟩:=EB y1
   have HPM:al (ls.Perm S.Bu):=jK.trans (HWL.o▸dh _)
   have Gv:al (ls.length=n):=jK.length_eq.trans Qd.o
   have HIL:=ae (fun x (hx:x∈ls)=>HIN.o x (jK.mem_iff.1 hx))
   have mw:=ae y2
   have cH:=ae bZ
   have sI:n≤c'∧(A'=none→n=0):=by
    have h1:=y2.form
    have h2:=Gv.o
    have h3:=bj ls
    rcases h1 with ⟨a1,a2,a3⟩ |⟨g,a1,a2,a3,a4⟩
    ·have :ls.length=0:=by rw [←h3,a3];rfl
     exact ⟨by omega,fun _=>by omega⟩
    ·exact ⟨by omega,fun e=>by rw [a1] at e;cases e⟩
   obtain ⟨sI,TP⟩:=sI
   have Qc:=ae TP
   obtain ⟨h,hh⟩:∃h:Nat,n/2=h:=⟨_,rfl⟩
   have hdiv:(n:Int)/2=(h:Int):=by omega
   have ajG:IntKind.i64.wrap ((h:Int))=(h:Int):=IntWalk.i64_in _ (by omega)
   have hhc:h≤c':=by omega
   have HH2:=ae hh
   have hhn:h≤n:=by omega
   clear y1 y2 y3 bZ jK TP HI HF hh
   go_upto_region 9 with fail
   go_wp2_with fail
   go_loopg [45] h (fun g x wr=>∃(j:Nat) (Lj:aQ),j+g=h∧x= .int .i64 j∧al (bf wr Lj (S.iQ ls j))∧al (Lj.a=L1.a∧Lj.id=L1.id∧Lj.cQ=L1.cQ)∧al (Ints wr A' c' (bR ls))∧al (Fr (L.own w) w wr)∧al (wr.cell? ⟨w.heap.size,0,none⟩=some (.pointer (some ⟨L.a,0,none⟩))))
   case atStart=>exact ⟨0,L1,by omega,rfl,H1.o.keep cH.o,⟨rfl,rfl,rfl⟩,mw.o,(fE.o.aj cH.o).mono (fun k hk=>by cases hk),cH.o.aT xq.o⟩
   case round=>
    obtain ⟨j,Lj,hj,rfl,HS,Pt,HIJ,HFJ,HCJ⟩:=hrel
    have HJ:=ae hj
    have hjh:j≤h:=by omega
    clear hj
    by_cases bM:j<h
    ·have DW:j<(bR ls).length:=by rw [bj,Gv.o];omega
     obtain ⟨ga,hA,sE⟩:=HIJ.o.pos DW
     subst hA
     have cx:=HIJ.o.cell DW
     rw [o7] at cx
     obtain ⟨v,hv⟩:∃v,ls[j]! =v:=⟨_,rfl⟩
     rw [hv] at cx
     have RE:j<ls.length:=by rw [Gv.o];omega
     have hvm:v∈ls:=by rw [←hv,aa,af RE];exact List.getElem_mem RE
     have nF:=HIL.o v hvm
     have mg:S.iQ ls (j+1)=(S.iQ ls j).bW v:=by rw [S.AB ls RE,hv]
     have zo:=ae mg
     have th:=Sv.kI (ls.take j) S
     have hlen:(S.iQ ls j).list.length=S.list.length:=th.2.2.1
     have i8:(S.iQ ls j).many=S.many-(j:Int):=by
      have :=th.2.2.2.2.2
      rw [aV,Nat.min_eq_left (by omega)] at this
      exact this
     obtain ⟨Sj,hSj⟩:∃Sj,S.iQ ls j=Sj:=⟨_,rfl⟩
     rw [hSj] at HS zo hlen i8
     have ST:=ae hlen
     have hla:Lj.a=L.a:=Pt.o.1.trans lO
     have hvc:v<Lj.cs.length:=by rw [HS.o.ni,hlen];exact nF
     obtain ⟨gc,i9,x0,x1,x2⟩:=HS.o.pB hvc
     obtain ⟨f0,f1,zd,rl,hd3⟩:=HS.o.abj hvc i9
     obtain ⟨-,-,-,c3,-,-,-,-,-,-,-,LY,-⟩:=HS.o.cells
     rw [hla] at c3 LY
     rw [i9,HS.o.ni,hlen] at c3
     have cb:=HCJ.o
     have hvi:(v:Int)<(S.list.length:Int):=by omega
     obtain ⟨W1,jr⟩:∃W,((wr.setCell ⟨gc,v*3,none⟩ (.slice none 0 0)).setCell ⟨gc,v*3+1,none⟩ (.bool false)).drew=W:=⟨_,rfl⟩
     have WR:=ae jr
     rw [jr] at zd rl
     have H1:=ae zd
     have Mi:=ae rl
     have Xx:=ae hd3
     have hwm:IntKind.i64.wrap (Sj.many-1)=Sj.many-1:=IntWalk.i64_in _ (by rw [i8];omega)
     have Ry:(j:Int)<(h:Int):=by omega
     clear mg hSj th hlen i8 hvm DW RE hv jr zd rl hd3 x2
     go_wp2
     go_region
     clear x0 x1 f0 f1 c3 LY cb
     have jr:=WR.o
     rw [jr]
     clear jr WR
     have e2:Lj.ext { Lj with cs:=Lj.cs.set v ⟨none,0,[],false,(Lj.cs[v]!).act⟩} wr:=⟨rfl,rfl,fun k _ e=>e⟩
     have eL:L.ext Lj w:=⟨hla,Pt.o.2.1.trans eG.o.2.1,fun k hk e=>eG.o.2.2 k hk (by rw [←Pt.o.2.2];exact e)⟩
     have ahW:al (Fr (L.own w) w W1):=aQ.aR eL HFJ.o (aQ.gE Mi.o (fun k hk _=>by simp at hk;rw [hk];exact Xx.o))
     obtain ⟨L2,Wn⟩:∃L2,{ Lj with cs:=Lj.cs.set v ⟨none,0,[],false,(Lj.cs[v]!).act⟩}=L2:=⟨_,rfl⟩
     have j5:al (L2.a=L1.a∧L2.id=L1.id∧L2.cQ=L1.cQ):=by rw [←Wn];exact Pt.o
     rw [Wn] at H1
     have JM:L2.a=L.a:=j5.o.1.trans lO
     have Uc:L.ext L2 w:=⟨JM,j5.o.2.1.trans eG.o.2.1,fun k hk e=>eG.o.2.2 k hk (by rw [←j5.o.2.2];exact e)⟩
     obtain ⟨-,-,-,-,-,-,-,-,-,-,-,LY,-⟩:=H1.o.cells
     obtain ⟨g1,g2⟩:=H1.o.pk 11 (.int .i64 (Sj.many-1)) (Sj.bW v) (by simp [oQ,Sv.bW]) ⟨rfl,rfl,rfl,rfl,rfl,rfl,rfl⟩
     have f11:=H1.o.obj.frozen 11
     rw [JM] at LY g1 g2 f11
     have TQ:w.heap.size≠gc:=fun e=>by
      have :=Lc.o gc (by omega)
      rw [j5.o.2.2.symm,j5.o.2.1.symm] at this
      exact this (by rw [j5.o.2.2,←Pt.o.2.2,j5.o.2.1,←Pt.o.2.1];exact Xx.o)
     have cb:W1.cell? ⟨w.heap.size,0,none⟩=some (.pointer (some ⟨L.a,0,none⟩)):=Mi.o.bD (by simpa using TQ) HCJ.o
     have ah7:=ae cb
     have qw:w.heap.size≠L.a:=fun e=>by
      have :=Lc.o L.a (by omega)
      rw [←lO,←j5.o.1,←j5.o.2.2,←j5.o.2.1] at this
      exact this (by rw [H1.o.t0])
     have Lb:=ae qw
     have HG1:=ae g1
     have rV:al (Fr (L.own w) w (W1.setCell ⟨L.a,11,none⟩ (.int .i64 (Sj.many-1)))):=aQ.aR Uc ahW.o g2
     have Gy:al (Ints (W1.setCell ⟨L.a,11,none⟩ (.int .i64 (Sj.many-1))) (some ⟨ga,0,none⟩) c' (bR ls)):=by
      have o3:(L1.cQ ga).1≠L1.id:=Lc.o ga (by have :=Uq.o ga (by simp [ap]);have :=Qk.o;omega)
      have q1:Ints W1 (some ⟨ga,0,none⟩) c' (bR ls):=HIJ.o.fr Mi.o (fun k hk hm=>by
       simp [ap] at hk hm
       subst hk
       rw [hm] at o3
       exact o3 (by rw [←Pt.o.2.2,←Pt.o.2.1];exact Xx.o))
      refine q1.gh (p:=⟨L.a,11,none⟩) (fun hk=> ?_) _
      simp [ap] at hk
      rw [←hk] at o3
      rw [←lO,←j5.o.1,←j5.o.2.2,←j5.o.2.1] at o3
      exact o3 (by rw [H1.o.t0])
     have wj:IntKind.i64.wrap ((j:Int)+1)=(j:Int)+1:=IntWalk.i64_in _ (by omega)
     clear g1 g2 e2 eL Uc Wn TQ qw
     go_wp2
     go_roundg (gk-1)
     case measure=>have :=HJ.o;omega
     case rel=>exact ⟨j+1,L2,by have :=HJ.o;omega,by go_num,zo.o▸HG1.o,j5.o,Gy.o,rV.o,((Fr.refl [L.a] W1).setCell (p:=⟨L.a,11,none⟩) (.inl (by simp)) (.int .i64 (Sj.many-1))).bD (p:=⟨w.heap.size,0,none⟩) (by simpa using Lb.o) ah7.o⟩
    ·obtain rfl :j=h:=by omega
     have FF:al (∃S',Sv.Gd S S'∧oF (.tuple #[]) S' L w (.returned (.tuple #[])) wr):=⟨S.iQ ls j,by
      have :=Sv.Db HPM.o
      rw [Gv.o,HH2.o] at this
      exact this,rfl,Lj,HS.o,⟨Pt.o.1.trans lO,Pt.o.2.1.trans eG.o.2.1,fun k hk e=>eG.o.2.2 k hk (by rw [←Pt.o.2.2];exact e)⟩,HFJ.o⟩
     go_wp2_with fail
     go_end0
     exact FF.o
end Go.Proofs.YtdgplmgfkliijaaGreat
