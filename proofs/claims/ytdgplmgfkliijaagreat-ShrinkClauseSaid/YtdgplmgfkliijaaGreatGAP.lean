/- Parts of a proof. -/
import Derived.Test.YtdgplmgfkliijaaGreatGAO
set_option linter.unusedVariables false
set_option linter.unusedSimpArgs false
set_option maxHeartbeats 16000000
set_option maxRecDepth 100000
namespace Go.Proofs.YtdgplmgfkliijaaGreat
open Go.RowKit
theorem Stay.cell {X:List Nat} {w w':World} (h:Stay X w w') {p:Addr} {v:Value} (hc:w.cell? p=some v) (hx:p.block∈X):w'.cell? p=some v:=by
 obtain ⟨T,h1,h2⟩:=h
 rw [World.cell?_of_block (h1.block p.block (bE hc) (h2 _ hx))]
 exact hc
theorem OwnX.old {X Y:List Nat} {w0 w:World} {L:aQ} {S:Sv} (h:OwnX X w0 w L S) (hY:∀k∈Y,k<w0.heap.size):OwnX (X++Y) w0 w L S:=
 ⟨h.own,fun k hk=>by
  rcases ag.1 hk with h1 |h1
  ·exact h.fx k h1
  ·exact ⟨aK (hY k h1) h.own.fr.size,h.own.nw k (hY k h1)⟩⟩
namespace Sv
def cR (S:Sv):List (List Int)→Sv
 |[]=>S
 |c::r=>cR (S.fl c).1 r
theorem xd (S:Sv):∀l r:List (List Int),S.cR (l++r)=(S.cR l).cR r
 |[],r=>rfl
 |c::l,r=>xd (S.fl c).1 l r
structure Fit (vars V:Nat) (S:Sv):Prop where
 ok:S.Ok 0
 vars:S.vars=vars
 list:S.list.length≤V
 used:S.used≤2199023255552
theorem Fit.add {vars V:Nat} {S:Sv} (h:Fit vars V S) (hV:V<8388608) {c:List Int} (hr:Ra c):Fit vars (V+1) (S.fl c).1:=by
 have hs:S.list.length<2199023255552:=by have :=h.list;omega
 obtain ⟨m1,m2,m3,m4,m5⟩:=zn S c
 obtain ⟨k1,k2⟩:=h.ok.fl hr hs
 exact ⟨k1,k2.trans h.vars,by have :=h.list;omega,by rw [m1];exact h.used⟩
end Sv
theorem ql {X:List Nat} {w0:World} (w:World) (L:aQ) (S:Sv) (h:OwnX X w0 w L S) {vars V:Nat} (NM:S.Fit vars V) (g:Nat) (H:Qh) (q:Qn) (hd:At w g 63 (pL H q L.a)) (hg:g∈X)
  (A:Option Addr) (c:Nat) (hs:List Ls) (hr:iS w A hs) (hxA:∀k∈ap A,k∈X) (hxs:∀x∈hs,∀k∈ap x.A,k∈X)
  (D0:∀x∈hs,fK vars x.l=0) (hl:V+hs.length≤8388608):
  Calls Tryz.prog 14 #[.pointer (some ⟨g,0,none⟩), .slice A hs.length c] w fun e w'=>e= .returned (.tuple #[])∧∃L',L'.a=L.a∧OwnX X w0 w' L' (S.cR (hs.map (·.l)))∧Stay X w w':=by
 obtain ⟨dC,fh⟩:∃dC,S.cR (hs.map (·.l))=dC:=⟨_,rfl⟩
 rw [fh]
 obtain ⟨a,ha⟩:∃a,L.a=a:=⟨_,rfl⟩
 rw [ha] at hd⊢
 have HA0:=ae ha
 have eP:=ae fh
 have HH:=ae hr
 have abR:=ae h
 have ab7:=ae NM
 have HXA:=ae hxA
 have HXS:=ae hxs
 have Uy:=ae D0
 have HD:=ae hd
 have HG:=ae hg
 have HXL:=ae (fun k hk=>(h.fx k hk).1)
 clear h hr fh ha NM hxA hxs D0 hd hg
 go_enter Tryz.func14,Tryz.ntmps14
 go_wp2_with fail
 go_loopg [8] hs.length (fun gg IF wr=>∃(k:Nat) (L:aQ) (S:Sv),k+gg=hs.length∧IF= .int .i64 k∧al (L.a=a)∧al (OwnX X w0 wr L S)∧al (Stay X w wr)∧al (S.Fit vars (V+k))∧al (S.cR ((hs.map (·.l)).drop k)=dC))
 case atStart=>exact ⟨0,L,S,by omega,rfl,HA0,abR,Stay.of (Fr.refl _ w),ab7,eP⟩
 case round=>
  clear HA0 abR ab7 eP
  obtain ⟨k,L,S,hk,rfl,yq,Yh,zo,Xn,eP⟩:=hrel
  have HK:=ae hk
  have ly:k≤hs.length:=by omega
  clear hk
  by_cases bM:k<hs.length
  ·obtain ⟨b,o,B,d,l,hA,hx,cx,ok⟩:=HH.o.one bM
   have EX:(⟨B,d,l⟩:Ls)∈hs:=by rw [←hx.o];exact bu bM
   have e2:=zo.o.cell cx (HXA.o b (by rw [hA];simp [ap]))
   have e3:=(zo.o.at_ HD.o HG.o).cell 14
   simp [pL] at e3
   subst hA
   have NM:=Xn.o
   have Vd:=NM.vars
   have Ob:fK S.vars l=0:=by rw [Vd];exact Uy.o _ EX
   have DT:S.list.length<2199023255552:=by have :=NM.list;omega
   have KA:=Yh.o.add NM.ok B d l (Yh.o.Aw (zo.o.rd ok.1 (HXS.o _ EX)) (HXS.o _ EX)) ok.2.1 (fun h=>(ok.2.2.2 h).2) DT NM.used
   rw [Kt,yq.o,Ob] at KA
   have tZ:=EI bM
   rw [hx.o] at tZ
   have fS:=eP.o
   rw [tZ,Sv.cR] at fS
   have oG:=ae fS
   have Le:=ae (NM.add (by omega) ok.2.1)
   have KA:=ae KA
   clear NM Vd Ob DT tZ fS ok cx EX hx
   go_wp2_with fail
   refine KA.o.mono ?_
   clear KA
   rintro e w4 ⟨rfl,L4,T7,h4,s4⟩
   have SV:=ae T7
   have H4:=ae h4
   have D7:=ae (zo.o.aj s4 HXL.o)
   clear h4 T7 s4 e2 e3
   go_wp2
   go_roundg (gk-1)
   case measure=>have :=HK.o;omega
   case rel=>exact ⟨k+1,L4,_,by have :=HK.o;omega,by go_num,SV,H4,D7,Le,oG⟩
  ·obtain rfl :k=hs.length:=by omega
   have uj:al (S=dC):=by
    have :=eP.o
    rw [List.drop_of_length_le (by simp)] at this
    exact this
   clear HK eP
   go_wp2_with fail
   go_end0
   exact ⟨rfl,L,yq.o,uj.o▸Yh.o,zo.o⟩
def NvP (X:List Nat) (w0 w:World) (a:Nat) (Q:Sv→Int→Prop) (f:Bool→Bool) (e:Ending) (w':World):Prop:=∃(S':Sv) (r:Int),Q S' r∧S'.Ok 0∧e= .returned (.bool (f (r==2)))∧∃L',L'.a=a∧OwnX X w0 w' L' S'∧Stay X w w'
theorem rt {X:List Nat} {w0:World} (w:World) (L:aQ) (S:Sv) (h:OwnX X w0 w L S) (ok:S.Ok 0) (g:Nat) (H:Qh) (q:Qn) (hd:At w g 63 (pL H q L.a)) (A:Option Addr) (c:Nat) (us:List Int) (rQ:Bk w L A us) (lM:Ra us) (sI:us.length≤c) (xS:us.length≤1099511627776)
  (red:Bool) (qq:red=true→Ge) (D C:Nat) (Q:Sv→Int→Prop) (yZ:S.used<4611686018427387904) (hW:S.lE red 1099511627776 us D C Q):
  Calls Tryz.prog 30 #[.pointer (some ⟨g,0,none⟩), .slice A us.length c] w (NvP X w0 w L.a Q id):=by
 have KS:=ae (h.solve red qq ok A c us rQ lM sI xS 1099511627776 D C Q yZ hW)
 have e3:=hd.cell 14
 simp [pL] at e3
 obtain ⟨a,ha⟩:∃a,L.a=a:=⟨_,rfl⟩
 rw [ha] at KS e3⊢
 clear h ok hd rQ lM hW ha
 go_enter Tryz.func30,Tryz.ntmps30
 go_wp2_with fail
 refine KS.o.mono ?_
 clear KS
 rintro e w2 ⟨S',r,hq,tm,rfl,L',hL,h2,hs⟩
 have HQ:=ae hq
 have kM:=ae tm
 have H2:=ae h2
 have HS:=ae hs
 have HL:=ae hL
 clear hq tm h2 hs hL e3
 go_wp2
 go_ret
 exact ⟨S',r,HQ.o,kM.o,rfl,L',HL.o,H2.o,HS.o⟩
theorem Af (w:World) (A:Option Addr) (c:Nat) (hs:List Ls) (g:Nat) (cb:Array Value) (P:Nat→World→Prop) (Z:World→Prop) (eg:∀args w,(callFunc g args).run Tryz.prog w= .ok (.enter g args) w) (hl:hs.length≤17592186044416) (h0:P 0 w)
  (hr:∀k W,k<hs.length→P k W→∃b o,A=some ⟨b,o,none⟩∧W.cell? ⟨b,o+k,none⟩=some (hs[k]!).val)
  (hp:∀k W,k<hs.length→P k W→Calls Tryz.prog g (#[(hs[k]!).val]++cb) W fun e w'=>∃q,e= .returned (.bool q)∧(if q=true then Z w' else P (k+1) w')):
  Calls Tryz.prog 39 #[.slice A hs.length c, .func (.func g) #[] cb] w fun e w'=>∃n:Int,e= .returned (.int .i64 n)∧ -1≤n∧n≤17592186044416∧(if 0≤n then Z w' else P hs.length w'):=by
 have HR:=ae hr
 have HP:=ae hp
 have H0:=ae h0
 clear hr hp h0
 go_enter Tryz.func39,Tryz.ntmps39
 go_wp2_with fail
 go_loopg [8] hs.length (fun gg i wr=>∃k:Nat,k+gg=hs.length∧i= .int .i64 k∧al (P k wr))
 case atStart=>exact ⟨0,by omega,rfl,H0⟩
 case round=>
  clear H0
  obtain ⟨k,hk,rfl,HX⟩:=hrel
  have HK:=ae hk
  have ly:k≤hs.length:=by omega
  clear hk
  by_cases bM:k<hs.length
  ·obtain ⟨b,o,hA,cx⟩:=HR.o k wr bM HX.o
   subst hA
   have HC:=ae (HP.o k wr bM HX.o)
   obtain ⟨⟨B,d,l⟩,hx⟩:∃x,hs[k]! =x:=⟨_,rfl⟩
   rw [hx] at cx HC
   simp only [Ls.val] at cx HC
   clear hx
   go_wp2_with fail
   refine HC.o.mono ?_
   clear HC HX
   rintro e w2 ⟨q,rfl,hq⟩
   have HQ:=ae hq
   clear hq
   cases q with
   |true=>
    have HZ:al (Z w2):=HQ.o
    clear HQ
    go_wp2
    go_ret
    exact ⟨k,rfl,by omega,by omega,by rw [if_pos (by omega)];exact HZ.o⟩
   |false=>
    have HZ:al (P (k+1) w2):=HQ.o
    clear HQ
    go_wp2
    go_roundg (gk-1)
    case measure=>have :=HK.o;omega
    case rel=>exact ⟨k+1,by have :=HK.o;omega,by go_num,HZ⟩
  ·obtain rfl :k=hs.length:=by omega
   clear HK
   go_wp2
   go_ret
   exact ⟨-1,rfl,by omega,by omega,by rw [if_neg (by omega)];exact HX.o⟩
theorem ud (w:World) (A:Option Addr) (c:Nat) (hs:List Ls) (g:Nat) (cb:Array Value) (P:Nat→World→Prop) (Z:World→Prop) (eg:∀args w,(callFunc g args).run Tryz.prog w= .ok (.enter g args) w) (hl:hs.length≤17592186044416) (h0:P 0 w)
  (hr:∀k W,k<hs.length→P k W→∃b o,A=some ⟨b,o,none⟩∧W.cell? ⟨b,o+k,none⟩=some (hs[k]!).val)
  (hp:∀k W,k<hs.length→P k W→Calls Tryz.prog g (#[(hs[k]!).val]++cb) W fun e w'=>∃q,e= .returned (.bool q)∧(if q=true then Z w' else P (k+1) w')):
  Calls Tryz.prog 22 #[.slice A hs.length c, .func (.func g) #[] cb] w fun e w'=>∃q,e= .returned (.bool q)∧(if q=true then Z w' else P hs.length w'):=by
 have HC:=ae (Af w A c hs g cb P Z eg hl h0 hr hp)
 clear h0 hr hp
 go_enter Tryz.func22,Tryz.ntmps22
 go_wp2_with fail
 refine HC.o.mono ?_
 rintro e w2 ⟨n,rfl,h1,h2,h3⟩
 have H3:=ae h3
 clear h3
 go_wp2
 go_ret
 refine ⟨decide (0≤n),rfl,?_⟩
 have :=H3.o
 by_cases h4:0≤n
 ·rw [if_pos h4] at this
  rw [if_pos (by simpa using h4)]
  exact this
 ·rw [if_neg h4] at this
  rw [if_neg (by simpa using h4)]
  exact this
theorem ww:∀args w,(callFunc 29 args).run Tryz.prog w= .ok (.enter 29 args) w:=enters_of Tryz.func29 (by kernel_rfl) rfl
theorem Ints.Wy {w:World} {A:Option Addr} {c:Nat} {xs:List Int} (hi:Ints w A c xs):xs.length≤c:=by
 rcases hi.form with ⟨_,h1,h2⟩ |⟨g,_,_,h2,_⟩
 ·rw [h2];exact bH _
 ·exact h2
theorem wH {X:List Nat} {w0:World} (w:World) (L:aQ) (S:Sv) (h:OwnX X w0 w L S) (ok:S.Ok 0) (g:Nat) (H:Qh) (q:Qn) (hd:At w g 63 (pL H q L.a)) (hg:g∈X) (p:Nat) (hp:w.cell? ⟨p,0,none⟩=some (.pointer (some ⟨g,0,none⟩)))
  (A:Option Addr) (c:Nat) (l:List Int) (hr:Rd w A l) (TK:∀x∈l,-1000000≤x∧x≤1000000) (hl:l.length≤1048576)
  (red:Bool) (qq:red=true→Ge) (D C:Nat) (Q:Sv→Int→Prop) (yZ:S.used<4611686018427387904) (hW:S.lE red 1099511627776 (l.map fun x=> -x) D C Q):
  Calls Tryz.prog 29 #[.slice A l.length c, .pointer (some ⟨p,0,none⟩)] w (NvP X w0 w L.a Q not):=by
 have HP:=ae hp
 have KNT:=ae (fun W (hW:Fr [] w W)=>FT W A c l (hr.keep hW) TK hl)
 have HXW:=ae (fun k hk=>(h.fx k hk).1)
 have WP:al (∀W2,Fr [] w W2→∀A3 c3,Ints W2 A3 c3 (l.map fun x=> -x)→(∀k,k∈ap A3→w.heap.size≤k)→Calls Tryz.prog 30 #[.pointer (some ⟨g,0,none⟩), .slice A3 l.length c3] W2 (NvP X w0 w L.a Q id)):=fun W2 hf A3 c3 hi hn=>by
  have hm:=h.more hf (Y:=ap A3) (fun k hk=>⟨hn k hk,hi.lt k hk⟩)
  have rl:=hf.at_ hd (by simp)
  have hlen:(l.map fun x=> -x).length=l.length:=aq ..
  have lM:Ra (l.map fun x=> -x):=(dW (p:=dY)).2 fun x hx=>by
   obtain ⟨y,hy,rfl⟩:=az.1 hx
   have :=TK y hy
   exact ⟨by omega,by omega⟩
  have hc:=rt W2 (L.shut w) S hm ok g H q rl A3 c3 (l.map fun x=> -x) (hm.Aw hi.rd (fun k hk=>aM _ hk)) lM hi.Wy (by rw [hlen];omega) red qq D C Q yZ hW
  rw [hlen] at hc
  refine hc.mono ?_
  rintro e w4 ⟨S',r,k1,k2,k3,L',k4,k5,k6⟩
  exact ⟨S',r,k1,k2,k3,L',k4,k5.less (fun k hk=>ak _ hk),(Stay.of hf).aj (k6.less (fun k hk=>ak _ hk)) (fun k hk=>(h.fx k hk).1)⟩
 obtain ⟨a,ha⟩:∃a,L.a=a:=⟨_,rfl⟩
 rw [ha] at WP⊢
 clear h ok hd hg hp hr TK hW ha
 go_enter Tryz.func29,Tryz.ntmps29
 go_upto_region 1 with fail
 refine wp_region_noPanic ?_
 refine bp (fun w':World=>Fr [] w w') 3 (by kernel_rfl) ((Fr.refl _ w).drew) (fun db=> ?_)
 refine pf 2 [(0,[0,3]),(1,[])] db (fun w cm=>cm.aT HP.o) ?_;intro db
 refine R2 2 db fun K hK aH=> ?_
 (go_simp;refine (KNT.o _ aH).mono ?_;rintro e w3 ⟨A3,c3,rfl,TT,CF,dD⟩;dsimp only);have Gy:=ae TT;have mv:=ae CF;have cZ:=ae dD;clear TT CF dD
 refine hK.out _ _ (.inr ?_) (fun hT3=> ?_)
 ·first |exact aH.aj cZ.o |exact aH
 clear hK K
 try simp only [Act.put,q5,q6,q7]
 refine R2 3 hT3 fun K hK aH=> ?_
 (go_simp;refine (WP.o _ aH _ _ Gy.o mv.o).mono ?_;rintro e w4 ⟨S',r,hq,tm,rfl,L',hL,h4,LC⟩;dsimp only)
 refine hK.out _ _ (.inl rfl) (fun Hy=> ?_)
 clear hK K
 try simp only [Act.put,q5,q6,q7]
 refine TB 1 [(4,[])] Hy ?_;intro Hy
 refine R1 (i:=5) (o:= ?aiB) (by kernel_rfl) (by rfl) ?_
 intro K hK
 go_simp
 refine hK.out _ _ (.inl rfl) (fun LU=> ?_)
 clear hK K
 try simp only [Act.put,q5,q6,q7]
 refine fo ?_
 have HQ:=ae hq
 have kM:=ae tm
 have HL:=ae hL
 have H4:=ae h4
 have D7:=ae LC
 clear hq tm hL h4 LC
 go_wp2
 go_ret
 exact ⟨S',r,HQ.o,kM.o,rfl,L',HL.o,H4.o,D7.o⟩
def AY (us:List Int) (I J Z:Sv→Prop):Prop:=∀S,I S→S.used<4611686018427387904∧∃(red:Bool) (_:red=true→Ge) (D C:Nat) (Q:Sv→Int→Prop),S.lE red 1099511627776 us D C Q∧∀S' r,Q S' r→if r=2 then J S' else Z S'
def FoP (X:List Nat) (w0 w:World) (a:Nat) (J Z:Sv→Prop) (e:Ending) (w':World):Prop:=∃(S':Sv) (b:Bool),e= .returned (.bool b)∧S'.Ok 0∧(if b=true then J S' else Z S')∧∃L',L'.a=a∧OwnX X w0 w' L' S'∧Stay X w w'
theorem kJ {X:List Nat} {w0:World} (w:World) (L:aQ) (S:Sv) (h:OwnX X w0 w L S) (ok:S.Ok 0) (g:Nat) (H:Qh) (q:Qn) (hd:At w g 63 (pL H q L.a)) (hg:g∈X) (nJ:iy w H.H q.C) (hv:Valid q.C) (f:Int) (hf:0≤f∧f≤80)
  (A:Option Addr) (c:Nat) (ls:List Ls) (hr:iS w A ls) (hl:∀x∈ls,fC q.C x.l) (hn:ls.length≤1024) (I:Nat→Sv→Prop) (Z:Sv→Prop) (h0:I 0 S) (hI:∀k,k<ls.length→AY (((ls[k]!).l.map (iN q.C f)).map fun x=> -x) (I k) (I (k+1)) Z):
  Calls Tryz.prog 16 #[.pointer (some ⟨g,0,none⟩), .slice A ls.length c, .int .i64 f] w (FoP X w0 w L.a (I ls.length) Z):=by
 obtain ⟨w1,dO⟩:∃W,w.alloc (.cells #[.pointer (some ⟨g,0,none⟩)] 47)=W:=⟨_,rfl⟩
 have cU:Fr [] w w1:=dO▸aN _ _
 have hp1:w1.cell? ⟨w.heap.size,0,none⟩=some (.pointer (some ⟨g,0,none⟩)):=by
  rw [←dO]
  exact (At.new w 47 #[.pointer (some ⟨g,0,none⟩)]).cell 0
 have nH:w1.heap.size=w.heap.size+1:=by rw [←dO];simp
 obtain ⟨a,ha⟩:∃a,L.a=a:=⟨_,rfl⟩
 have Bl:=ae (sL w1 g L.a H q (cU.at_ hd (by simp)) (nJ.keep cU) hv f hf A c ls (hr.keep cU) hl hn)
 have HXW:=ae (fun k hk=>(h.fx k hk).1)
 have KCF:al (∀W A2 c2 (hs:List Ls),Fr [] w1 W→NwLs W w1.heap.size A2 c2 hs→hs.map (·.l)=(ls.map (·.l)).map (fun l=>l.map (iN q.C f))→Calls Tryz.prog 22 #[.slice A2 hs.length c2, .func (.func 29) #[] #[.pointer (some ⟨w.heap.size,0,none⟩)]] W fun e w'=>∃q,e= .returned (.bool q)∧∃S':Sv,S'.Ok 0∧(if q=true then Z S' else I ls.length S')∧∃L',L'.a=L.a∧OwnX X w0 w' L' S'∧Stay X w w'):=fun W A2 c2 hs hW Z9 hm=>by
  have hWw:Fr [] w W:=cU.aj hW
  have hlen:hs.length=ls.length:=by
   have :=congrArg List.length hm
   simpa using this
  obtain ⟨Y,hY⟩:∃Y:List Nat,Y=w.heap.size::yw A2 hs:=⟨_,rfl⟩
  have Ho:=h.more hWw (Y:=Y) (fun k hk=>by
   rw [hY] at hk
   rcases av.1 hk with rfl |hk
   ·exact ⟨au _,by have :=hW.size;omega⟩
   ·have :=Z9.marks k hk
    omega)
  have key:∀k,k<hs.length→(hs[k]!).l=(ls[k]!).l.map (iN q.C f):=fun k hk=>by
   have :=congrArg (fun x:List (List Int)=>x[k]?) hm
   simp only [aO,af hk,af (show k<ls.length by omega),cu,Option.some.injEq] at this
   rw [aa,aa,af hk,af (show k<ls.length by omega),ay,ay]
   exact this
  have hc:=ud W A2 c2 hs 29 #[.pointer (some ⟨w.heap.size,0,none⟩)]
   (fun k W'=>∃S':Sv,S'.Ok 0∧I k S'∧∃L',L'.a=L.a∧OwnX (X++Y) w0 W' L' S'∧Stay (X++Y) W W')
   (fun W'=>∃S':Sv,S'.Ok 0∧Z S'∧∃L',L'.a=L.a∧OwnX (X++Y) w0 W' L' S'∧Stay (X++Y) W W') ww (by omega) ⟨S,ok,h0,L.shut w,rfl,Ho,Stay.of (Fr.refl _ _)⟩
   (fun k W' hk ⟨S',_,_,L',_,_,mg⟩=>by
    obtain ⟨b,o,hA,hc⟩:=Z9.Ew.1 (by omega)
    exact ⟨b,o,hA,mg.cell (hc k hk) (by rw [hY,hA];simp [yw,ap])⟩)
   (fun k W' hk ⟨S',XI,hI',L',Wp,Z8,mg⟩=>by
    have nI:k<ls.length:=by omega
    have EX:hs[k]! ∈hs:=bu hk
    have jL:=hl _ (bu nI)
    obtain ⟨u1,red,qq,D,C,Q,Oj,hQ⟩:=hI k nI S' hI'
    have rQ:=(Z9.Ew.2 k hk).1
    have xV:∀x∈(hs[k]!).l,-1000000≤x∧x≤1000000:=fun x hx=>by
     rw [key k hk] at hx
     obtain ⟨y,hy,rfl⟩:=az.1 hx
     exact uD hv (by omega) (jL.2 y hy)
    have sD:(hs[k]!).l.length≤1048576:=by rw [key k hk,aq];have :=jL.1;omega
    have afH:=wH W' L' S' Z8 XI g H q (by rw [Wp];exact mg.at_ (hWw.at_ hd (by simp)) (ak _ hg)) (ak _ hg) w.heap.size (mg.cell (hW.aT hp1) (by rw [hY];simp)) (hs[k]!).A (hs[k]!).c (hs[k]!).l (mg.rd rQ (fun j hj=>aM _ (by rw [hY];exact aP _ (aM _ (lS.2 ⟨_,EX,hj⟩))))) xV sD red qq D C Q u1 (by rw [key k hk];exact Oj)
    refine afH.mono ?_
    rintro e W2 ⟨S2,r,k1,k2,rfl,L2,k3,k4,k5⟩
    have Q1:=mg.aj k5 (fun j hj=>(Ho.fx j hj).1)
    have hq:=hQ S2 r k1
    refine ⟨!(r==2),rfl,?_⟩
    by_cases h2:r=2
    ·rw [if_pos h2] at hq
     rw [if_neg (by simp [h2])]
     exact ⟨S2,k2,hq,L2,k3.trans Wp,k4,Q1⟩
    ·rw [if_neg h2] at hq
     rw [if_pos (by simpa using h2)]
     exact ⟨S2,k2,hq,L2,k3.trans Wp,k4,Q1⟩)
  have fin:∀{W':World} {L':aQ} {S':Sv},OwnX (X++Y) w0 W' L' S'→Stay (X++Y) W W'→OwnX X w0 W' L' S'∧Stay X w W':=fun h1 h2=>
   ⟨h1.less (fun k hk=>ak _ hk),(Stay.of hWw).aj (h2.less (fun k hk=>ak _ hk)) HXW.o⟩
  refine hc.mono ?_
  rintro e W' ⟨q,rfl,hq⟩
  refine ⟨q,rfl,?_⟩
  cases q with
  |true=>
   obtain ⟨S',k1,k2,L',k3,k4,k5⟩:=hq
   exact ⟨S',k1,k2,L',k3,fin k4 k5⟩
  |false=>
   obtain ⟨S',k1,k2,L',k3,k4,k5⟩:=hq
   exact ⟨S',k1,by rw [←hlen];exact k2,L',k3,fin k4 k5⟩
 rw [ha] at KCF⊢
 clear h ok hd hg nJ hv hr hl h0 hI cU ha
 go_enter Tryz.func16,Tryz.ntmps16
 go_wp2_with fail
 refine Bl.o.mono ?_
 clear Bl
 rintro e w2 ⟨A2,c2,hs,rfl,ot,pF,bZ⟩
 have KC2:=ae (KCF.o w2 A2 c2 hs bZ ot pF)
 clear KCF ot pF bZ
 go_wp2_with fail
 refine KC2.o.mono ?_
 clear KC2
 rintro e w3 ⟨b,rfl,S',k1,k2,L',k3,k4,k5⟩
 have K1:=ae k1
 have K2:=ae k2
 have K3:=ae k3
 have K4:=ae k4
 have K5:=ae k5
 clear k1 k2 k3 k4 k5
 go_wp2
 go_ret
 refine ⟨S', !b,rfl,K1.o,?_,L',K3.o,K4.o,K5.o⟩
 have :=K2.o
 cases b
 ·exact this
 ·exact this
namespace Sv
variable {few:Prop} {W:List (List Int)}
theorem iq.cR {vars U:Nat}:∀{ls:List (List Int)} {S:Sv} {F:(Nat→Bool)→Prop} {V:Nat},iq few W F vars U V S→V+ls.length≤8388608→(∀c∈ls,Ra c∧fK vars c=0∧(few→c∈W))→iq few W (fun a=>F a∧∀c∈ls,kV a c) vars U (V+ls.length) (S.cR ls)
 |[],S,F,V,h,_,_=>h.iff fun a=>⟨fun ha=>⟨ha,fun c hc=>by cases hc⟩,fun ha=>ha.1⟩
 |c::r,S,F,V,h,hl,hc=>by
  obtain ⟨h1,h2,h3⟩:=hc c aY
  simp only [bO] at hl⊢
  have vQ:=h.list
  have hk:=iq.cR (h.fl h1 (by omega) (by rw [h.vars];exact h2) h3) (by omega:V+1+r.length≤_) (fun d hd=>hc d (aP _ hd))
  rw [show V+(r.length+1)=V+1+r.length by omega]
  refine hk.iff fun a=>⟨fun ⟨⟨h3,h4⟩,h5⟩=>⟨h3,fun d hd=> ?_⟩,fun ⟨h3,h4⟩=>⟨⟨h3,h4 c aY⟩,fun d hd=>h4 d (aP _ hd)⟩⟩
  rcases av.1 hd with rfl |hd
  ·exact h4
  ·exact h5 d hd
end Sv
def vw (s:List UInt8) (n:Int):Bool:=decide (1≤tv n)&&decide (tv n≤s.length)&&((s[(tv n-1).toNat]! ==49)==decide (0<n))
def inS (l:List (List Int)) (s:List UInt8):Bool:=l.all fun c=>c.any (vw s)
def yj:Nat→List (List UInt8)
 |0=>[[]]
 |n+1=>(yj n).flatMap fun s=>[s++[48],s++[49]]
theorem B9:∀{n:Nat} {s:List UInt8},s∈yj n→s.length=n
 |0,s,h=>by
  rw [yj,ah] at h
  rw [h];rfl
 |n+1,s,h=>by
  rw [yj,lS] at h
  obtain ⟨t,ht,h⟩:=h
  have :=B9 ht
  simp only [av,cK,or_false] at h
  rcases h with rfl |rfl <;>simp [this]
theorem Ip (f:Nat→Bool):∀n:Nat,((List.range n).map fun i=>if f i=true then (49:UInt8) else 48)∈yj n
 |0=>by simp [yj]
 |n+1=>by
  rw [yj,lS]
  refine ⟨_,Ip f n,?_⟩
  rw [List.range_succ,bJ]
  simp only [cM,dU]
  split<;>simp
def nh (C:Pc) (i:Nat):Nat:=((C.bi[i]!).a/2+1).toNat
def Yp (C:Pc) (a:Nat→Bool) (s:List UInt8):Prop:=s.length=C.bi.length∧∀i:Nat,i<C.bi.length→(s[i]! =49↔a (nh C i)=true)
theorem MX {C:Pc} (hv:Valid C) {i j:Nat} (hi:i<C.bi.length) (hj:j<C.bi.length) (h:nh C i=nh C j):i=j:=by
 have key:∀i j:Nat,i<j→j<C.bi.length→nh C i≠nh C j:=fun i j JQ hj h=>by
  have h1:=gv hv i (by omega)
  have h2:=gv hv j hj
  unfold nh at h
  have e:(C.bi[i]!).a=(C.bi[j]!).a:=by omega
  have hl:(cD C).length=C.ins.length+C.bi.length+C.aG.length:=by simp [cD];omega
  have ho:=hv.own (C.ins.length+j) (by omega)
  unfold kR at ho
  simp only [aD,Bool.not_eq_true',decide_eq_false_iff_not] at ho
  have get:∀k:Nat,k<C.bi.length→(cD C)[C.ins.length+k]? =some (C.bi[k]!).a:=fun k hk=>by
   unfold cD
   rw [js,gm (by omega),Nat.add_sub_cancel_left,cW (by simpa using hk),aO,af hk,aa,af hk]
   rfl
  refine ho.2 ?_
  rw [aa,get j hj,ay,←e,List.mem_iff_getElem?]
  exact ⟨C.ins.length+i,by rw [List.getElem?_take,if_pos (by omega),get i (by omega)]⟩
 rcases Nat.lt_trichotomy i j with h1 |h1 |h1
 ·exact absurd h (key i j h1 hj)
 ·exact h1
 ·exact absurd h.symm (key j i h1 hi)
theorem Kr {C:Pc} (a:Nat→Bool):∃s∈yj C.bi.length,Yp C a s:=by
 refine ⟨_,Ip (fun i=>a (nh C i)) C.bi.length,by simp,fun i hi=> ?_⟩
 rw [aa,aO,List.getElem?_range hi]
 simp only [cu,ay]
 split
 ·rename_i h;simp [h]
 ·rename_i h;simp [h]
theorem WF {C:Pc} (hv:Valid C) {s:List UInt8} (h:s∈yj C.bi.length):∃a,Yp C a s:=by
 refine ⟨fun v=>(List.range C.bi.length).any fun i=>decide (nh C i=v)&&s[i]! ==49,B9 h,fun i hi=>⟨fun h1=> ?_,fun h1=> ?_⟩⟩
 ·exact bI.2 ⟨i,df.2 hi,by simp [h1]⟩
 ·obtain ⟨j,hj,h2⟩:=bI.1 h1
  rw [aD,decide_eq_true_eq] at h2
  have :=MX hv (df.1 hj) hi h2.1
  rw [←this]
  simpa using h2.2
theorem M1 {C:Pc} (hv:Valid C) {n:Int} (hn:n≠0∧ -(C.bi.length:Int)≤n∧n≤C.bi.length):iN C 0 n=if n<0 then -((nh C (tv n-1).toNat:Nat):Int) else ((nh C (tv n-1).toNat:Nat):Int):=by
 have NL:=hv.l
 have ht:1≤tv n∧tv n≤C.bi.length:=by unfold tv;omega
 obtain ⟨i,hi⟩:∃i:Nat,tv n=i+1:=⟨(tv n-1).toNat,by omega⟩
 have e1:(tv n-1).toNat=i:=by omega
 have hp:=gv hv i (by omega)
 have hb:eZ C 0=0:=by unfold eZ;exact Int.zero_mul _
 have e2:dv 0 (C.bi[i]!).a=((nh C i:Nat):Int):=by
  unfold dv nh
  rw [if_neg (by omega)]
  omega
 unfold iN
 rw [hb,e1]
 by_cases sC:n<0
 ·rw [if_pos sC,if_pos sC,show (-n-1).toNat=i by unfold tv at e1;omega,e2]
 ·rw [if_neg sC,if_neg sC,show (n-1).toNat=i by unfold tv at e1;omega,e2]
theorem Hb {C:Pc} (hv:Valid C) {a:Nat→Bool} {s:List UInt8} (h:Yp C a s) {n:Int} (hn:n≠0∧ -(C.bi.length:Int)≤n∧n≤C.bi.length):vw s n=true↔pe a (iN C 0 n):=by
 have NL:=hv.l
 have ht:1≤tv n∧tv n≤C.bi.length:=by unfold tv;omega
 obtain ⟨i,hi⟩:∃i:Nat,tv n=i+1:=⟨(tv n-1).toNat,by omega⟩
 have tp:i<C.bi.length:=by omega
 have e1:(tv n-1).toNat=i:=by omega
 have hs:=h.2 i tp
 have hp:=gv hv i tp
 have hl:iN C 0 n=if n<0 then -((nh C i:Nat):Int) else ((nh C i:Nat):Int):=by
  have :=M1 hv hn
  rw [e1] at this
  exact this
 have hlp:0<nh C i:=by unfold nh;omega
 unfold vw pe
 rw [e1,hl,decide_eq_true ht.1,decide_eq_true (by rw [h.1];exact ht.2:tv n≤s.length),Bool.true_and,Bool.true_and,beq_iff_eq]
 by_cases sC:n<0
 ·rw [if_pos sC,Int.natAbs_neg,Int.natAbs_natCast,decide_eq_false (by omega),beq_eq_false_iff_ne]
  have :¬(0:Int)< -((nh C i:Nat):Int):=by omega
  simp only [this,iff_false,ne_eq,hs]
 ·rw [if_neg sC,Int.natAbs_natCast,decide_eq_true (by omega),beq_iff_eq]
  have :(0:Int)<((nh C i:Nat):Int):=by omega
  simp only [this,iff_true,hs]
theorem AQ {C:Pc} (hv:Valid C) {a:Nat→Bool} {s:List UInt8} (h:Yp C a s) {c:List Int} (hc:fC C c):c.any (vw s)=true↔kV a (c.map (iN C 0)):=by
 rw [bI]
 refine ⟨fun ⟨n,hn,h1⟩=>⟨_,az.2 ⟨n,hn,rfl⟩,(Hb hv h (hc.2 n hn)).1 h1⟩,fun ⟨y,hy,h1⟩=> ?_⟩
 obtain ⟨n,hn,rfl⟩:=az.1 hy
 exact ⟨n,hn,(Hb hv h (hc.2 n hn)).2 h1⟩
def jV (C:Pc) (ls:List (List Int)) (x:List Int):Bool:=(yj C.bi.length).all fun s=> !inS ls s ||x.any (vw s)
theorem Jy {few:Prop} {C:Pc} (hv:Valid C) {ls:List (List Int)} {x:List Int} (jK:∀c∈ls,fC C c) (hx:fC C x) {vars:Nat} {S:Sv} {r:Int} (hr:few)
  (h:Sv.Th few ((x.map (iN C 0)).map fun y=> -y) (fun a=>∀c∈ls.map (fun l=>l.map (iN C 0)),kV a c) vars S r):(r==2)=jV C ls x:=by
 have hF:∀a s,Yp C a s→((∀c∈ls.map (fun l=>l.map (iN C 0)),kV a c)↔inS ls s=true):=fun a s hs=>by
  unfold inS
  rw [kO]
  exact ⟨fun h c hc=>(AQ hv hs (jK c hc)).2 (h _ (az.2 ⟨c,hc,rfl⟩)),fun h c hc=>by
   obtain ⟨d,hd,rfl⟩:=az.1 hc
   exact (AQ hv hs (jK d hd)).1 (h d hd)⟩
 have hU:∀a s,Yp C a s→((∀u∈(x.map (iN C 0)).map (fun y=> -y),pe a u)↔¬x.any (vw s)=true):=fun a s hs=>by
  rw [AQ hv hs hx]
  refine ⟨fun h ⟨y,hy,ht⟩=> ?_,fun h u hu=> ?_⟩
  ·have :=h (-y) (az.2 ⟨y,hy,rfl⟩)
   obtain ⟨n,hn,rfl⟩:=az.1 hy
   rw [pe.neg ((su hv (f:=0) (by omega) (hx.2 n hn)).1)] at this
   exact this ht
  ·obtain ⟨y,hy,rfl⟩:=az.1 hu
   obtain ⟨n,hn,rfl⟩:=az.1 hy
   rw [pe.neg ((su hv (f:=0) (by omega) (hx.2 n hn)).1)]
   exact fun ht=>h ⟨_,hy,ht⟩
 unfold jV
 rcases h with ⟨_,_,h3⟩ |⟨rfl,_,_,hm,ha⟩ |⟨rfl,_,oq,Cr,_⟩
 ·exact absurd hr h3
 ·obtain ⟨k1,k2⟩:=ha (fun v=>S.model[v]!) (fun v _ _=>rfl)
  obtain ⟨s,hs,hag⟩:=Kr (C:=C) (fun v=>S.model[v]!)
  symm
  rw [show ((1:Int)==2)=false from rfl,List.all_eq_false]
  refine ⟨s,hs,?_⟩
  rw [(hF _ s hag).1 k1,Bool.eq_false_iff.2 ((hU _ s hag).1 k2)]
  simp
 ·symm
  rw [show ((2:Int)==2)=true from rfl,kO]
  intro s hs
  obtain ⟨a,hag⟩:=WF hv hs
  by_cases h1:inS ls s=true
  ·rw [h1,Bool.not_true,Bool.false_or]
   by_cases h2:x.any (vw s)=true
   ·exact h2
   ·exact absurd (fun u hu=>(hU a s hag).2 h2 u (Cr u hu)) (oq a ((hF a s hag).2 h1))
  ·rw [Bool.eq_false_iff.2 h1];rfl
structure yl where
  A:Option Addr
  c:Nat
  hs:List Ls
instance:Inhabited yl:=⟨⟨none,0,[]⟩⟩
def yl.val (x:yl):Value:= .slice x.A x.hs.length x.c
def yl.cl (x:yl):List (List Int):=x.hs.map (·.l)
structure AS (w:World) (A:Option Addr) (xs:List yl):Prop where
  cells:0<xs.length→∃b o,A=some ⟨b,o,none⟩∧∀j:Nat,j<xs.length→w.cell? ⟨b,o+j,none⟩=some (xs[j]!).val
  rd:∀x∈xs,iS w x.A x.hs
  old:∀x∈xs,∀k∈yw x.A x.hs,k<w.heap.size
theorem AS.keep {w w':World} {A:Option Addr} {xs:List yl} (h:AS w A xs) (hf:Fr [] w w'):AS w' A xs:=
  ⟨fun h0=>by
    obtain ⟨b,o,hA,hc⟩:=h.cells h0
    exact ⟨b,o,hA,fun j hj=>hf.aT (hc j hj)⟩,fun x hx=>(h.rd x hx).keep hf,fun x hx k hk=>aK (h.old x hx k hk) hf.size⟩
theorem AS.nil (w:World) (A:Option Addr):AS w A []:=⟨fun h=>absurd h (Nat.lt_irrefl _),(fun x hx=>(by cases hx)),(fun x hx=>(by cases hx))⟩
theorem drop_cons {α:Type} [Inhabited α] {xs:List α} {k:Nat} (h:k<xs.length):xs.drop k=xs[k]! ::xs.drop (k+1):=by
  rw [List.drop_eq_getElem_cons h,aa,af h]
  rfl
theorem Sv.Fit.cR {vars:Nat}:∀{ls:List (List Int)} {S:Sv} {V:Nat},S.Fit vars V→V+ls.length≤8388608→(∀c∈ls,Ra c)→(S.cR ls).Fit vars (V+ls.length)
  |[],S,V,h,_,_=>h
  |c::r,S,V,h,hl,hr=>by
    simp only [bO] at hl⊢
    have :=Sv.Fit.cR (h.add (by omega) (hr c aY)) (by omega:V+1+r.length≤_) (fun d hd=>hr d (aP _ hd))
    rw [show V+(r.length+1)=V+1+r.length by omega]
    exact this
theorem Sv.Fit.new {b:Int} (h0:0≤b) (h1:b≤262143):(Sv.new b).Fit b.toNat 0:=by
  obtain ⟨k1,k2⟩:=Sv.Ok.new b
  obtain ⟨_,_,_,_,i5,i6,_⟩:=Sv.Inv.new b
  exact ⟨k1,by rw [k2];omega,by rw [i5];exact au _,by rw [i6];exact bH _⟩
theorem OwnX.yv {X:List Nat} {w w1 w2:World} {L:aQ} {S:Sv} (h:OwnX X w1 w2 L S) (hf:Fr [] w w1):OwnX X w w2 L S:=⟨h.own.old hf,h.fx⟩
theorem Stay.Ew {X:List Nat} {w w':World} (h:Stay X w w') {A:Option Addr} {hs:List Ls} (hr:iS w A hs) (hx:∀k∈yw A hs,k∈X):iS w' A hs:=
  ⟨fun h0=>by
    obtain ⟨b,o,hA,hc⟩:=hr.1 h0
    exact ⟨b,o,hA,fun j hj=>h.cell (hc j hj) (hx _ (by rw [hA];simp [yw,ap]))⟩,
   fun j hj=>⟨h.rd (hr.2 j hj).1 (fun k hk=>hx k (aM _ (lS.2 ⟨_,bu hj,hk⟩))),(hr.2 j hj).2⟩⟩
theorem gD {w:World} {g:Nat} {H:Qh} {q:Qn} (h:At w g 30 (jR H q)):
    w.cell? ⟨g,0,none⟩=some (.int .i64 q.C.mx)∧w.cell? ⟨g,1,none⟩=some (.slice H.H.iA q.C.ins.length H.H.iC)∧w.cell? ⟨g,2,none⟩=some (.slice H.H.lA q.C.bi.length H.H.lC)∧w.cell? ⟨g,3,none⟩=some (.slice H.H.oA q.C.outs.length H.H.oC)∧
    w.cell? ⟨g,4,none⟩=some (.slice H.H.bA q.C.a8.length H.H.bC)∧w.cell? ⟨g,5,none⟩=some (.slice H.H.vA q.C.aZ.length H.H.vC)∧w.cell? ⟨g,6,none⟩=some (.slice H.H.gA q.C.aG.length H.H.gC)∧w.cell? ⟨g,7,none⟩=some (.slice H.H.nA q.C.b8.length H.H.nC)∧
    w.cell? ⟨g,8,none⟩=some (.slice H.aA q.am.length H.aC)∧w.cell? ⟨g,9,none⟩=some (.slice H.lA q.ls.length H.lC)∧w.cell? ⟨g,10,none⟩=some (.slice H.kA q.ks.length H.kC)∧
    w.cell? ⟨g,11,none⟩=some (.int .i64 q.bad)∧w.cell? ⟨g,12,none⟩=some (.int .i64 q.dep)∧w.cell? ⟨g,13,none⟩=some (.int .i64 q.xG):=by
  refine ⟨?_,?_,?_,?_,?_,?_,?_,?_,?_,?_,?_,?_,?_,?_⟩<;>(rw [h.cell];rfl)
def DlP (w:World) (H:Qh) (q:Qn) (S:Sv) (e:Ending) (w':World):Prop:=
  ∃(g:Nat) (L:aQ),e= .returned (.pointer (some ⟨g,0,none⟩))∧w.heap.size≤g∧At w' g 63 (pL H q L.a)∧OwnX [g] w w' L S
theorem oD (w:World) (H:Qh) (q:Qn) (nJ:iy w H.H q.C) (hv:Valid q.C) (A:Option Addr) (c:Nat) (xs:List yl) (hx:AS w A xs) (hA:∀k∈ap A,k<w.heap.size) (Lx:xs.length≤1024) (lM:∀l∈xs.flatMap yl.cl,Ra l∧fK (eZ q.C 2).toNat l=0) (hl:(xs.flatMap yl.cl).length≤8388608):
    Calls Tryz.prog 13 #[jv H q, .slice A xs.length c] w (DlP w H q ((Sv.new (eZ q.C 2)).cR (xs.flatMap yl.cl))):=by
  obtain ⟨w1,dO⟩:∃W,w.alloc (.cells (jR H q) 30)=W:=⟨_,rfl⟩
  have cU:Fr [] w w1:=dO▸aN _ _
  have dy:=ae cU
  have lQ:al (At w1 w.heap.size 30 (jR H q)):=dO▸At.new _ _ _
  have h0:=uN hv.m0 (f:=2) (by omega)
  have hb:eZ q.C 2≤262143:=by
    have h1:=hv.m1
    unfold eZ
    omega
  have KV:=ae (fun W (hW:Fr [] w1 W)=>BC W H.H q.C (nJ.keep (cU.aj hW)) hv 2 (by omega))
  have KN:=ae (fun W=>QE W (eZ q.C 2) (by omega) (by omega))
  have up:=ae (Sv.Fit.new h0 hb)
  obtain ⟨dC,fh⟩:∃dC,(Sv.new (eZ q.C 2)).cR (xs.flatMap yl.cl)=dC:=⟨_,rfl⟩
  rw [fh]
  have eP:=ae fh
  obtain ⟨ba,hba⟩:∃ba,eZ q.C 2=ba:=⟨_,rfl⟩
  simp only [hba] at KV KN up eP
  obtain ⟨SN,hSN⟩:∃SN,Sv.new ba=SN:=⟨_,rfl⟩
  simp only [hSN] at KN up eP
  rw [hba] at lM
  have HX:=ae hx
  have HA:=ae hA
  have nv:=ae lM
  have HL:=ae hl
  obtain ⟨LP,hLP⟩:∃LP,DlP w H q dC=LP:=⟨_,rfl⟩
  rw [hLP]
  have mF:al (∀(W:World) (g:Nat) (L:aQ),w.heap.size≤g→At W g 63 (pL H q L.a)→OwnX [g] w W L dC→LP (.returned (.pointer (some ⟨g,0,none⟩))) W):=fun W g L k1 k2 k3=>by
    rw [←hLP]
    exact ⟨g,L,rfl,k1,k2,k3⟩
  have DAL:al (∀(X:List Nat) (W:World) (L:aQ) (S:Sv) (V g:Nat),OwnX X w W L S→S.Fit ba.toNat V→At W g 63 (pL H q L.a)→g∈X→∀x:yl,iS W x.A x.hs→(∀k∈yw x.A x.hs,k∈X)→(∀l∈x.cl,fK ba.toNat l=0)→V+x.hs.length≤8388608→Calls Tryz.prog 14 #[.pointer (some ⟨g,0,none⟩), .slice x.A x.hs.length x.c] W fun e w'=>e= .returned (.tuple #[])∧∃L',L'.a=L.a∧OwnX X w w' L' (S.cR x.cl)∧Stay X W w'):=fun X W L S V g k1 k2 k3 k4 x k5 k6 k7 k8=>
    ql W L S k1 k2 g H q k3 k4 x.A x.c x.hs k5 (fun k hk=>k6 k (ak _ hk)) (fun y hy k hk=>k6 k (aM _ (lS.2 ⟨y,hy,hk⟩))) (fun y hy=>k7 _ (az.2 ⟨y,hy,rfl⟩)) k8
  have DV:al (∀a,pL H q a=#[.int .i64 q.C.mx, .slice H.H.iA q.C.ins.length H.H.iC, .slice H.H.lA q.C.bi.length H.H.lC, .slice H.H.oA q.C.outs.length H.H.oC, .slice H.H.bA q.C.a8.length H.H.bC, .slice H.H.vA q.C.aZ.length H.H.vC, .slice H.H.gA q.C.aG.length H.H.gC, .slice H.H.nA q.C.b8.length H.H.nC, .slice H.aA q.am.length H.aC, .slice H.lA q.ls.length H.lC, .slice H.kA q.ks.length H.kC, .int .i64 q.bad, .int .i64 q.dep, .int .i64 q.xG, .pointer (some ⟨a,0,none⟩)]):=fun a=>rfl
  clear nJ hv hx hA lM hl cU h0 hb fh hba hSN hLP
  have HQ:=ae (fun W (hW:Fr [] w1 W)=>gD (lQ.o.keep hW))
  obtain ⟨DD,hDD⟩:∃DD,pL H q=DD:=⟨_,rfl⟩
  simp only [hDD] at DV mF DAL
  clear hDD
  obtain ⟨⟨mx,ins,bi,outs,a8,aZ,aG,b8⟩,am,ls,ks,bad,dep,xG⟩:=q
  obtain ⟨⟨iA,iC,lA,lC,oA,oC,bA,bC,vA,vC,gA,gC,nA,nC⟩,aA,aC,mA,mC,kA,kC⟩:=H
  simp only [jv,jR,eX,kj] at *
  go_enter Tryz.func13,Tryz.ntmps13
  go_upto_region 1 with fail
  clear dO
  refine wp_region_noPanic ?_
  refine bp (fun w':World=>Fr [] w1 w') 6 (by kernel_rfl) ((Fr.refl _ w1).drew) (fun db=> ?_)
  refine TB 3 [(0,[0,5,6]),(1,[]),(2,[2,3,4,5,6])] db ?_ (hr:=by (repeat (apply Ss;rfl;rfl;(intro w cm;(try (have cm:=cm.resolve_left (List.cons_ne_nil _ _);(obtain ⟨q0,q1,q2,q3,q4,q5,q6,q7,q8,q9,jo,jI,jH,jG⟩:=HQ.o _ cm)));go_simp<;>with_reducible rfl);try simp only [Act.put,q5,q6,q7]));exact Sr);intro db
  refine R2 3 db fun K hK aH=> ?_
  (go_simp;refine (KV.o _ aH).mono ?_;rintro e w3 ⟨rfl,dD⟩;dsimp only);have cZ:=ae dD;clear dD
  refine hK.out _ _ (.inr ?_) (fun Hy=> ?_)
  · first |exact aH.aj SK.o.fr |exact aH.aj cZ.o |exact aH
  clear hK K
  try simp only [Act.put,q5,q6,q7]
  refine R2 4 Hy fun K hK aH=> ?_
  (have HS3:=ae aH;go_simp;refine (KN.o _).mono ?_;rintro e w4 ⟨L4,rfl,ho4⟩;dsimp only);have SK:=ae ho4;clear ho4
  refine hK.out _ _ (.inr ?_) (fun D2=> ?_)
  · first |exact aH.aj SK.o.fr |exact aH.aj cZ.o |exact aH
  clear hK K
  try simp only [Act.put,q5,q6,q7]
  refine TB 1 [(5,[])] D2 ?_;intro D2
  refine R2 6 D2 fun K hK aH=> ?_
  (have HSX:=ae aH;go_simp)
  refine hK.out _ _ (.inl rfl) (fun X4=> ?_)
  clear hK K
  try simp only [Act.put,q5,q6,q7]
  refine R1 (i:=7) (o:= ?YO) (by kernel_rfl) (by rfl) ?_
  intro K hK
  go_simp
  refine hK.out _ _ (.inl rfl) (fun Wi=> ?_)
  clear hK K
  try simp only [Act.put,q5,q6,q7]
  refine fo ?_
  obtain ⟨w5,EZ⟩:∃W,w4.alloc (.cells #[.int .i64 mx, .slice iA ins.length iC, .slice lA bi.length lC, .slice oA outs.length oC, .slice bA a8.length bC, .slice vA aZ.length vC, .slice gA aG.length gC, .slice nA b8.length nC, .slice aA am.length aC, .slice mA ls.length mC, .slice kA ks.length kC, .int .i64 bad, .int .i64 dep, .int .i64 xG, .pointer (some ⟨L4.a,0,none⟩)] 63)=W:=⟨_,rfl⟩
  rw [EZ]
  have eu:Fr [] w4 w5:=EZ▸aN _ _
  have hs5:w5.heap.size=w4.heap.size+1:=by rw [←EZ];simp
  have Xw:al (At w5 w4.heap.size 63 (DD L4.a)):=by
    show At _ _ _ _
    rw [DV.o,←EZ]
    exact At.new _ _ _
  have rf:=dy.o.aj HS3.o
  have yY:=rf.aj SK.o.fr
  have ho5:OwnX [w4.heap.size] w w5 (L4.shut w4) SN:=((SK.o.mark eu (Y:=[w4.heap.size]) (fun k hk=>by simp at hk;omega))).yv rf
  obtain ⟨X,hXX⟩:∃X:List Nat,X=[w4.heap.size]++(ap A++xs.flatMap fun x=>yw x.A x.hs):=⟨_,rfl⟩
  have Md:al (OwnX X w w5 (L4.shut w4) SN):=by
    show OwnX _ _ _ _ _
    rw [hXX]
    refine ho5.old (fun k hk=> ?_)
    rcases ag.1 hk with h1 |h1
    · exact HA.o k h1
    · obtain ⟨x,hx,h2⟩:=lS.1 h1
      exact HX.o.old x hx k h2
  have DC:=ae (HX.o.keep (yY.aj eu))
  have HXA:al (∀k∈ap A,k∈X):=fun k hk=>by rw [hXX];exact aM _ (ak _ hk)
  have AU:al (∀x∈xs,∀k∈yw x.A x.hs,k∈X):=fun x hx k hk=>by rw [hXX];exact aM _ (aM _ (lS.2 ⟨x,hx,hk⟩))
  have KJ:al (w4.heap.size∈X):=by show _∈_;rw [hXX];simp
  have HXL:=ae (fun k hk=>(Md.o.fx k hk).1)
  obtain ⟨g,hg⟩:∃g,w4.heap.size=g:=⟨_,rfl⟩
  have HGN:al (w.heap.size≤g):=hg▸yY.size
  obtain ⟨a4,Wh⟩:∃a,L4.a=a:=⟨_,rfl⟩
  have HA5:al ((L4.shut w4).a=a4):=Wh
  rw [hg] at Xw KJ⊢
  rw [Wh] at Xw⊢
  clear EZ eu hs5 rf yY ho5 hXX hg Wh HSX SK HS3 aH HQ lQ KV KN
  try clear db
  go_wp2_with fail
  go_loopg [17] xs.length (fun gg UG wr=>∃(k:Nat) (L:aQ) (S:Sv) (V:Nat),k+gg=xs.length∧UG= .int .i64 k∧al (L.a=a4)∧al (OwnX X w wr L S)∧al (Stay X w5 wr)∧al (S.Fit ba.toNat V∧V+((xs.drop k).flatMap yl.cl).length≤8388608)∧al (S.cR ((xs.drop k).flatMap yl.cl)=dC))
  case atStart=>exact ⟨0,L4.shut w4,SN,0,by omega,rfl,HA5,Md,Stay.of (Fr.refl _ w5),⟨up.o,by rw [List.drop_zero,cS];exact HL.o⟩,eP⟩
  case round=>
    clear HA5 Md up eP
    obtain ⟨k,L,S,V,hk,rfl,yq,Yh,zo,HFT,oG⟩:=hrel
    have HK:=ae hk
    have ly:k≤xs.length:=by omega
    clear hk
    have Qg:al (At wr g 63 (DD L.a)):=by
      show At _ _ _ _
      rw [yq.o]
      exact zo.o.at_ Xw.o KJ.o
    by_cases bM:k<xs.length
    · obtain ⟨b,o,hA,hc⟩:=DC.o.cells (by omega)
      have cx:=zo.o.cell (hc k bM) (HXA.o b (by rw [hA];simp [ap]))
      subst hA
      have EX:xs[k]! ∈xs:=bu bM
      have tZ:=drop_cons bM
      obtain ⟨x,hx⟩:∃x,xs[k]! =x:=⟨_,rfl⟩
      rw [hx] at cx EX tZ
      have hft:=HFT.o
      rw [tZ,List.flatMap_cons,ai] at hft
      have iZ:=oG.o
      rw [tZ,List.flatMap_cons,Sv.xd] at iZ
      have qf:x.cl.length=x.hs.length:=aq ..
      have xw:∀l∈x.cl,Ra l∧fK ba.toNat l=0:=fun l hl=>nv.o l (lS.2 ⟨x,EX,hl⟩)
      have KD:=ae (DAL.o X wr L S V g Yh.o hft.1 Qg.o KJ.o x (zo.o.Ew (DC.o.rd x EX) (AU.o x EX)) (AU.o x EX) (fun l hl=>(xw l hl).2) (by omega))
      have cH:al ((S.cR x.cl).Fit ba.toNat (V+x.cl.length)∧V+x.cl.length+((xs.drop (k+1)).flatMap yl.cl).length≤8388608):=⟨hft.1.cR (by omega) (fun l hl=>(xw l hl).1),by omega⟩
      have uj:=ae iZ
      obtain ⟨xA,xc,xh⟩:=x
      simp only [yl.val] at cx KD
      clear hc EX tZ hx hft iZ qf xw
      go_wp2_with fail
      refine KD.o.mono ?_
      clear KD
      rintro e w6 ⟨rfl,L6,X6,h6,s6⟩
      have DH:=ae (X6.trans yq.o)
      have H6:=ae h6
      have Bm:=ae (zo.o.aj s6 HXL.o)
      clear X6 h6 s6 cx Qg
      go_wp2
      go_roundg (gk-1)
      case measure=>have :=HK.o;omega
      case rel=>exact ⟨k+1,L6,_,_,by have :=HK.o;omega,by go_num,DH,H6,Bm,cH,uj⟩
    · obtain rfl :k=xs.length:=by omega
      have iZ:=oG.o
      rw [List.drop_length] at iZ
      have HSR:al (S=dC):=iZ
      have Ux:=ae (mF.o wr g L HGN.o Qg.o ((HSR.o▸Yh.o).less (fun j hj=>by simp at hj;subst hj;exact KJ.o)))
      clear HK iZ
      go_wp2_with fail
      exact Ux.o
def Lrow (w:World) (A:Option Addr) (c:Nat) (hs:List Ls):Prop:=w.ownsRow 0 22 1 (.slice A hs.length c) hs.length (hs.map Ls.val)
namespace Lrow
variable {w w':World} {A:Option Addr} {c:Nat} {hs:List Ls}
theorem form (h:Lrow w A c hs):(A=none∧c=0∧hs=[])∨∃g,A=some ⟨g,0,none⟩∧g<w.heap.size∧hs.length≤c:=by
 rcases h.2 with ⟨h1,h2⟩ |⟨g,cap,cur,hv,_,hg,hn,hm,_⟩
 ·simp only [Value.slice.injEq] at h1
  exact .inl ⟨h1.1,h1.2.2,aJ h2⟩
 ·simp only [Value.slice.injEq,true_and] at hv
  obtain ⟨rfl,rfl⟩:=hv
  exact .inr ⟨g,rfl,At.lt (t:=22) hg,hn⟩
theorem fr {S:List Nat} (h:Lrow w A c hs) (hf:Fr S w w') (hd:∀k,k∈ap A→k∉S):Lrow w' A c hs:=hf.own h (fun k hk=>hd k ((iR k).1 hk))
theorem keep (h:Lrow w A c hs) (hf:Fr [] w w'):Lrow w' A c hs:=h.fr hf (fun k _ hm=>by cases hm)
theorem nil (w:World):Lrow w none 0 []:=World.ownsRow_nil w 0 _ 1
theorem Ew (h:Lrow w A c hs) (ok:∀j:Nat,j<hs.length→uh w hs[j]!):iS w A hs:=by
 refine ⟨fun h0=> ?_,ok⟩
 rcases h.form with ⟨_,_,rfl⟩ |⟨g,rfl,h1,h2⟩
 ·simp at h0
 ·refine ⟨g,0,rfl,fun j hj=> ?_⟩
  rw [cS,World.ownsRow.cellAt h _ (by omega)]
  simp only [aO,af hj,cu,aa,ay]
end Lrow
theorem l8 (w:World) (ty:TypeId) (A:Option Addr) (c:Nat) (hs:List Ls) (dA:Lrow w A c hs) (B:Option Addr) (d:Nat) (ms:List Ls) (hB:B=none→ms=[]∧d=0)
  (hr:0<ms.length→∃b o,B=some ⟨b,o,none⟩∧∀j:Nat,j<ms.length→w.cell? ⟨b,o+j,none⟩=some (ms[j]!).val) (hlen:hs.length+ms.length≤4194304):
  ∃A' cap w',(Builtin.append_ #[28,28] ty #[.slice A hs.length c, .slice B ms.length d]).run Tryz.prog w= .ok (.slice A' (hs.length+ms.length) cap) w'∧Lrow w' A' cap (hs++ms)∧Fr (ap A) w w'∧(∀k,k∈ap A'→k∈ap A∨k=w.heap.size)∧w.heap.size≤w'.heap.size:=by
 cases B with
 |none=>
  obtain ⟨rfl,rfl⟩:=hB rfl
  obtain ⟨i0,hi,vG,nc,A8⟩:=info_parts oo
  have hc:hs.length≤c:=by
   rcases dA.form with ⟨_,_,rfl⟩ |⟨_,_,_,h1⟩
   ·simp
   ·exact h1
  have gU:(Builtin.append_ #[28,28] ty #[.slice A hs.length c, .slice none 0 0]).run Tryz.prog w= .ok (.slice A hs.length c) w:=by
   cases A<;>simp [Builtin.append_,run_underlying Tryz.underlying28,sizeOf,typeInfo,hi,Builtin.lenOf,hc,Builtin.firstCells,loadCells,storeCells]
  exact ⟨A,c,w,by rw [List.length_nil,Nat.add_zero];exact gU,by rw [bU];exact dA,Fr.refl _ _,fun k hk=> .inl hk,au _⟩
 |some ad=>
  obtain ⟨A',cap,w',gU,h2,h3,h4,h5,h6,h7⟩:=fd w 28 ty 22 (.slice none 0 0) 1 24 Tryz.underlying28 oo rfl (by decide) A c hs.length (hs.map Ls.val) dA ad ms.length d (ms.map Ls.val) (by simp) (fun j u hu=>by
   simp only [aO,Option.map_eq_some_iff] at hu
   obtain ⟨y,hy,rfl⟩:=hu
   have hj:=(gK.1 hy).1
   obtain ⟨b,o,XZ,hx⟩:=hr (by omega)
   cases XZ
   have :=hx j hj
   rw [aa,hy] at this
   rw [dJ]
   exact this) (by
    intro u hu
    obtain ⟨y,_,rfl⟩:=az.1 hu
    rfl) (by unfold maxLen;omega) (by omega)
  refine ⟨A',cap,w',gU,?_,h3,h4,h5⟩
  unfold Lrow
  rw [ai,bJ]
  exact h2
theorem pg (w:World) {ops:Array Oper} {rest:List Oper} {o:Oper} {a:Act} {Q:Exit→Act→World→Prop} (ou:o.guard=none) (s x:Operand)
  (ho:o.op= .call { callee:= .builtin .append,args:=#[s,x],argTypes:=#[28,28] }) (A:Option Addr) (c:Nat) (hs:List Ls) (n:Nat) (PV:a.eval s= .slice A n c) (hn:n=hs.length) (dA:Lrow w A c hs)
  (B:Option Addr) (d:Nat) (ms:List Ls) (m:Nat) (hx:a.eval x= .slice B m d) (hm:m=ms.length) (hB:B=none→ms=[]∧d=0)
  (hr:0<ms.length→∃b o,B=some ⟨b,o,none⟩∧∀j:Nat,j<ms.length→w.cell? ⟨b,o+j,none⟩=some (ms[j]!).val) (hlen:hs.length+ms.length≤4194304)
  (h:∀A' cap w',Lrow w' A' cap (hs++ms)→Fr (ap A) w w'→(∀k,k∈ap A'→k∈ap A∨k=w.heap.size)→w.heap.size≤w'.heap.size→wpList Tryz.prog ops Q rest (a.put o.dst (.slice A' (n+m) cap)) w'):
  wpList Tryz.prog ops Q (o::rest) a w:=by
 subst hn hm
 refine wpList_plain ou fun K hK=> ?_
 obtain ⟨A',cap,w',gU,h2,h3,h4,h5⟩:=l8 w o.type A c hs dA B d ms hB hr hlen
 unfold Oper.wp execOp
 simp only [ho,resolve,invoke,builtin,Sem.run_bind,Sem.run_pure,Result.andThen_ok,List.map_toArray,cM,dU,PV,hx,gU]
 exact hK _ _ (h A' cap w' h2 h3 h4 h5)
theorem QI {w:World} {hs ms:List Ls} (h1:∀j:Nat,j<hs.length→uh w hs[j]!) (h2:∀j:Nat,j<ms.length→uh w ms[j]!):∀j:Nat,j<(hs++ms).length→uh w (hs++ms)[j]! :=by
 intro j hj
 rw [ai] at hj
 by_cases h:j<hs.length
 ·have :=h1 j h
  simp only [aa,cW h] at this⊢
  exact this
 ·have :=h2 (j-hs.length) (by omega)
  simp only [aa,gm (show hs.length≤j by omega)] at this⊢
  exact this
theorem lh {w:World} {ops:Array Oper} {o:Oper} {a:Act} {K:Act→World→Prop} {Q:Exit→Act→World→Prop} {E:Prop} (ou:o.guard=none) (s x:Operand)
  (ho:o.op= .call { callee:= .builtin .append,args:=#[s,x],argTypes:=#[28,28] }) (A:Option Addr) (c:Nat) (hs:List Ls) (n:Nat) (PV:a.eval s= .slice A n c) (hn:n=hs.length) (dA:Lrow w A c hs)
  (B:Option Addr) (d:Nat) (ms:List Ls) (m:Nat) (hx:a.eval x= .slice B m d) (hm:m=ms.length) (hB:B=none→ms=[]∧d=0)
  (hr:0<ms.length→∃b o,B=some ⟨b,o,none⟩∧∀j:Nat,j<ms.length→w.cell? ⟨b,o+j,none⟩=some (ms[j]!).val) (hlen:hs.length+ms.length≤4194304)
  (h:∀A' cap w',Lrow w' A' cap (hs++ms)→Fr (ap A) w w'→(∀k,k∈ap A'→k∈ap A∨k=w.heap.size)→w.heap.size≤w'.heap.size→K (a.put o.dst (.slice A' (n+m) cap)) w'):
  if Region.wanted o (yielded ops a.tmps)=true then Oper.wp Tryz.prog o a w K Q else E:=by
 have hw:Region.wanted o (yielded ops a.tmps)=true:=by simp [Region.wanted,ou]
 rw [if_pos hw]
 subst hn hm
 obtain ⟨A',cap,w',gU,h2,h3,h4,h5⟩:=l8 w o.type A c hs dA B d ms hB hr hlen
 unfold Oper.wp execOp
 simp only [ho,resolve,invoke,builtin,Sem.run_bind,Sem.run_pure,Result.andThen_ok,List.map_toArray,cM,dU,PV,hx,gU]
 exact h A' cap w' h2 h3 h4 h5
theorem rD (w:World) (A:Option Addr) (c:Nat) (hs:List Ls) (h:iS w A hs) (hn:A=none→c=0) (hl:hs.length≤2097152):
  Calls Tryz.prog 12 #[.slice A hs.length c] w fun e w'=>∃A' c',e= .returned (.slice A' hs.length c')∧Lrow w' A' c' hs∧(∀k,k∈ap A'→w.heap.size≤k)∧Fr [] w w':=by
 cases A with
 |none=>
  have h0:hs.length=0:=by
   rcases Nat.eq_zero_or_pos hs.length with h5 |h5
   ·exact h5
   ·obtain ⟨b,o,hA,_⟩:=h.1 h5
    cases hA
  obtain rfl :hs=[]:=aJ h0
  obtain rfl :=hn rfl
  have he:∀w:World,(binOp .eql 28 (.slice none 0 0) (.slice none 0 0)).run Tryz.prog w= .ok (.bool true) w:=fun w=>Lib.run_eql_slice_nil w _ _ _ _ _ _ _ Tryz.underlying28
  have e0:([]:List Ls).length=0:=rfl
  rw [e0]
  clear h hn h0
  go_enter Tryz.func12,Tryz.ntmps12
  go_wp2
  go_ret
  exact ⟨none,0,rfl,Lrow.nil _,by simp [ap],Fr.refl _ _⟩
 |some ad=>
  have he:∀w:World,(binOp .eql 28 (.slice (some ad) hs.length c) (.slice none 0 0)).run Tryz.prog w= .ok (.bool false) w:=fun w=>Lib.run_eql_slice_nil w _ _ _ _ _ _ _ Tryz.underlying28
  have HC:=ae ((h.keep (aN w (.cells #[] 22))).1)
  have HE:al (Lrow (w.alloc (.cells #[] 22)) (some ⟨w.heap.size,0,none⟩) 0 []):=World.ownsRow_lit w #[] 0 (bH _) (by simp [maxLen]) (by simp)
  clear h hn
  go_enter Tryz.func12,Tryz.ntmps12
  go_wp2_with (at_builtin;(refine pg _ rfl _ _ rfl (some ⟨w.heap.size,0,none⟩) 0 [] 0 rfl rfl HE.o (some ad) c hs hs.length rfl rfl (fun h=>by cases h) HC.o (by simp;omega) ?_;intro A2 c2 w2 jU bZ jh jz;have uj:=ae jU;have cH:=ae bZ;have qE:=ae jh;clear jU bZ jh jz))
  go_ret
  refine ⟨A2,c2,by simp,uj.o,fun k hk=> ?_,?_⟩
  ·rcases qE.o k hk with h |h
   ·simp [ap] at h;omega
   ·rw [h];simp
  ·exact ((Fr.refl [] w).alloc _).trans cH.o (fun k hk=> .inr (by simp [ap] at hk;omega))
theorem me (W:World) (v:Value) (t:TypeId):(W.alloc (.cells #[v] t)).cell? ⟨W.heap.size,0,none⟩=some v:=(At.new W t #[v]).cell 0
theorem oT {q:Qn} {L:List (List Int)} (h:dz q L=0) (lM:∀c∈L,Ra c):uY q=0∧L.length≤1024∧∀c∈L,fC q.C c:=by
 unfold dz at h
 by_cases h0:uY q=0
 ·rw [if_neg (by simpa using h0)] at h
  by_cases h1:1024<(L.length:Int)
  ·rw [if_pos h1] at h;cases h
  ·rw [if_neg h1] at h
   by_cases h2:(L.any (yA q.C))=true
   ·rw [if_pos h2] at h;cases h
   ·refine ⟨h0,by omega,fun c hc=> ?_⟩
    have h3:fK (q.C.bi.length:Int) c=0:=by
     by_cases h4:fK (q.C.bi.length:Int) c=0
     ·exact h4
     ·exact absurd (bI.2 ⟨c,hc,by unfold yA;simpa using h4⟩) h2
    obtain ⟨k1,k2⟩:=Sv.o6 (lM c hc) h3
    exact ⟨by unfold fK at h3;split at h3<;>omega,fun x hx=>by have :=k2 x hx;omega⟩
 ·rw [if_pos (by simpa using h0)] at h
  exact absurd h h0
def uA (C:Pc) (ls:List (List Int)):List (List Int):=ls.map fun l=>l.map (iN C 0)
theorem Ab {C:Pc} (hv:Valid C) {ls:List (List Int)} (hl:∀c∈ls,fC C c):∀c∈uA C ls,Iw (eZ C 1) c:=fun c hc=>by
 obtain ⟨l,sD,rfl⟩:=az.1 hc
 have hf:=hl l sD
 refine ⟨by rw [aq];exact hf.1,fun x hx=> ?_⟩
 obtain ⟨n,hn,rfl⟩:=az.1 hx
 exact su hv (f:=0) (by omega) (hf.2 n hn)
theorem WD {C:Pc} (hv:Valid C):0≤eZ C 2∧eZ C 2≤262143∧eZ C 1≤eZ C 2:=by
 have h1:=hv.m1
 have h0:=hv.m0
 unfold eZ
 omega
theorem vM {C:Pc} (hv:Valid C) {ls:List (List Int)} (hl:∀c∈ls,fC C c) (hn:ls.length≤1024):
  Sv.iq (ls.length≤10) (uA C ls) (fun a=>∀c∈uA C ls,kV a c) (eZ C 2).toNat 0 ls.length ((Sv.new (eZ C 2)).cR (uA C ls)):=by
 obtain ⟨b0,b1,b2⟩:=WD hv
 have ke:=Ab hv hl
 have h0:Sv.iq (ls.length≤10) (uA C ls) (fun _=>True) (eZ C 2).toNat 0 0 (Sv.new (eZ C 2)):=by
  have :=Sv.iq.new (few:=ls.length≤10) (W:=uA C ls) (eZ C 2).toNat (by omega)
  rw [show (((eZ C 2).toNat:Nat):Int)=eZ C 2 by omega] at this
  exact this
 have hlen:(uA C ls).length=ls.length:=aq ..
 have h:=h0.cR (ls:=uA C ls) (by omega) (fun c hc=>⟨(ke c hc).ra (by omega),((ke c hc).mono (by omega)).chk (by omega),fun _=>hc⟩)
 rw [hlen,cS] at h
 exact h.iff fun a=>⟨fun h=>h.2,fun h=>⟨trivial,h⟩⟩
theorem Jz {C:Pc} (hv:Valid C) {ls:List (List Int)} {x:List Int} (hl:∀c∈ls,fC C c) (hx:fC C x) (hn:ls.length≤1024):
  AY ((x.map (iN C 0)).map fun y=> -y) (fun S=>S=(Sv.new (eZ C 2)).cR (uA C ls)) (fun _=>ls.length≤10→jV C ls x=true) (fun _=>ls.length≤10→jV C ls x=false):=by
 rintro S rfl
 have hk:=vM hv hl hn
 obtain ⟨b0,b1,b2⟩:=WD hv
 refine ⟨by have :=hk.used;omega,true,fun _=>zW,_,_,_,Sv.Qq hk (fun h=>⟨by unfold uA;rw [aq];exact h,by omega⟩) (by omega) (by omega) (fun y hy=> ?_) (by simp;have :=hx.1;omega),fun S' r hq=> ?_⟩
 ·obtain ⟨z,hz,rfl⟩:=az.1 hy
  obtain ⟨n,ot,rfl⟩:=az.1 hz
  have :=su hv (f:=0) (by omega) (hx.2 n ot)
  rw [show (0:Int)+1=1 from rfl] at this
  omega
 ·have aan:=fun h=>Jy hv hl hx h hq.2
  by_cases h2:r=2
  ·rw [if_pos h2]
   intro h
   rw [←aan h,h2]
   rfl
  ·rw [if_neg h2]
   intro h
   rw [←aan h]
   simpa using h2
def HlP (q:Qn) (ls:List (List Int)) (x:List Int) (w:World) (e:Ending) (w':World):Prop:=
 Fr [] w w'∧((¬dz q (ls++[x])=0∧e= .returned (.tuple #[.bool false, .int .i64 (dz q (ls++[x]))]))∨(dz q (ls++[x])=0∧∃b,e= .returned (.tuple #[.bool b, .int .i64 0])∧(ls.length≤10→b=jV q.C ls x)))
theorem N8 {w w6 w7:World} {H:Qh} {q:Qn} (hv:Valid q.C) {ls:List (List Int)} (hl:∀c∈ls,fC q.C c) (hn:ls.length≤1024) {g:Nat} {L:aQ} (hd:At w6 g 63 (pL H q L.a)) (ho:OwnX [g] w w6 L (Sv.new (eZ q.C 2)))
  {A7:Option Addr} {c7:Nat} {pE:List Ls} (DU:NwLs w7 w6.heap.size A7 c7 pE) (Bc:pE.map (·.l)=uA q.C ls) (gG:Fr [] w6 w7):
  Calls Tryz.prog 14 #[.pointer (some ⟨g,0,none⟩), .slice A7 pE.length c7] w7 fun e w8=>e= .returned (.tuple #[])∧∃L8,L8.a=L.a∧At w8 g 63 (pL H q L8.a)∧OwnX [g] w w8 L8 ((Sv.new (eZ q.C 2)).cR (uA q.C ls)):=by
 obtain ⟨b0,b1,b2⟩:=WD hv
 have Ho:=ho.more gG (Y:=yw A7 pE) (fun k hk=>DU.marks k hk)
 have hd7:=gG.at_ hd (by simp)
 have hlen:pE.length=ls.length:=by
  have :=congrArg List.length Bc
  simpa [uA] using this
 have hc:=ql w7 (L.shut w6) _ Ho (Sv.Fit.new b0 b1) g H q hd7 (by simp) A7 c7 pE DU.Ew (fun k hk=>aM _ (ak _ hk)) (fun x hx k hk=>aM _ (aM _ (lS.2 ⟨x,hx,hk⟩)))
  (fun x hx=>by
   have h1:=Ab hv hl x.l (Bc▸az.2 ⟨x,hx,rfl⟩)
   exact (h1.mono (by omega)).chk (by omega)) (by omega)
 rw [Bc] at hc
 refine hc.mono ?_
 rintro e w8 ⟨rfl,L8,h1,h2,h3⟩
 refine ⟨rfl,L8,h1,?_,h2.less (fun k hk=>ak _ hk)⟩
 rw [h1]
 exact h3.at_ hd7 (by simp)
theorem N7 {w w8 w9:World} {H:Qh} {q:Qn} (nJ:∀W,Fr [] w W→iy W H.H q.C) (hv:Valid q.C) {ls:List (List Int)} (hl:∀c∈ls,fC q.C c) (hn:ls.length≤1024) {g:Nat} {L:aQ} (hd:At w8 g 63 (pL H q L.a)) (ho:OwnX [g] w w8 L ((Sv.new (eZ q.C 2)).cR (uA q.C ls)))
  (ow:Fr [] w8 w9) (x:Ls) (hx:uh w x) (TA:fC q.C x.l) (b o c:Nat) (hc:w9.cell? ⟨b,o,none⟩=some x.val):
  Calls Tryz.prog 16 #[.pointer (some ⟨g,0,none⟩), .slice (some ⟨b,o,none⟩) 1 c, .int .i64 0] w9 (FoP [g] w w9 L.a (fun _=>ls.length≤10→jV q.C ls x.l=true) (fun _=>ls.length≤10→jV q.C ls x.l=false)):=by
 have tR:=ho.own.fr.aj ow
 have hk:=vM hv hl hn
 have Bb:iS w9 (some ⟨b,o,none⟩) [x]:=⟨fun _=>⟨b,o,rfl,fun j hj=>by
  have jB:j=0:=by simpa using hj
  subst jB
  exact hc⟩,fun j hj=>by
  have jB:j=0:=by simpa using hj
  subst jB
  exact hx.keep tR⟩
 exact kJ w9 L _ (ho.keep ow) hk.inv.ok g H q (ow.at_ hd (by simp)) (by simp) (nJ w9 tR) hv 0 (by omega) (some ⟨b,o,none⟩) c [x] Bb (fun y hy=>by rw [ah.1 hy];exact TA) (by simp)
  (fun k=>if k=0 then (fun S=>S=(Sv.new (eZ q.C 2)).cR (uA q.C ls)) else (fun _=>ls.length≤10→jV q.C ls x.l=true)) _ rfl (fun k hk=>by
   have JP:k=0:=by simpa using hk
   subst JP
   exact Jz hv hl TA hn)
theorem CD (w:World) (H:Qh) (q:Qn) (h:m8 w H q) (A:Option Addr) (c:Nat) (hs:List Ls) (hr:iS w A hs) (hn:A=none→c=0) (hl:hs.length≤1048576) (x:Ls) (hx:uh w x):
  Calls Tryz.prog 6 #[jv H q, .slice A hs.length c,x.val] w (HlP q (hs.map (·.l)) x.l w):=by
 obtain ⟨w1,dO⟩:∃W,w.alloc (.cells (jR H q) 30)=W:=⟨_,rfl⟩
 have cU:Fr [] w w1:=dO▸aN _ _
 have dy:=ae cU
 have lQ:al (At w1 w.heap.size 30 (jR H q)):=dO▸At.new _ _ _
 have hal:∀k,k<hs.length→Ra (hs[k]!).l:=fun k hk=>(hr.2 k hk).2.1
 have nv:al (∀c∈hs.map (·.l)++[x.l],Ra c):=fun c hc=>by
  rcases ag.1 hc with hc |hc
  ·obtain ⟨y,hy,rfl⟩:=az.1 hc
   obtain ⟨k,hk,rfl⟩:=List.getElem_of_mem hy
   have :=hal k hk
   rw [aa,af hk] at this
   exact this
  ·rw [ah.1 hc];exact hx.2.1
 have Ui:=ae (fun W (hW:Fr [] w1 W)=>rD W A c hs ((hr.keep cU).keep hW) hn (by omega))
 have JA:∀W,Fr [] w1 W→∀j:Nat,j<(hs++[x]).length→uh W (hs++[x])[j]! :=fun W hW=>QI (fun j hj=>((hr.2 j hj).keep cU).keep hW) (fun j hj=>by
  have :j=0:=by simp at hj;omega
  subst this
  exact (hx.keep cU).keep hW)
 have kM:=ae JA
 have Uf:al (∀W,Fr [] w1 W→∀A2 c2,Lrow W A2 c2 (hs++[x])→Calls Tryz.prog 11 #[jv H q, .slice A2 (hs.length+1) c2] W fun e w'=>e= .returned (.int .i64 (dz q (hs.map (·.l)++[x.l])))∧Fr [] W w'):=fun W hW A2 c2 xV=>by
  have :=rC W H q ((h.keep cU).keep hW) A2 c2 (hs++[x]) (xV.Ew (JA W hW)) (by simp;omega)
  rw [bJ,ai] at this
  exact this
 obtain ⟨R,hR⟩:∃R,dz q (hs.map (·.l)++[x.l])=R:=⟨_,rfl⟩
 rw [hR] at Uf
 have tn:(hs.map (·.l)).length=hs.length:=aq ..
 have NO:al (∀W,¬R=0→Fr [] w W→HlP q (hs.map (·.l)) x.l w (.returned (.tuple #[.bool false, .int .i64 R])) W):=fun W h0 hW=>by
  subst hR
  exact ⟨hW, .inl ⟨h0,rfl⟩⟩
 have pP:al (R=0→Valid q.C∧hs.length≤1024∧(∀y∈hs,fC q.C y.l)∧fC q.C x.l∧∀(W:World) (S:Sv) (b:Bool) (L:aQ) (X:List Nat),(if b=true then ((hs.map (·.l)).length≤10→jV q.C (hs.map (·.l)) x.l=true) else ((hs.map (·.l)).length≤10→jV q.C (hs.map (·.l)) x.l=false))→OwnX X w W L S→HlP q (hs.map (·.l)) x.l w (.returned (.tuple #[.bool b, .int .i64 0])) W):=fun h0=>by
  subst hR
  obtain ⟨k1,k2,k3⟩:=oT h0 nv.o
  obtain ⟨hv,_⟩:=Mp k1
  refine ⟨hv,by rw [ai,tn] at k2;simp at k2;omega,fun y hy=>k3 _ (ak _ (az.2 ⟨y,hy,rfl⟩)),k3 _ (aM _ (ah.2 rfl)),fun W S b L X hb ho=>⟨ho.own.fr, .inr ⟨h0,b,rfl,fun hs=> ?_⟩⟩⟩
  cases b with
  |true=>exact (hb hs).symm
  |false=>exact (hb hs).symm
 have nJ:=h.c
 have Yo:al (∀W,Fr [] w W→iy W H.H q.C):=fun W hW=>nJ.keep hW
 have Yf:=ae hr
 have HX:=ae hx
 have Bl:al (Valid q.C→hs.length≤1024→(∀y∈hs,fC q.C y.l)→∀(w6:World) (g a:Nat),Fr [] w w6→At w6 g 63 (pL H q a)→Calls Tryz.prog 15 #[.pointer (some ⟨g,0,none⟩), .slice A hs.length c, .int .i64 0] w6 fun e w'=>∃A' c' iW,e= .returned (.slice A' iW.length c')∧NwLs w' w6.heap.size A' c' iW∧iW.map (·.l)=uA q.C (hs.map (·.l))∧Fr [] w6 w'):=fun hv oZ jK w6 g a tf hd=>sL w6 g a H q hd (nJ.keep tf) hv 0 (by omega) A c hs (hr.keep tf) jK oZ
 have Ug:al (Valid q.C→∀W,Fr [] w W→Calls Tryz.prog 13 #[jv H q, .slice none 0 0] W (DlP W H q (Sv.new (eZ q.C 2)))):=fun hv W hW=>oD W H q (nJ.keep hW) hv none 0 [] (AS.nil _ _) (fun k hk=>by cases hk) (by simp) (fun l hl=>by cases hl) (by simp)
 obtain ⟨xA,xc,xl⟩:=x
 simp only [Ls.val] at *
 obtain ⟨HL,hHL⟩:∃HL,HlP q (hs.map (·.l)) xl w=HL:=⟨_,rfl⟩
 rw [hHL] at NO pP⊢
 have HQ:=ae (fun W (hW:Fr [] w1 W)=>gD (lQ.o.keep hW))
 simp only [jv,jR] at Uf Ug dO⊢
 clear h hr hx hal JA cU nJ hR hHL tn
 go_enter Tryz.func6,Tryz.ntmps6
 go_upto_region 1 with fail
 clear dO
 refine wp_region_noPanic ?_
 refine bp (fun w':World=>Fr [] w1 w') 6 (by kernel_rfl) ((Fr.refl _ w1).drew) (fun db=> ?_)
 refine TB 3 [(0,[0,6]),(1,[]),(3,[])] db ?_ (hr:=by (repeat (apply Ss;rfl;rfl;(intro w cm;(try (have cm:=cm.resolve_left (List.cons_ne_nil _ _);(obtain ⟨q0,q1,q2,q3,q4,q5,q6,q7,q8,q9,jo,jI,jH,jG⟩:=HQ.o _ cm)));go_simp<;>with_reducible rfl);try simp only [Act.put,q5,q6,q7]));exact Sr);intro db
 have aH:=db.resolve_left (by decide)
 refine aU (rs:=[2,4]) (by kernel_rfl) (by simp) ?_
 refine bY.cons (o:= ?aiC) ?Vy ?Jf ?_
 case Vy=>rfl
 case Jf=>
  intro K hK
  (go_simp;refine (Ui.o _ aH).mono ?_;rintro e w2 ⟨A2,c2,rfl,jM,jh,bZ⟩;dsimp only);have j5:=ae jM;have qE:=ae jh;have cH:=ae bZ;have K7:=ae aH;clear jM jh bZ
  refine hK.out _ _ (.inr ?_) (fun Hy=> ?_)
  ·first |exact D7.o |exact (K7.o.aj cH.o) |exact aH.alloc _ |exact aH
  clear hK K
  try simp only [Act.put,q5,q6,q7]
  refine R2 4 Hy fun K hK aH=> ?_
  (have HSB:=ae aH;go_simp)
  refine hK.out _ _ (.inr ?_) (fun D2=> ?_)
  ·first |exact D7.o |exact (K7.o.aj cH.o) |exact aH.alloc _ |exact aH
  clear hK K
  try simp only [Act.put,q5,q6,q7]
  refine R2 5 D2 fun K hK aH=> ?_
  (refine lh rfl _ _ rfl A2 c2 hs hs.length rfl rfl ?Nw _ 1 [⟨xA,xc,xl⟩] 1 rfl rfl (fun h=>by cases h) ?Vv (by simp;omega) ?_;(case Nw=>first |exact j5.o.keep (aN _ _) |exact j5.o);(case Vv=>intro _;refine ⟨_,_,rfl,fun j hj=> ?_⟩;(have jB:j=0:=by simpa using hj);subst jB;first |exact me _ _ _ |exact cH.o.aT (me _ _ _));intro A4 c4 w4 JN eW hb4 LC);have SV:=ae JN;have D7:=ae (aH.trans eW (fun k hk=> .inr (aF K7.o.size (qE.o k hk))));clear JN eW hb4 LC
  refine hK.out _ _ (.inr ?_) (fun LU=> ?_)
  ·first |exact D7.o |exact (K7.o.aj cH.o) |exact aH.alloc _ |exact aH
  clear hK K
  try simp only [Act.put,q5,q6,q7]
  refine R2 6 LU fun K hK aH=> ?_
  (go_simp;refine (Uf.o _ aH _ _ SV.o).mono ?_;rintro e w5 ⟨rfl,eu⟩;dsimp only);have kN:=ae eu;clear eu;have Pe:=ae (aH.aj kN.o)
  refine hK.out _ _ (.inl rfl) (fun X4=> ?_)
  clear hK K
  try simp only [Act.put,q5,q6,q7]
  refine R1 (i:=7) (o:= ?YO) (by kernel_rfl) (by rfl) ?_
  intro K hK
  go_simp
  refine hK.out _ _ (.inl rfl) (fun Wi=> ?_)
  clear hK K
  try simp only [Act.put,q5,q6,q7]
  refine fo ?_
  have Bm:=ae (dy.o.aj Pe.o)
  clear aH
  try clear db
  by_cases h0:R=0
  ·obtain ⟨hv,vY,jK,TA,N2⟩:=pP.o h0
   have d0:(R==(0:Int))=true:=by simpa using h0
   have tn:∀c∈hs.map (·.l),fC q.C c:=fun c hc=>by
    obtain ⟨y,hy,rfl⟩:=az.1 hc
    exact jK y hy
   have LF:(hs.map (·.l)).length≤1024:=by rw [aq];exact vY
   have HV:=ae hv
   have Xi:=ae tn
   have HNM:=ae LF
   have HXF:=ae TA
   have Xr:=ae N2
   have O8:=ae (Bl.o hv vY jK)
   have O6:=ae (Ug.o hv w5 Bm.o)
   subst h0
   clear hv vY jK TA N2 tn LF Bl Ug pP NO
   obtain ⟨q0,q1,q2,q3,q4,q5,q6,q7,q8,q9,jo,jI,jH,jG⟩:=HQ.o w5 Pe.o
   go_wp2_with fail
   refine O6.o.mono ?_
   clear O6 q0 q1 q2 q3 q4 q5 q6 q7 q8 q9 jo jI jH jG
   rintro e w6 ⟨g,L6,rfl,-,hd6,JG⟩
   have Ta:=ae hd6
   have uk:=ae (JG.yv Bm.o)
   clear hd6 JG
   have KA:=ae (O8.o w6 g L6.a uk.o.own.fr Ta.o)
   clear O8
   go_wp2_with fail
   refine KA.o.mono ?_
   clear KA
   rintro e w7 ⟨A7,c7,pE,rfl,DU,Bc,gG⟩
   have KB:=ae (N8 HV.o Xi.o HNM.o Ta.o uk.o DU Bc gG)
   clear DU Bc gG
   go_wp2_with fail
   refine KB.o.mono ?_
   clear KB
   rintro e w8 ⟨rfl,L8,-,P1,JF⟩
   have KF:=ae (N7 Yo.o HV.o Xi.o HNM.o P1 JF (aN w8 (.cells #[.slice xA xl.length xc] 22)) ⟨xA,xc,xl⟩ HX.o HXF.o w8.heap.size 0 1 (me _ _ _))
   clear P1 JF
   go_wp2_with fail
   refine KF.o.mono ?_
   clear KF
   rintro e w9 ⟨S9,b,rfl,-,hb,L9,-,Nx,-⟩
   have HB:=ae hb
   have Xd:=ae Nx
   clear hb Nx
   go_wp2_with fail
   exact Xr.o w9 S9 b L9 [g] HB.o Xd.o
  ·have d0:(R==(0:Int))=false:=by simpa using h0
   have HN:=ae (NO.o w5 h0 Bm.o)
   go_wp2_with fail
   exact HN.o

 refine bY.cons (o:= ?aiA) ?Vx ?XO bY.nil
 case Vx=>rfl
 intro K hK
 (have HSB:=ae aH;go_simp)
 refine hK.out _ _ (.inr ?_) (fun Hy=> ?_)
 ·first |exact D7.o |exact (K7.o.aj cH.o) |exact aH.alloc _ |exact aH
 clear hK K
 try simp only [Act.put,q5,q6,q7]
 refine R2 2 Hy fun K hK aH=> ?_
 (go_simp;refine (Ui.o _ aH).mono ?_;rintro e w2 ⟨A2,c2,rfl,jM,jh,bZ⟩;dsimp only);have j5:=ae jM;have qE:=ae jh;have cH:=ae bZ;have K7:=ae aH;clear jM jh bZ
 refine hK.out _ _ (.inr ?_) (fun D2=> ?_)
 ·first |exact D7.o |exact (K7.o.aj cH.o) |exact aH.alloc _ |exact aH
 clear hK K
 try simp only [Act.put,q5,q6,q7]
 refine R2 5 D2 fun K hK aH=> ?_
 (refine lh rfl _ _ rfl A2 c2 hs hs.length rfl rfl ?Jx _ 1 [⟨xA,xc,xl⟩] 1 rfl rfl (fun h=>by cases h) ?Q2 (by simp;omega) ?_;(case Jx=>first |exact j5.o.keep (aN _ _) |exact j5.o);(case Q2=>intro _;refine ⟨_,_,rfl,fun j hj=> ?_⟩;(have jB:j=0:=by simpa using hj);subst jB;first |exact me _ _ _ |exact cH.o.aT (me _ _ _));intro A4 c4 w4 JN eW hb4 LC);have SV:=ae JN;have D7:=ae (aH.trans eW (fun k hk=> .inr (aF K7.o.size (qE.o k hk))));clear JN eW hb4 LC
 refine hK.out _ _ (.inr ?_) (fun LU=> ?_)
 ·first |exact D7.o |exact (K7.o.aj cH.o) |exact aH.alloc _ |exact aH
 clear hK K
 try simp only [Act.put,q5,q6,q7]
 refine R2 6 LU fun K hK aH=> ?_
 (go_simp;refine (Uf.o _ aH _ _ SV.o).mono ?_;rintro e w5 ⟨rfl,eu⟩;dsimp only);have kN:=ae eu;clear eu;have Pe:=ae (aH.aj kN.o)
 refine hK.out _ _ (.inl rfl) (fun X4=> ?_)
 clear hK K
 try simp only [Act.put,q5,q6,q7]
 refine R1 (i:=7) (o:= ?aeq) (by kernel_rfl) (by rfl) ?_
 intro K hK
 go_simp
 refine hK.out _ _ (.inl rfl) (fun Wi=> ?_)
 clear hK K
 try simp only [Act.put,q5,q6,q7]
 refine fo ?_
 have Bm:=ae (dy.o.aj Pe.o)
 clear aH
 try clear db
 by_cases h0:R=0
 ·obtain ⟨hv,vY,jK,TA,N2⟩:=pP.o h0
  have d0:(R==(0:Int))=true:=by simpa using h0
  have tn:∀c∈hs.map (·.l),fC q.C c:=fun c hc=>by
   obtain ⟨y,hy,rfl⟩:=az.1 hc
   exact jK y hy
  have LF:(hs.map (·.l)).length≤1024:=by rw [aq];exact vY
  have HV:=ae hv
  have Xi:=ae tn
  have HNM:=ae LF
  have HXF:=ae TA
  have Xr:=ae N2
  have O8:=ae (Bl.o hv vY jK)
  have O6:=ae (Ug.o hv w5 Bm.o)
  subst h0
  clear hv vY jK TA N2 tn LF Bl Ug pP NO
  obtain ⟨q0,q1,q2,q3,q4,q5,q6,q7,q8,q9,jo,jI,jH,jG⟩:=HQ.o w5 Pe.o
  go_wp2_with fail
  refine O6.o.mono ?_
  clear O6 q0 q1 q2 q3 q4 q5 q6 q7 q8 q9 jo jI jH jG
  rintro e w6 ⟨g,L6,rfl,-,hd6,JG⟩
  have Ta:=ae hd6
  have uk:=ae (JG.yv Bm.o)
  clear hd6 JG
  have KA:=ae (O8.o w6 g L6.a uk.o.own.fr Ta.o)
  clear O8
  go_wp2_with fail
  refine KA.o.mono ?_
  clear KA
  rintro e w7 ⟨A7,c7,pE,rfl,DU,Bc,gG⟩
  have KB:=ae (N8 HV.o Xi.o HNM.o Ta.o uk.o DU Bc gG)
  clear DU Bc gG
  go_wp2_with fail
  refine KB.o.mono ?_
  clear KB
  rintro e w8 ⟨rfl,L8,-,P1,JF⟩
  have KF:=ae (N7 Yo.o HV.o Xi.o HNM.o P1 JF (aN w8 (.cells #[.slice xA xl.length xc] 22)) ⟨xA,xc,xl⟩ HX.o HXF.o w8.heap.size 0 1 (me _ _ _))
  clear P1 JF
  go_wp2_with fail
  refine KF.o.mono ?_
  clear KF
  rintro e w9 ⟨S9,b,rfl,-,hb,L9,-,Nx,-⟩
  have HB:=ae hb
  have Xd:=ae Nx
  clear hb Nx
  go_wp2_with fail
  exact Xr.o w9 S9 b L9 [g] HB.o Xd.o
 ·have d0:(R==(0:Int))=false:=by simpa using h0
  have HN:=ae (NO.o w5 h0 Bm.o)
  go_wp2_with fail
  exact HN.o
theorem OwnX.UN {Y:List Nat} {w0 w2 w3:World} {L:aQ} {S:Sv} (h:OwnX Y w0 w2 L S) (hs:Stay (L.own w2) w2 w3) (hf:Fr [] w0 w3):OwnX Y w0 w3 L S:=by
 have nq:=hs.size
 obtain ⟨T,h1,h2⟩:=hs
 refine ⟨⟨h.own.sv.fr h1 (fun k hk bM e=> ?_),h.own.nw,hf⟩,fun k hk=>⟨aK (h.fx k hk).1 nq,(h.fx k hk).2⟩⟩
 exact h2 k (aQ.bQ.2 ⟨bM,e⟩) hk
def q00 (q:Qn):Qn:={ q with ls:=[],ks:=[] }
def LW (H:Qh):Qh:={ H with lA:=none,lC:=0,kA:=none,kC:=0 }
theorem iS.MQ (w:World) (A:Option Addr):iS w A []:=⟨fun h=>absurd h (Nat.lt_irrefl _),fun j hj=>absurd hj (aI _)⟩
theorem m8.zero {w:World} {H:Qh} {q:Qn} (h:m8 w H q):m8 w (LW H) (q00 q):=
 ⟨h.c,h.a,iS.MQ _ _,iS.MQ _ _,h.aL,bH _,bH _,h.br,h.dr,h.ur⟩
def Zp (C:Pc):Sv:=(Sv.new (eZ C 2)).cR (qi C C.bi.length)
def Zq (C:Pc) (am:List (List Int)):Sv:=(Sv.new (eZ C 2)).cR (iP C am 0++og C 0 C.bi.length)
def Tw (C:Pc) (am ls:List (List Int)):Sv:=(Zq C am).cR (uA C ls)
theorem Ef {C:Pc} (hv:Valid C):∀x∈C.a8,0≤x∧x≤2*C.mx+1:=fun x hx=>by
 have h:=hv.b
 unfold uf at h
 rw [aD,kO] at h
 exact km hv (h.1 x hx)
theorem Cg {C:Pc} (hv:Valid C):∀l∈qi C C.bi.length,Ra l∧fK (eZ C 2).toNat l=0:=fun l hl=>by
 obtain ⟨b0,b1,b2⟩:=WD hv
 have h:=Wv hv l hl
 exact ⟨h.ra (by omega),(h.mono (by omega)).chk (by omega)⟩
theorem Ae {C:Pc} (hv:Valid C) {am:List (List Int)} (ha:DR C.mx am):∀l∈iP C am 0++og C 0 C.bi.length,Ra l∧fK (eZ C 2).toNat l=0:=fun l hl=>by
 obtain ⟨b0,b1,b2⟩:=WD hv
 have e1:=rI C 0
 have p0:=uN hv.m0 (C:=C) (f:=0) (by omega)
 have h:Iw (eZ C 2) l:=by
  rcases ag.1 hl with hl |hl
  ·unfold iP at hl
   rcases ag.1 hl with hl |hl
   ·exact (Ox hv p0 l hl).mono (by rw [show (0:Int)+1=1 from rfl] at e1;omega)
   ·exact (Oz hv ha p0 l hl).mono (by rw [show (0:Int)+1=1 from rfl] at e1;omega)
  ·exact U2 hv (f:=0) (by omega) l hl
 exact ⟨h.ra (by omega),(h.mono (by omega)).chk (by omega)⟩
theorem ET {C:Pc} (hv:Valid C) {am:List (List Int)} (ha:am.length≤64):(qi C C.bi.length).length≤100000∧(iP C am 0++og C 0 C.bi.length).length≤100000:=by
 have h1:=wg C C.bi.length
 have h2:=we hv (eZ C 0)
 have h3:=wo C am (eZ C 0)
 have h4:=Cc C 0 C.bi.length
 have h5:=uX hv
 have h6:=hv.l
 rw [ai]
 unfold iP
 rw [ai]
 omega
theorem YK {W:World} {A:Option Addr} {c:Nat} {hs:List Ls} {t:TypeId} (hr:iS W A hs) (ho:∀k∈yw A hs,k<W.heap.size):AS (W.alloc (.cells #[.slice A hs.length c] t)) (some ⟨W.heap.size,0,none⟩) [⟨A,c,hs⟩]:=
 ⟨fun _=>⟨_,_,rfl,fun j hj=>by
  have jB:j=0:=by simpa using hj
  subst jB
  exact (At.new W t #[.slice A hs.length c]).cell 0⟩,fun x hx=>by
  rw [ah.1 hx]
  exact hr.keep (aN _ _),fun x hx k hk=>by
  rw [ah.1 hx] at hk
  exact aK (ho k hk) (aN _ _).size⟩
theorem YJ {W:World} {A A':Option Addr} {c c':Nat} {hs iW:List Ls} {t:TypeId} (hr:iS W A hs) (ho:∀k∈yw A hs,k<W.heap.size) (Fe:iS W A' iW) (Z8:∀k∈yw A' iW,k<W.heap.size):AS (W.alloc (.cells #[.slice A hs.length c, .slice A' iW.length c'] t)) (some ⟨W.heap.size,0,none⟩) [⟨A,c,hs⟩,⟨A',c',iW⟩]:=
 ⟨fun _=>⟨_,_,rfl,fun j hj=>by
  have jB:j=0∨j=1:=by simp at hj;omega
  rcases jB with rfl |rfl
  ·exact (At.new W t #[.slice A hs.length c, .slice A' iW.length c']).cell 0
  ·exact (At.new W t #[.slice A hs.length c, .slice A' iW.length c']).cell 1⟩,fun x hx=>by
  rcases av.1 hx with rfl |hx
  ·exact hr.keep (aN _ _)
  ·rw [ah.1 hx]
   exact Fe.keep (aN _ _),fun x hx k hk=>by
  rcases av.1 hx with rfl |hx
  ·exact aK (ho k hk) (aN _ _).size
  ·rw [ah.1 hx] at hk
   exact aK (Z8 k hk) (aN _ _).size⟩
theorem M5 {w W:World} {H:Qh} {q:Qn} (nJ:∀W,Fr [] w W→iy W H.H q.C) (hv:Valid q.C) (hW:Fr [] w W) {A:Option Addr} {c:Nat} {hs:List Ls} (hr:iS W A hs) (ho:∀k∈yw A hs,k<W.heap.size) (hm:hs.map (·.l)=qi q.C q.C.bi.length) (t:TypeId):
  Calls Tryz.prog 13 #[jv H q, .slice (some ⟨W.heap.size,0,none⟩) 1 1] (W.alloc (.cells #[.slice A hs.length c] t)) (DlP (W.alloc (.cells #[.slice A hs.length c] t)) H q (Zp q.C)):=by
 have RO:[(⟨A,c,hs⟩:yl)].flatMap yl.cl=qi q.C q.C.bi.length:=by
  rw [List.flatMap_singleton]
  exact hm
 have h:=oD (W.alloc (.cells #[.slice A hs.length c] t)) H q (nJ _ (hW.aj (aN _ _))) hv (some ⟨W.heap.size,0,none⟩) 1 [⟨A,c,hs⟩] (YK hr ho) (fun k hk=>by simp [ap] at hk;subst hk;simp) (by simp)
  (by rw [RO];exact Cg hv) (by rw [RO];have :=wg q.C q.C.bi.length;have :=hv.l;omega)
 rw [RO] at h
 exact h
theorem M4 {w W:World} {H:Qh} {q:Qn} (nJ:∀W,Fr [] w W→iy W H.H q.C) (hv:Valid q.C) (tq:DR q.C.mx (q.am.map (·.l))) (hW:Fr [] w W) {A A':Option Addr} {c c':Nat} {hs iW:List Ls} (hr:iS W A hs) (ho:∀k∈yw A hs,k<W.heap.size) (Fe:iS W A' iW) (Z8:∀k∈yw A' iW,k<W.heap.size)
  (hm:hs.map (·.l)=iP q.C (q.am.map (·.l)) 0) (hm':iW.map (·.l)=og q.C 0 q.C.bi.length) (t:TypeId):
  Calls Tryz.prog 13 #[jv H q, .slice (some ⟨W.heap.size,0,none⟩) 2 2] (W.alloc (.cells #[.slice A hs.length c, .slice A' iW.length c'] t)) (DlP (W.alloc (.cells #[.slice A hs.length c, .slice A' iW.length c'] t)) H q (Zq q.C (q.am.map (·.l)))):=by
 have RO:[(⟨A,c,hs⟩:yl),⟨A',c',iW⟩].flatMap yl.cl=iP q.C (q.am.map (·.l)) 0++og q.C 0 q.C.bi.length:=by
  rw [List.flatMap_cons,List.flatMap_singleton]
  show hs.map (·.l)++iW.map (·.l)=_
  rw [hm,hm']
 have h:=oD (W.alloc (.cells #[.slice A hs.length c, .slice A' iW.length c'] t)) H q (nJ _ (hW.aj (aN _ _))) hv (some ⟨W.heap.size,0,none⟩) 2 [⟨A,c,hs⟩,⟨A',c',iW⟩] (YJ hr ho Fe Z8) (fun k hk=>by simp [ap] at hk;subst hk;simp) (by simp)
  (by rw [RO];exact Ae hv tq) (by rw [RO];have :=(ET hv (am:=q.am.map (·.l)) (tq.1)).2;omega)
 rw [RO] at h
 exact h
theorem Va {w w6 w7:World} {H:Qh} {q:Qn} (hv:Valid q.C) {ls:List (List Int)} (hl:∀c∈ls,fC q.C c) (hn:ls.length≤1024) (tq:DR q.C.mx (q.am.map (·.l))) {g:Nat} {L:aQ} (hd:At w6 g 63 (pL H q L.a)) (ho:OwnX [g] w w6 L (Zq q.C (q.am.map (·.l))))
  {A7:Option Addr} {c7:Nat} {pE:List Ls} (DU:NwLs w7 w6.heap.size A7 c7 pE) (Bc:pE.map (·.l)=uA q.C ls) (gG:Fr [] w6 w7):
  Calls Tryz.prog 14 #[.pointer (some ⟨g,0,none⟩), .slice A7 pE.length c7] w7 fun e w8=>e= .returned (.tuple #[])∧∃L8,L8.a=L.a∧At w8 g 63 (pL H q L8.a)∧OwnX [g] w w8 L8 (Tw q.C (q.am.map (·.l)) ls):=by
 obtain ⟨b0,b1,b2⟩:=WD hv
 have Ho:=ho.more gG (Y:=yw A7 pE) (fun k hk=>DU.marks k hk)
 have hd7:=gG.at_ hd (by simp)
 have hlen:pE.length=ls.length:=by
  have :=congrArg List.length Bc
  simpa [uA] using this
 have sD:=(ET hv (am:=q.am.map (·.l)) tq.1).2
 have sF:(Zq q.C (q.am.map (·.l))).Fit (eZ q.C 2).toNat (0+(iP q.C (q.am.map (·.l)) 0++og q.C 0 q.C.bi.length).length):=
  (Sv.Fit.new b0 b1).cR (by omega) (fun c hc=>(Ae hv tq c hc).1)
 have hc:=ql w7 (L.shut w6) _ Ho sF g H q hd7 (by simp) A7 c7 pE DU.Ew (fun k hk=>aM _ (ak _ hk)) (fun x hx k hk=>aM _ (aM _ (lS.2 ⟨x,hx,hk⟩)))
  (fun x hx=>by
   have h1:=Ab hv hl x.l (Bc▸az.2 ⟨x,hx,rfl⟩)
   exact (h1.mono (by omega)).chk (by omega)) (by omega)
 rw [Bc] at hc
 refine hc.mono ?_
 rintro e w8 ⟨rfl,L8,h1,h2,h3⟩
 refine ⟨rfl,L8,h1,?_,h2.less (fun k hk=>ak _ hk)⟩
 rw [h1]
 exact h3.at_ hd7 (by simp)
theorem Zm {C:Pc} (hv:Valid C) {am ls:List (List Int)} (tq:DR C.mx am) (hl:∀c∈ls,fC C c) (hn:ls.length≤1024):(Zp C).Ok 0∧(Tw C am ls).Ok 0:=by
 obtain ⟨b0,b1,b2⟩:=WD hv
 have h1:=ET hv tq.1
 have hlen:(uA C ls).length=ls.length:=aq ..
 refine ⟨((Sv.Fit.new b0 b1).cR (by omega) (fun c hc=>(Cg hv c hc).1)).ok,?_⟩
 exact (((Sv.Fit.new b0 b1).cR (by omega) (fun c hc=>(Ae hv tq c hc).1)).cR (by omega) (fun c hc=>((Ab hv hl c hc).ra (by omega)))).ok
theorem Zo {w w5 w8:World} {H:Qh} {q:Qn} (nJ:∀W,Fr [] w W→iy W H.H q.C) (hv:Valid q.C) {g1 g2:Nat} {L1 L8:aQ} {S1 S8:Sv} (zd:At w5 g1 63 (pL H q L1.a)) (XR:OwnX [g1] w w5 L1 S1) (ok:S1.Ok 0) (P1:At w8 g2 63 (pL H q L8.a)) (JF:OwnX [g2] w5 w8 L8 S8) (h5:w5.heap.size≤g2)
  (A:Option Addr) (c:Nat) (hs:List Ls) (hr:iS w A hs) (hl:∀x∈hs,fC q.C x.l) (hn:hs.length≤1024) (I:Nat→Sv→Prop) (Z:Sv→Prop) (h0:I 0 S1) (hI:∀k,k<hs.length→AY (((hs[k]!).l.map (iN q.C 0)).map fun x=> -x) (I k) (I (k+1)) Z):
  Calls Tryz.prog 16 #[.pointer (some ⟨g1,0,none⟩), .slice A hs.length c, .int .i64 0] w8 fun e w9=>∃b,e= .returned (.bool b)∧(b=false→∃S,Z S)∧Fr [] w w9∧At w9 g2 63 (pL H q L8.a)∧OwnX [g2] w w9 L8 S8:=by
 have jg:=JF.own.fr
 have Ly:=XR.own.fr.aj jg
 have Ho:=XR.more jg (Y:=g2::L8.own w8) (fun k hk=>by
  rcases av.1 hk with rfl |hk
  ·exact ⟨h5,(JF.fx _ (ah.2 rfl)).1⟩
  ·obtain ⟨k1,k2⟩:=aQ.bQ.1 hk
   refine ⟨?_,k1⟩
   rcases bK k w5.heap.size with h |h
   ·exact absurd k2 (JF.own.nw k h)
   ·exact h)
 have hc:=kJ w8 (L1.shut w5) S1 Ho ok g1 H q (jg.at_ zd (by simp)) (by simp) (nJ w8 Ly) hv 0 (by omega) A c hs (hr.keep Ly) hl hn I Z h0 hI
 refine hc.mono ?_
 rintro e w9 ⟨S',b,rfl,-,hb,L',-,Nx,mg⟩
 refine ⟨b,rfl,fun J1=> ?_,Nx.own.fr,mg.at_ P1 (by simp),(JF.yv XR.own.fr).UN (mg.less (fun k hk=>aM _ (aP _ hk))) Nx.own.fr⟩
 rw [if_neg (by rw [J1];decide)] at hb
 exact ⟨_,hb⟩
theorem Zn {w xt:World} {H:Qh} {q:Qn} {g:Nat} {L:aQ} {S:Sv} (hd:At xt g 63 (pL H q L.a)) (ho:OwnX [g] w xt L S) (ok:S.Ok 0) {x:Int} (hx: -1000000≤x∧x≤1000000) (I J Z:Sv→Prop) (hI:I S) (hA:AY [x] I J Z):
  Calls Tryz.prog 30 #[.pointer (some ⟨g,0,none⟩), .slice (some ⟨xt.heap.size,0,none⟩) 1 1] (xt.alloc (.cells #[.int .i64 x] 3)) fun e w'=>∃b,e= .returned (.bool b)∧(if b=true then ∃S,J S else ∃S,Z S)∧Fr [] w w':=by
 obtain ⟨u1,red,qq,D,C,Q,hW,hQ⟩:=hA S hI
 have hf:Fr [] xt (xt.alloc (.cells #[.int .i64 x] 3)):=aN _ _
 have hm:=ho.more hf (Y:=ap (some ⟨xt.heap.size,0,none⟩)) (fun k hk=>by
  simp [ap] at hk
  subst hk
  exact ⟨au _,by simp⟩)
 have rQ:Rd (xt.alloc (.cells #[.int .i64 x] 3)) (some ⟨xt.heap.size,0,none⟩) [x]:=fun _=>⟨_,_,rfl,fun j hj=>by
  have jB:j=0:=by simpa using hj
  subst jB
  exact (At.new xt 3 #[.int .i64 x]).cell 0⟩
 have hc:=rt _ (L.shut xt) S hm ok g H q (hf.at_ hd (by simp)) (some ⟨xt.heap.size,0,none⟩) 1 [x] (hm.Aw rQ (fun k hk=>aM _ hk)) (fun j hj=>by
  have jB:j=0:=by simpa using hj
  subst jB
  exact ⟨by show -9223372036854775808≤x;omega,by show x≤9223372036854775807;omega⟩) (by simp) (by simp) red qq D C Q u1 hW
 refine hc.mono ?_
 rintro e w' ⟨S',r,k1,k2,rfl,L',k3,k4,k5⟩
 have hq:=hQ S' r k1
 refine ⟨r==2,rfl,?_,k4.own.fr⟩
 by_cases h2:r=2
 ·rw [if_pos h2] at hq
  rw [if_pos (by simpa using h2)]
  exact ⟨_,hq⟩
 ·rw [if_neg h2] at hq
  rw [if_neg (by simpa using h2)]
  exact ⟨_,hq⟩
def IvP (Z1 Z2 J Z3:Sv→Prop) (w:World) (e:Ending) (w':World):Prop:=Fr [] w w'∧((e= .returned (.int .i64 0)∧∃S,J S)∨(e= .returned (.int .i64 81)∧((∃S,Z1 S)∨(∃S,Z2 S)∨∃S,Z3 S)))
theorem na (w:World) (H:Qh) (q:Qn) (h:m8 w H q) (A:Option Addr) (c:Nat) (hs:List Ls) (hr:iS w A hs) (hR:dz q (hs.map (·.l))=0) (hn:hs.length≤1024)
  (I1 I2:Nat→Sv→Prop) (Z1 Z2 J Z3:Sv→Prop) (h1:I1 0 (Zp q.C)) (uK:∀k,k<hs.length→AY (((hs[k]!).l.map (iN q.C 0)).map fun x=> -x) (I1 k) (I1 (k+1)) Z1)
  (h2:I2 0 (Tw q.C (q.am.map (·.l)) (hs.map (·.l)))) (hI2:∀k,k<hs.length→AY (((hs[k]!).l.map (iN q.C 1)).map fun x=> -x) (I2 k) (I2 (k+1)) Z2)
  (h3:AY [dv 0 (q.C.a8[q.bad.toNat]!)] (I2 hs.length) J Z3):
  Calls Tryz.prog 18 #[jv H q, .slice A hs.length c] w (IvP Z1 Z2 J Z3 w):=by
 obtain ⟨w1,dO⟩:∃W,w.alloc (.cells (jR H q) 30)=W:=⟨_,rfl⟩
 have cU:Fr [] w w1:=dO▸aN _ _
 have dy:=ae cU
 have lQ:al (At w1 w.heap.size 30 (jR H q)):=dO▸At.new _ _ _
 have nv:al (∀c∈hs.map (·.l),Ra c):=fun c hc=>by
  obtain ⟨y,hy,rfl⟩:=az.1 hc
  obtain ⟨k,hk,rfl⟩:=List.getElem_of_mem hy
  have :=(hr.2 k hk).2.1
  rw [aa,af hk] at this
  exact this
 have Uf:al (∀W,Fr [] w1 W→Calls Tryz.prog 11 #[jv H q, .slice A hs.length c] W fun e w'=>e= .returned (.int .i64 0)∧Fr [] W w'):=fun W hW=>by
  have :=rC W H q ((h.keep cU).keep hW) A c hs ((hr.keep cU).keep hW) (by omega)
  rw [hR] at this
  exact this
 obtain ⟨k1,k2,k3⟩:=oT hR nv.o
 obtain ⟨hv,J0,tq⟩:=Mp k1
 have NI:∀x∈hs,fC q.C x.l:=fun x hx=>k3 _ (az.2 ⟨x,hx,rfl⟩)
 have tn:∀x∈hs.map (·.l),fC q.C x:=k3
 have LF:(hs.map (·.l)).length≤1024:=by rw [aq];exact hn
 have hz:=h.zero
 obtain ⟨H',hH'⟩:∃H',LW H=H':=⟨_,rfl⟩
 obtain ⟨q',TM⟩:∃q',q00 q=q':=⟨_,rfl⟩
 have hC:q'.C=q.C:=by rw [←TM];rfl
 have hAm:q'.am=q.am:=by rw [←TM];rfl
 have hBd:q'.bad=q.bad:=by rw [←TM];rfl
 have hLs:q'.ls=[]:=by rw [←TM];rfl
 have hKs:q'.ks=[]:=by rw [←TM];rfl
 rw [hH',TM] at hz
 simp only [←hC,←hAm,←hBd] at h1 uK h2 hI2 h3 hv J0 tq NI tn
 have nJ:=hz.c
 have Yo:al (∀W,Fr [] w W→iy W H'.H q'.C):=fun W hW=>nJ.keep hW
 have HQZ:al (∀W,Fr [] w W→m8 W H' q'):=fun W hW=>hz.keep hW
 have Yf:=ae hr
 obtain ⟨k1,k2,-⟩:=J0
 obtain ⟨bd,J0⟩:∃bd:Nat,q'.bad=(bd:Int):=⟨q'.bad.toNat,by omega⟩
 have aa2:bd<q'.C.a8.length:=by omega
 rw [show q'.bad.toNat=bd by omega] at h3
 obtain ⟨bb,bo,hbA,hbc⟩:=nJ.b (by omega)
 have XL:0≤q'.C.a8[bd]! ∧q'.C.a8[bd]! ≤4097:=by
  have :=Ef hv _ (bu aa2)
  have :=hv.m1
  omega
 have HBC:=ae (fun W (hW:Fr [] w W)=>hW.aT (hbc bd aa2))
 obtain ⟨xb,np⟩:∃xb,q'.C.a8[bd]! =xb:=⟨_,rfl⟩
 simp only [np] at h3 XL HBC
 have Cn:=oh (b:=0) (l:=xb) (by omega) XL
 have KLT:=ae (fun W=>ss W 0 xb (by omega) XL)
 obtain ⟨Y,hY⟩:∃Y,dv 0 xb=Y:=⟨_,rfl⟩
 simp only [hY] at h3 Cn KLT
 have tm:=Zm hv tq tn LF
 have KFI:=ae (fun W (hW:Fr [] w W)=>zA W H'.H q'.C (nJ.keep hW) hv)
 have DB:=ae (fun W (hW:Fr [] w W)=>BD W H'.H q'.C (nJ.keep hW) hv 0 (by omega))
 have aa4:eZ q'.C 0≤262144:=by unfold eZ;omega
 have KFR:=ae (fun W (hW:Fr [] w W)=>zz W H' q' (hz.keep hW) hv hLs hKs (tq.agh hv.m1) (by have :=tq.1;rw [aq] at this;exact this) 0 (by omega) aa4)
 have KL1:=ae (fun W (hW:Fr [] w W) A c (hs:List Ls) (k1:iS W A hs) (k2:∀k∈yw A hs,k<W.heap.size) (k3:hs.map (·.l)=qi q'.C q'.C.bi.length)=>M5 (H:=H') (q:=q') Yo.o hv hW (c:=c) k1 k2 k3 28)
 have Yc:=ae (fun W (hW:Fr [] w W) A c (hs:List Ls) A' c' (iW:List Ls) (k1:iS W A hs) (k2:∀k∈yw A hs,k<W.heap.size) (k4:iS W A' iW) (k5:∀k∈yw A' iW,k<W.heap.size) (k3:hs.map (·.l)=iP q'.C (q'.am.map (·.l)) 0) (k6:iW.map (·.l)=og q'.C 0 q'.C.bi.length)=>M4 (H:=H') (q:=q') Yo.o hv tq hW (c:=c) (c':=c') k1 k2 k4 k5 k3 k6 28)
 have Bl:al (∀(w6:World) (g a:Nat),Fr [] w w6→At w6 g 63 (pL H' q' a)→Calls Tryz.prog 15 #[.pointer (some ⟨g,0,none⟩), .slice A hs.length c, .int .i64 0] w6 fun e w'=>∃A' c' iW,e= .returned (.slice A' iW.length c')∧NwLs w' w6.heap.size A' c' iW∧iW.map (·.l)=uA q'.C (hs.map (·.l))∧Fr [] w6 w'):=fun w6 g a tf hd=>sL w6 g a H' q' hd (nJ.keep tf) hv 0 (by omega) A c hs (hr.keep tf) NI hn
 have KAL:al (∀(w5 w6 w7:World) (g:Nat) (L:aQ),At w6 g 63 (pL H' q' L.a)→OwnX [g] w5 w6 L (Zq q'.C (q'.am.map (·.l)))→∀A7 c7 pE,NwLs w7 w6.heap.size A7 c7 pE→pE.map (·.l)=uA q'.C (hs.map (·.l))→Fr [] w6 w7→Calls Tryz.prog 14 #[.pointer (some ⟨g,0,none⟩), .slice A7 pE.length c7] w7 fun e w8=>e= .returned (.tuple #[])∧∃L8,L8.a=L.a∧At w8 g 63 (pL H' q' L8.a)∧OwnX [g] w5 w8 L8 (Tw q'.C (q'.am.map (·.l)) (hs.map (·.l)))):=
  fun w5 w6 w7 g L hd ho A7 c7 pE DU Bc gG=>Va hv tn LF tq hd ho DU Bc gG
 have KF1:al (∀(wq:World),Fr [] w wq→∀(w5 w8:World) (g1 g2:Nat) (L1 L8:aQ),At w5 g1 63 (pL H' q' L1.a)→OwnX [g1] wq w5 L1 (Zp q'.C)→At w8 g2 63 (pL H' q' L8.a)→OwnX [g2] w5 w8 L8 (Tw q'.C (q'.am.map (·.l)) (hs.map (·.l)))→w5.heap.size≤g2→Calls Tryz.prog 16 #[.pointer (some ⟨g1,0,none⟩), .slice A hs.length c, .int .i64 0] w8 fun e w9=>∃b,e= .returned (.bool b)∧(b=false→∃S,Z1 S)∧Fr [] wq w9∧At w9 g2 63 (pL H' q' L8.a)∧OwnX [g2] wq w9 L8 (Tw q'.C (q'.am.map (·.l)) (hs.map (·.l)))):=
  fun wq Hi w5 w8 g1 g2 L1 L8 d1 o1 d8 o8 hg=>Zo (fun W hW=>Yo.o W (Hi.aj hW)) hv d1 o1 tm.1 d8 o8 hg A c hs (hr.keep Hi) NI hn I1 Z1 h1 uK
 have KF2:al (∀(wq:World),Fr [] w wq→∀(w9:World) (g2:Nat) (L8:aQ),Fr [] wq w9→At w9 g2 63 (pL H' q' L8.a)→OwnX [g2] wq w9 L8 (Tw q'.C (q'.am.map (·.l)) (hs.map (·.l)))→Calls Tryz.prog 16 #[.pointer (some ⟨g2,0,none⟩), .slice A hs.length c, .int .i64 1] w9 (FoP [g2] wq w9 L8.a (I2 hs.length) Z2)):=
  fun wq Hi w9 g2 L8 hf hd ho=>kJ w9 L8 _ ho tm.2 g2 H' q' hd (by simp) (nJ.keep (Hi.aj hf)) hv 1 (by omega) A c hs (hr.keep (Hi.aj hf)) NI hn I2 Z2 h2 hI2
 have WP:al (∀(wq:World),Fr [] w wq→∀(xt:World) (g:Nat) (L:aQ) (S:Sv),At xt g 63 (pL H' q' L.a)→OwnX [g] wq xt L S→S.Ok 0→I2 hs.length S→Calls Tryz.prog 30 #[.pointer (some ⟨g,0,none⟩), .slice (some ⟨xt.heap.size,0,none⟩) 1 1] (xt.alloc (.cells #[.int .i64 Y] 3)) fun e w'=>∃b,e= .returned (.bool b)∧(if b=true then ∃S,J S else ∃S,Z3 S)∧Fr [] wq w'):=
  fun wq Hi xt g L S hd ho ok hI=>Zn hd ho ok Cn _ J Z3 hI h3
 have Br:al (∀(W:World),At W w.heap.size 30 (jR H' q')→W.cell? ⟨w.heap.size,4,none⟩=some (.slice (some ⟨bb,bo,none⟩) q'.C.a8.length H'.H.bC)∧W.cell? ⟨w.heap.size,11,none⟩=some (.int .i64 (bd:Int))):=fun W hW=>by
  obtain ⟨-,-,-,-,p4,-,-,-,-,-,-,p11,-,-⟩:=gD hW
  rw [hbA] at p4
  rw [J0] at p11
  exact ⟨p4,p11⟩
 have hsw:∀W,At W w.heap.size 30 (jR H q)→At ((W.setCell ⟨w.heap.size,9,none⟩ (.slice none 0 0)).setCell ⟨w.heap.size,10,none⟩ (.slice none 0 0)) w.heap.size 30 (jR H' q'):=fun W hW=>by
  have :=(hW.eo 9 (.slice none 0 0)).eo 10 (.slice none 0 0)
  rw [←hH',←TM]
  exact this
 have sO:=ae hsw
 have HQC:=ae (fun W (hW:At W w.heap.size 30 (jR H' q'))=>gD hW)
 simp only [jv,jR] at Uf KL1 Yc KFR dO⊢
 simp only [eX,kj] at KFI DB
 clear h hr hR hz nJ hv tq NI tn LF tm Cn hY hbA hbc J0 np XL h1 uK h2 hI2 h3 hsw hC hAm hBd hLs hKs hH' TM aa4 k1 k2 cU nv Yf
 go_enter Tryz.func18,Tryz.ntmps18
 go_upto_region 1 with fail
 obtain ⟨q0,q1,q2,q3,q4,q5,q6,q7,q8,q9,jo,jI,jH,jG⟩:=gD lQ.o
 go_wp2_with fail
 refine (Uf.o _ (Fr.refl _ w1)).mono ?_
 clear q0 q1 q2 q3 q4 q5 q6 q7 q8 q9 jo jI jH jG
 clear Uf
 rintro e w2 ⟨rfl,bZ⟩
 have cH:=ae (dy.o.aj bZ)
 have oH:=ae (lQ.o.keep bZ)
 clear dy lQ bZ dO
 have r9:=oH.o.cell 9
 have YL:=oH.o.cell 10
 simp [jR] at r9 YL
 have f9:=oH.o.frozen 9
 have f10:=oH.o.frozen 10
 go_upto_region 5 with fail
 obtain ⟨wq,Hi⟩:∃W,(w2.setCell ⟨w.heap.size,9,none⟩ (.slice none 0 0)).setCell ⟨w.heap.size,10,none⟩ (.slice none 0 0)=W:=⟨_,rfl⟩
 rw [Hi]
 have HQQ:=ae (sO.o _ oH.o)
 rw [Hi] at HQQ
 have Mh:al (Fr [] w wq):=by
  rw [←Hi]
  exact (cH.o.setCell (.inr (au _)) _).setCell (.inr (au _)) _
 clear sO cH oH r9 YL f9 f10 Hi
 have KF1:=ae (KF1.o wq Mh.o)
 have KF2:=ae (KF2.o wq Mh.o)
 have WP:=ae (WP.o wq Mh.o)
 refine wp_region_noPanic ?_
 refine bp (fun w':World=>Fr [] wq w') 5 (by kernel_rfl) ((Fr.refl _ wq).drew) (fun db=> ?_)
 refine TB 3 [(0,[0,5]),(1,[]),(2,[2,3,5])] db ?_ (hr:=by (repeat (apply Ss;rfl;rfl;(intro w cm;(try (have cm:=cm.resolve_left (List.cons_ne_nil _ _);(obtain ⟨q0,q1,q2,q3,q4,q5,q6,q7,q8,q9,jo,jI,jH,jG⟩:=HQC.o _ (HQQ.o.keep cm))));go_simp<;>with_reducible rfl);try simp only [Act.put,q5,q6,q7]));exact Sr);intro db
 refine R2 3 db fun K hK aH=> ?_
 (go_simp;refine (KFI.o _ (Mh.o.aj aH)).mono ?_;rintro e w3 ⟨A3,c3,PW,rfl,CF,XS,dD⟩;dsimp only);have mv:=ae CF;have Us:=ae XS;have cZ:=ae (aH.aj dD);clear CF XS dD
 refine hK.out _ _ (.inr ?_) (fun Hy=> ?_)
 ·first |exact cZ.o |exact aH.alloc _ |exact aH
 clear hK K
 try simp only [Act.put,q5,q6,q7]
 refine R2 4 Hy fun K hK aH=> ?_
 go_simp
 refine hK.out _ _ (.inr ?_) (fun D2=> ?_)
 ·first |exact cZ.o |exact aH.alloc _ |exact aH
 clear hK K
 try simp only [Act.put,q5,q6,q7]
 refine R2 5 D2 fun K hK aH=> ?_
 (go_simp;refine (KL1.o _ (Mh.o.aj cZ.o) _ _ _ mv.o.Ew (fun k hk=>(mv.o.marks k hk).2) Us.o).mono ?_;rintro e w5 ⟨g1,L1,rfl,hg1,zd,XR⟩;dsimp only);have yr:=ae zd;have j4:=ae (XR.yv aH);clear hg1 zd XR KL1 KFI mv Us cZ
 refine hK.out _ _ (.inl rfl) (fun LU=> ?_)
 clear hK K
 try simp only [Act.put,q5,q6,q7]
 refine R1 (i:=6) (o:= ?aiz) (by kernel_rfl) (by rfl) ?_
 intro K hK
 go_simp
 refine hK.out _ _ (.inl rfl) (fun X4=> ?_)
 clear hK K
 try simp only [Act.put,q5,q6,q7]
 refine fo ?_
 have kN:=ae (Mh.o.aj j4.o.own.fr)
 have Ix:=ae (HQQ.o.keep j4.o.own.fr)
 try clear aH
 try clear db
 go_upto_region 6 with fail
 refine wp_region_noPanic ?_
 refine bp (fun w':World=>Fr [] w5 w') 7 (by kernel_rfl) ((Fr.refl _ w5).drew) (fun db=> ?_)
 refine TB 4 [(0,[0,7]),(1,[1,2,6,7]),(3,[]),(4,[4,5,7])] db ?_ (hr:=by (repeat (apply Ss;rfl;rfl;(intro w cm;(try (have cm:=cm.resolve_left (List.cons_ne_nil _ _);(obtain ⟨q0,q1,q2,q3,q4,q5,q6,q7,q8,q9,jo,jI,jH,jG⟩:=HQC.o _ (Ix.o.keep cm))));go_simp<;>with_reducible rfl);try simp only [Act.put,q5,q6,q7]));exact Sr);intro db
 refine R2 2 db fun K hK aH=> ?_
 (go_simp;refine (KFR.o _ (kN.o.aj aH)).mono ?_;rintro e wF ⟨AF,cF,hsF,rfl,hnF,hmF,hfF⟩;dsimp only);have HNF:=ae hnF;have xH:=ae hmF;have Ux:=ae hfF;clear hnF hmF hfF
 refine hK.out _ _ (.inr ?_) (fun D2=> ?_)
 ·first |exact aH.aj Ux.o |exact aH.aj Qf.o |exact aH.alloc _ |exact aH
 clear hK K
 try simp only [Act.put,q5,q6,q7]
 refine R2 5 D2 fun K hK aH=> ?_
 (go_simp;refine (DB.o _ (kN.o.aj aH)).mono ?_;rintro e wL ⟨AL,cL,hsL,rfl,hnL,hmL,hfL⟩;dsimp only);have Lb:=ae hnL;have Me:=ae hmL;have Qf:=ae hfL;clear hnL hmL hfL
 refine hK.out _ _ (.inr ?_) (fun LU=> ?_)
 ·first |exact aH.aj Ux.o |exact aH.aj Qf.o |exact aH.alloc _ |exact aH
 clear hK K
 try simp only [Act.put,q5,q6,q7]
 refine R2 6 LU fun K hK aH=> ?_
 (have HSB:=ae aH;go_simp)
 refine hK.out _ _ (.inr ?_) (fun X4=> ?_)
 ·first |exact aH.aj Ux.o |exact aH.aj Qf.o |exact aH.alloc _ |exact aH
 clear hK K
 try simp only [Act.put,q5,q6,q7]
 refine R2 7 X4 fun K hK aH=> ?_
 (go_simp;refine (Yc.o _ (kN.o.aj HSB.o) _ _ _ _ _ _ (by first |exact HNF.o.Ew |exact HNF.o.Ew.keep Qf.o) (by first |exact (fun k hk=>(HNF.o.marks k hk).2) |exact (fun k hk=>aK (HNF.o.marks k hk).2 Qf.o.size)) (by first |exact Lb.o.Ew |exact Lb.o.Ew.keep Ux.o) (by first |exact (fun k hk=>(Lb.o.marks k hk).2) |exact (fun k hk=>aK (Lb.o.marks k hk).2 Ux.o.size)) xH.o Me.o).mono ?_;rintro e w6 ⟨g2,L2,rfl,eY,rl,Z7⟩;dsimp only);have rV:=ae (aF aH.size eY);have Mi:=ae rl;have ul:=ae (Z7.yv aH);clear eY rl Z7 Yc KFR DB HNF xH Ux Lb Me Qf HSB
 refine hK.out _ _ (.inl rfl) (fun Wi=> ?_)
 clear hK K
 try simp only [Act.put,q5,q6,q7]
 refine R1 (i:=8) (o:= ?aiy) (by kernel_rfl) (by rfl) ?_
 intro K hK
 go_simp
 refine hK.out _ _ (.inl rfl) (fun P2=> ?_)
 clear hK K
 try simp only [Act.put,q5,q6,q7]
 refine fo ?_
 have ik:=ae (Mh.o.aj (j4.o.own.fr.aj ul.o.own.fr))
 try clear aH
 try clear db
 have KA:=ae (Bl.o w6 g2 L2.a ik.o Mi.o)
 clear Bl ik
 go_wp2_with fail
 refine KA.o.mono ?_
 clear KA
 rintro e w7 ⟨A7,c7,pE,rfl,DU,Bc,gG⟩
 have KB:=ae (KAL.o w5 w6 w7 g2 L2 Mi.o ul.o A7 c7 pE DU Bc gG)
 clear DU Bc gG KAL Mi ul
 go_wp2_with fail
 refine KB.o.mono ?_
 clear KB
 rintro e w8 ⟨rfl,L8,-,P1,JF⟩
 have KC:=ae (KF1.o w5 w8 g1 g2 L1 L8 yr.o j4.o P1 JF rV.o)
 clear P1 JF KF1 yr j4 rV
 go_wp2_with fail
 refine KC.o.mono ?_
 clear KC
 rintro e w9 ⟨b1,rfl,nc,ow,hd9,Nx⟩
 have tG:=ae ow
 have HZ1:=ae nc
 have KD:=ae (KF2.o w9 g2 L8 ow hd9 Nx)
 have Yn:=ae hd9
 clear ow nc hd9 Nx KF2
 cases b1 with
 |false=>
  clear KD
  obtain ⟨sz,nq⟩:=HZ1.o rfl
  have HSZ:=ae nq
  clear HZ1 nq
  go_wp2
  go_ret
  exact ⟨Mh.o.aj tG.o, .inr ⟨rfl, .inl ⟨sz,HSZ.o⟩⟩⟩
 |true=>
  clear HZ1 tG
  go_wp2_with fail
  refine KD.o.mono ?_
  clear KD
  rintro e xt ⟨S10,b2,rfl,tm,jh,L10,Wo,Rr,mg⟩
  have xp:=ae Rr.own.fr
  have qE:=ae jh
  cases b2 with
  |false=>
   clear tm jh Wo Rr mg
   go_wp2
   go_ret
   exact ⟨Mh.o.aj xp.o, .inr ⟨rfl, .inr (.inl ⟨S10,qE.o⟩)⟩⟩
  |true=>
   have KE:=ae (WP.o xt g2 L10 S10 (by rw [Wo];exact mg.at_ Yn.o (by simp)) Rr tm jh)
   have ahn:=ae (HQQ.o.keep xp.o)
   obtain ⟨p4,p11⟩:=Br.o xt ahn.o
   have cb:=HBC.o xt (Mh.o.aj xp.o)
   clear tm jh Wo Rr mg qE WP Yn
   go_wp2_with fail
   refine (KLT.o _).mono ?_
   rintro e w11 ⟨rfl,rfl⟩
   go_wp2_with fail
   refine KE.o.mono ?_
   clear KE p4 p11 cb
   rintro e w12 ⟨b3,rfl,X0,aaK⟩
   have Td:=ae X0
   have acp:=ae aaK
   clear X0 aaK
   cases b3 with
   |false=>
    go_wp2
    go_ret
    exact ⟨Mh.o.aj acp.o, .inr ⟨rfl, .inr (.inr Td.o)⟩⟩
   |true=>
    go_wp2
    go_ret
    exact ⟨Mh.o.aj acp.o, .inl ⟨rfl,Td.o⟩⟩
end Go.Proofs.YtdgplmgfkliijaaGreat
