/- Parts of a proof. -/
import Derived.Test.YtjmmpfjcpdepjaaGreatDoorGAN
set_option linter.unusedVariables false
set_option linter.unusedSimpArgs false
set_option maxHeartbeats 4000000
namespace Go.Proofs.YtjmmpfjcpdepjaaGreatDoor
open Go.RowKit
def qK (H:Qh)(q:Qn)(a:Nat):Array Value:=
 #[.int .i64 q.C.mx, .slice H.H.iA q.C.ins.length H.H.iC, .slice H.H.lA q.C.aM.length H.H.lC, .slice H.H.oA q.C.outs.length H.H.oC, .slice H.H.bA q.C.aT.length H.H.bC, .slice H.H.vA q.C.aU.length H.H.vC, .slice H.H.gA q.C.az.length H.H.gC, .slice H.H.nA q.C.bY.length H.H.nC,
  .slice H.aA q.am.length H.aC, .slice H.lA q.ls.length H.lC, .slice H.kA q.ks.length H.kC, .int .i64 q.bad, .int .i64 q.dep, .int .i64 q.yL, .pointer (some ⟨a,0,none⟩)]
theorem Rs {w:World}{g a:Nat}{H:Qh}{q:Qn}(h:At w g 83 (qK H q a)):
  w.cell? ⟨g,0,none⟩=some (.int .i64 q.C.mx)/\w.cell? ⟨g,1,none⟩=some (.slice H.H.iA q.C.ins.length H.H.iC)/\w.cell? ⟨g,2,none⟩=some (.slice H.H.lA q.C.aM.length H.H.lC)/\w.cell? ⟨g,3,none⟩=some (.slice H.H.oA q.C.outs.length H.H.oC)/\
  w.cell? ⟨g,4,none⟩=some (.slice H.H.bA q.C.aT.length H.H.bC)/\w.cell? ⟨g,5,none⟩=some (.slice H.H.vA q.C.aU.length H.H.vC)/\w.cell? ⟨g,6,none⟩=some (.slice H.H.gA q.C.az.length H.H.gC)/\w.cell? ⟨g,7,none⟩=some (.slice H.H.nA q.C.bY.length H.H.nC)/\w.cell? ⟨g,14,none⟩=some (.pointer (some ⟨a,0,none⟩)):=by
 refine⟨?_,?_,?_,?_,?_,?_,?_,?_,?_⟩<;>(rw[h.cell];rfl)
def fU (C:Pc)(l:List Int):Prop:=l.length<=1024/\∀n∈l,n≠0/\ -(C.aM.length:Int)<=n/\n<=C.aM.length
theorem IJ (w:World)(g a:Nat)(H:Qh)(q:Qn)(hd:At w g 83 (qK H q a))(h:fH w H.H q.C)(hv:Valid q.C)(f:Int)(hf:0<=f/\f<=80)(A:Option Addr)(c:Nat)(l:List Int)(hr:Rd w A l)(hl:fU q.C l):
  Calls Tryz.prog 42 #[.pointer (some ⟨g,0,none⟩), .slice A l.length c, .int .i64 f] w fun e w'=>∃A' c',e= .returned (.slice A' l.length c')/\Ints w' A' c' (l.map (jp q.C f))/\(∀k,k∈ak A'->w.heap.size<=k)/\Fr [] w w':=by
 have KL:=aa (fun W (hW:Fr [] w W) n hn=>AT W H.H q.C (h.keep hW) hv f hf n hn);have HDK:=aa hd;have HH:=aa hr;have HR:=aa hl.2;have zd:=hl.1;have zI:=aa (fun n hn=>vx hv (f:=f) (n:=n) (by omega) hn);have mj:=hv.l;have rD:Hid (Ra l):=(eD (p:=eh)).2 fun x hx=>by have :=hl.2 x hx;exact⟨by omega,by omega⟩
 clear hd h hv hr hl;go_enter Tryz.func42,Tryz.ntmps42;go_wp2_with fail;go_loopg [7,12] l.length (fun gk x7 Yq wr=>∃(k:Nat) (A':Option Addr) (c':Nat) (ys:List Int),k+gk=l.length/\x7= .slice A' ys.length c'/\Yq= .int .i64 k/\Hid (Ints wr A' c' ys)/\Hid (ys=(l.take k).map (jp q.C f))/\Hid (∀k,k∈ak A'->w.heap.size<=k)/\Hid (Fr [] w wr));case atStart=>exact⟨0,none,0,[],by omega,rfl,rfl,World.ownsRow_nil _ 0 _ 1,rfl,fun k hk=>by simp[ak]at hk,Fr.refl _ _⟩
 case round=>
  obtain⟨k,A',c',ys,hk,rfl,rfl,HI,HY,HN,HF⟩:=hrel;have HK:=aa hk;have jg:k<=l.length:=by omega
  have hyl:ys.length<=k:=by rw[HY.out,aq,bp];omega
  clear hk;by_cases bw:k<l.length
  ·obtain⟨ab,o,x,hA,he,cx,fN,gd⟩:=(HH.out.keep HF.out).one rD.out bw;subst hA;have mW:=aa (pg (jp q.C f) bw);rw[he.out]at mW;have kR:=HR.out x (by rw[<-he.out];exact a8 bw);have Wi:=KL.out wr HF.out x kR;have xg:=zI.out x kR;obtain⟨v,oH⟩:∃v,jp q.C f x=v:=⟨_,rfl⟩
   rw[oH]at Wi xg mW;have Wi:=aa Wi;clear kR oH;obtain⟨d0,d1,d2,d3,d4,d5,d6,d7,d14⟩:=Rs (HDK.out.keep HF.out);have m8:Hid (dj H.H q.C= .agg #[.int .i64 q.C.mx, .slice H.H.iA q.C.ins.length H.H.iC, .slice H.H.lA q.C.aM.length H.H.lC, .slice H.H.oA q.C.outs.length H.H.oC, .slice H.H.bA q.C.aT.length H.H.bC, .slice H.H.vA q.C.aU.length H.H.vC, .slice H.H.gA q.C.az.length H.H.gC, .slice H.H.nA q.C.bY.length H.H.nC]):=(rfl :_=_)
   go_wp2_with fail;rw[m8.out]at Wi;refine Wi.out.mono ?_;rintro e w3 ⟨rfl,dh⟩;have db:=aa dh;clear dh Wi d0 d1 d2 d3 d4 d5 d6 d7 d14;obtain⟨wb,fh⟩:∃W,w3.alloc (.cells #[.int .i64 v] 3)=W:=⟨_,rfl⟩
   have gm:Hid (Fr [] w3 wb):=fh▸aH _ _;have kq:wb.cell? ⟨w3.heap.size,0,none⟩=some (.int .i64 v):=by rw[<-fh];exact(At.new w3 3 #[.int .i64 v]).cell 0
   go_wp2_with (at_builtin;(refine dd _ rfl _ _ rfl A' c' ys ys.length rfl rfl (HI.out.fr (db.out.ag gm.out) (fun _ _ hm=>by cases hm)) ⟨w3.heap.size,0,none⟩ 1 v rfl kq (by omega) ?_;intro g cap w4 gV ro hg Tj;have CY:=aa gV;have gY:Hid (Fr [] w w4):=((HF.out.ag db.out).ag gm.out).trans ro (fun x hx=> .inr (HN.out x hx));have Jo:Hid (w.heap.size<=g):=(by rcases hg with h1 |h1;(exact HN.out g h1);(have :=HF.out.size;have :=db.out.size;have :=gm.out.size;omega):w.heap.size<=g);clear kq gV ro hg Tj))
   clear fh;go_roundg (gk-1);case measure=>have :=HK.out;omega
   case rel=>exact⟨k+1,some ⟨g,0,none⟩,cap,ys++[v],by have :=HK.out;omega,by simp,by go_num,CY.out,(by rw[mW.out,HY.out]:ys++[v]=(l.take (k+1)).map (jp q.C f)),fun j hj=>by simp[ak]at hj;subst hj;exact Jo.out,gY.out⟩
  ·obtain rfl :k=l.length:=by omega
   have hy:ys=l.map (jp q.C f):=by rw[HY.out,cN]
   have P8:ys.length=l.length:=by rw[hy,aq]
   have X0:=aa hy;rw[P8];clear HK hy HY;go_wp2_with fail;go_ret;exact⟨A',c',rfl,by rw[<-X0.out];exact HI.out,HN.out,HF.out⟩
theorem tV (w:World)(g a:Nat)(H:Qh)(q:Qn)(hd:At w g 83 (qK H q a))(h:fH w H.H q.C)(hv:Valid q.C)(f:Int)(hf:0<=f/\f<=80)(A:Option Addr)(c:Nat)(ls:List Ls)(hr:j3 w A ls)(hl:∀x∈ls,fU q.C x.l)(hn:ls.length<=1024):
  Calls Tryz.prog 21 #[.pointer (some ⟨g,0,none⟩), .slice A ls.length c, .int .i64 f] w fun e w'=>∃A' c' hs,e= .returned (.slice A' hs.length c')/\NwLs w' w.heap.size A' c' hs/\hs.map (·.l)=(ls.map (·.l)).map (fun l=>l.map (jp q.C f))/\Fr [] w w':=by
 have KO:=aa (fun W (hW:Fr [] w W) A c l hr hl=>IJ W g a H q (hd.keep hW) (h.keep hW) hv f hf A c l hr hl);have zI:=aa (fun n hn=>vx hv (f:=f) (n:=n) (by omega) hn);have HR:=aa hr;have HFN:=aa hl;clear hd h hv hr hl;go_enter Tryz.func21,Tryz.ntmps21;go_wp2_with fail;go_loopg [7,12] ls.length (fun gk x7 Yq wr=>∃(k:Nat) (A':Option Addr) (c':Nat) (hs:List Ls),k+gk=ls.length/\x7= .slice A' hs.length c'/\Yq= .int .i64 k/\Hid (NwLs wr w.heap.size A' c' hs)/\Hid (hs.map (·.l)=((ls.map (·.l)).take k).map (fun l=>l.map (jp q.C f)))/\Hid (Fr [] w wr));case atStart=>exact⟨0,none,0,[],by omega,rfl,rfl,NwLs.nil _ _,rfl,Fr.refl _ _⟩
 case round=>
  obtain⟨k,A',c',hs,hk,rfl,rfl,HN,HE,HF⟩:=hrel;have HK:=aa hk;have jg:k<=ls.length:=by omega
  have rl:hs.length<=k:=by have :=HN.out.ic HE.out;rw[aq,bp,aq]at this;omega
  clear hk;by_cases bw:k<ls.length
  ·obtain⟨ab,o,B1,d1,l1,hA,he,xu,MQ⟩:=(HR.out.keep HF.out).one bw;subst hA;have CP:k<(ls.map (·.l)).length:=by rw[aq];exact bw
   have NY:=aa (tD (fun l:List Int=>l.map (jp q.C f)) CP);have If:(ls.map (·.l))[k]! =l1:=by have :=he.out;rw[ae,af bw]at this;simp only[ay]at this;rw[ae,aJ,af bw];simp[this]
   rw[If]at NY;have Ki:fU q.C l1:=by have :=HFN.out (ls[k]!) (a8 bw);rw[he.out]at this;exact this
   have zd:l1.length<=1024:=Ki.1;have TA:=aa Ki;have KCX:=aa (KO.out wr HF.out B1 d1 l1 MQ.1 Ki);clear CP If MQ Ki;go_wp2_with fail;refine KCX.out.mono ?_;rintro e w3 ⟨B2,d2,rfl,pt,qE,bW⟩;have nZ:=aa pt;have jw:=aa qE;have cw:=aa bW;clear pt qE bW KCX;obtain⟨wb,fh⟩:∃W,w3.alloc (.cells #[.slice B2 l1.length d2] 22)=W:=⟨_,rfl⟩
   have gm:Hid (Fr [] w3 wb):=fh▸aH _ _;have qq:=aa (nZ.out.fr gm.out (fun _ _ hm=>by cases hm));have oM:wb.cell? ⟨w3.heap.size,0,none⟩=some (.slice B2 l1.length d2):=by have :=(At.new w3 22 #[.slice B2 l1.length d2]).cell 0;rw[fh]at this;simpa using this
   have yv:=aa oM;have sU:Hid (w.heap.size<=wr.heap.size):=HF.out.size;have pB:Hid ((l1.map (jp q.C f)).length=l1.length):=(aq .. :_=_)
   have Fo:Hid (Ra (l1.map (jp q.C f))):=(eD (p:=eh)).2 fun x hx=>by obtain⟨y,hy,rfl⟩:=aG.1 hx;have :=zI.out y (TA.out.2 y hy);exact⟨by omega,by omega⟩
   clear oM;go_wp2_with (at_builtin;(refine iX _ rfl _ _ rfl A' c' hs (HN.out.keep cw.out) gm.out (aE sU.out (aE cw.out.size gm.out.size)) hs.length rfl rfl ⟨w3.heap.size,0,none⟩ 1 1 [⟨B2,d2,l1.map (jp q.C f)⟩] rfl rfl (fun j hj=>by(have :j=0:=by simpa using hj);subst this;rw[dH];show _=some (Value.slice B2 (l1.map (jp q.C f)).length d2);rw[pB.out];exact yv.out) (fun h hh=>by(have :=ai.1 hh);subst this;exact⟨qq.out,Fo.out,by show(l1.map (jp q.C f)).length<=_;rw[pB.out];omega,fun k hk=>aE sU.out (jw.out k hk)⟩) (by simp;omega) ?_;intro A4 c4 w4 uX eS;have yq:=aa uX;have gY:=aa (((HF.out.ag cw.out).ag gm.out).trans eS (fun k hk=> .inr (HN.out.new k hk)));clear uX eS))
   clear fh;go_roundg (gk-1);case measure=>have :=HK.out;omega
   case rel=>exact⟨k+1,A4,c4,hs++[(⟨B2,d2,l1.map (jp q.C f)⟩:Ls)],by have :=HK.out;omega,by simp,by go_num,yq.out,(by rw[bH,HE.out,NY.out];rfl :_=_),gY.out⟩
  ·obtain rfl :k=ls.length:=by omega
   have dn:Hid (hs.map (·.l)=(ls.map (·.l)).map (fun l=>l.map (jp q.C f))):=by have :=HE.out;rw[dC (by rw[aq];exact ap _)]at this;exact this
   clear HK HE;go_wp2_with fail;go_ret;exact⟨A',c',hs,rfl,HN.out,by rw[dn.out,List.map_map],HF.out⟩
theorem IK (w:World)(A:Option Addr)(c:Nat)(l:List Int)(h:Rd w A l)(hr:∀x∈l,-1000000<=x/\x<=1000000)(hl:l.length<=1048576):
  Calls Tryz.prog 44 #[.slice A l.length c] w fun e w'=>∃A' c',e= .returned (.slice A' l.length c')/\Ints w' A' c' (l.map fun x=> -x)/\(∀k,k∈ak A'->w.heap.size<=k)/\Fr [] w w':=by
 have HH:=aa h;have HR:=aa hr;have rD:Hid (Ra l):=(eD (p:=eh)).2 fun x hx=>by have :=hr x hx;exact⟨by omega,by omega⟩
 have HM:=aa (DO w l.length (by unfold maxLen;omega));have FI:=rU w l.length (by omega);have yN:Hid (Fr [] w (w.alloc (.cells (madeCells #[.int .i64 0] l.length) 3))):=aH _ _;obtain⟨w1,dP⟩:∃W,w.alloc (.cells (madeCells #[.int .i64 0] l.length) 3)=W:=⟨_,rfl⟩
 rw[dP]at HM yN FI;clear h hr;go_enter Tryz.func44,Tryz.ntmps44;go_wp2_with fail;clear FI dP;go_loopg [3,11] l.length (fun g x6 x16 wr=>∃(k:Nat) (A':Option Addr) (c':Nat) (ys:List Int),k+g=l.length/\x6= .slice A' ys.length c'/\x16= .int .i64 k/\Hid (Ints wr A' c' ys)/\Hid (ys=(l.take k).map fun x=> -x)/\Hid (∀j,j∈ak A'->w.heap.size<=j)/\Hid (Fr [] w wr));case atStart=>exact⟨0,_,_,[],by omega,rfl,rfl,HM.out,by show _=_;simp,fun j hj=>by simp[ak]at hj;omega,yN.out⟩
 case round=>
  obtain⟨k,A',c',ys,hk,rfl,rfl,HI,HY,HN,HF⟩:=hrel;have HK:=aa hk;have jg:k<=l.length:=by omega
  have hyl:ys.length<=k:=by rw[HY.out,aq,bp];omega
  clear hk;by_cases bw:k<l.length
  ·obtain⟨ab,o,x,hA,he,cx,fN,gd⟩:=(HH.out.keep HF.out).one rD.out bw;subst hA;have mW:=aa (pg (fun x:Int=> -x) bw);rw[he.out]at mW;have kR:=HR.out x (by rw[<-he.out];exact a8 bw);have dP:IntKind.i64.wrap (-x)= -x:=IntWalk.i64_in _ (by omega);obtain⟨wb,fh⟩:∃W,wr.alloc (.cells #[.int .i64 (-x)] 3)=W:=⟨_,rfl⟩
   have gm:Hid (Fr [] wr wb):=fh▸aH _ _;have kq:wb.cell? ⟨wr.heap.size,0,none⟩=some (.int .i64 (-x)):=by rw[<-fh];exact(At.new wr 3 #[.int .i64 (-x)]).cell 0
   go_wp2_with (at_builtin;(refine dd _ rfl _ _ rfl A' c' ys ys.length rfl rfl (HI.out.fr gm.out (fun _ _ hm=>by cases hm)) ⟨wr.heap.size,0,none⟩ 1 (-x) rfl kq (by omega) ?_;intro g cap w4 gV ro hg Tj;have CY:=aa gV;have gY:Hid (Fr [] w w4):=(HF.out.ag gm.out).trans ro (fun x hx=> .inr (HN.out x hx));have Jo:Hid (w.heap.size<=g):=(by rcases hg with h1 |h1;(exact HN.out g h1);(have :=HF.out.size;have :=gm.out.size;omega):w.heap.size<=g);clear kq gV ro hg Tj))
   clear fh;go_roundg (gk-1);case measure=>have :=HK.out;omega
   case rel=>exact⟨k+1,some ⟨g,0,none⟩,cap,ys++[-x],by have :=HK.out;omega,by simp,by go_num,CY.out,(by rw[mW.out,HY.out]:ys++[-x]=(l.take (k+1)).map fun x=> -x),fun j hj=>by simp[ak]at hj;subst hj;exact Jo.out,gY.out⟩
  ·obtain rfl :k=l.length:=by omega
   have hy:ys=l.map fun x=> -x:=by rw[HY.out,cN]
   have P8:ys.length=l.length:=by rw[hy,aq]
   have X0:=aa hy;rw[P8];clear HK hy HY;go_wp2_with fail;go_ret;exact⟨A',c',rfl,by rw[<-X0.out];exact HI.out,HN.out,HF.out⟩
def Li (v:Int)(l:List Int):Prop:=l.length<=1024/\∀x∈l,x≠0/\ -v<=x/\x<=v
theorem Li.mono {v v':Int}{l:List Int}(h:Li v l)(hv:v<=v'):Li v' l:=⟨h.1,fun x hx=>by have :=h.2 x hx;omega⟩
theorem Li.ra {v:Int}{l:List Int}(h:Li v l)(hv:v<=262143):Ra l:=fun j hj=>by have :=h.2 _ (a8 hj);exact⟨by omega,by omega⟩
theorem Li.OE {v:Nat}{l:List Int}(h:Li v l)(hv:v<=262143):ft v l=0:=by unfold ft;rw[aac (by have :=h.1;omega),aac];intro hc;obtain⟨x,hx,h1⟩:=cq.1 hc;obtain⟨h2,h3,h4⟩:=h.2 x hx;have :=qt h2 h3 h4 hv;unfold gv at h1;rw[aah (by omega),aah (by omega)]at h1;cases h1
theorem lT {b m l:Int}(hb:0<=b)(hl:0<=l/\l<=2*m+1):dE b l≠0/\ -(b+m+1)<=dE b l/\dE b l<=b+m+1:=by unfold dE;split<;>omega
theorem sP (C:Pc)(f:Int):fF C (f+1)=fF C f+C.mx+1:=by unfold fF;rw[Int.add_mul];omega
theorem vK {C:Pc}(h0:0<=C.mx){f:Int}(h:0<=f):0<=fF C f:=Int.mul_nonneg h (by omega)
theorem tG {C:Pc}(hv:Valid C){f n:Int}(hf:0<=f)(hn:n≠0/\ -(C.aM.length:Int)<=n/\n<=C.aM.length):jp C f n≠0/\ -(fF C (f+1))<=jp C f n/\jp C f n<=fF C (f+1):=by
 rw[sP];have hb:=vK hv.m0 hf;unfold jp;split
 ·have :=eX hv (-n-1).toNat (by omega);have :=lT hb (m:=C.mx) (l:=(C.aM[(-n-1).toNat]!).a) (by omega);omega
 ·have :=eX hv (n-1).toNat (by omega);have :=lT hb (m:=C.mx) (l:=(C.aM[(n-1).toNat]!).a) (by omega);omega
theorem aay {C:Pc}(hv:Valid C):∀l∈sA C C.aM.length,Li (fF C 1) l:=fun l hl=>by
 obtain⟨i,hi,hm⟩:=fv.1 hl;have hi:=cH.1 hi;have key:∀n:Int,n≠0/\ -(C.aM.length:Int)<=n/\n<=C.aM.length->Li (fF C 1) [jp C 0 n]:=fun n hn=>⟨by simp,fun x hx=>by rw[ai.1 hx];exact tG hv (f:=0) (by omega) hn⟩
 unfold IE at hm;split at hm
 ·rw[ai.1 hm];exact key _ (by omega)
 ·split at hm
  ·rw[ai.1 hm];exact key _ (by omega)
  ·cases hm
theorem YK {C:Pc}(hv:Valid C){f:Int}(hf:0<=f):∀l∈rf C f C.aM.length,Li (fF C (f+1+1)) l:=fun l hl=>by
 obtain⟨i,hi,hm⟩:=fv.1 hl;have hi:=cH.1 hi;have h1:=tG hv (f:=f+1) (n:=(i:Int)+1) (by omega) (by omega);have h2:=lT (vK hv.m0 hf) (m:=C.mx) (qT hv i hi);have e1:=sP C (f+1);have e2:=sP C f;have h0:=hv.m0;unfold Ma at hm;rcases av.1 hm with rfl |hm
 ·refine⟨by simp,fun x hx=> ?_⟩;rcases av.1 hx with rfl |hx
  ·exact h1
  ·rw[ai.1 hx];omega
 ·rw[ai.1 hm];refine⟨by simp,fun x hx=> ?_⟩;rcases av.1 hx with rfl |hx
  ·omega
  ·rw[ai.1 hx];omega
theorem Q8 {C:Pc}(hv:Valid C){b:Int}(hb:0<=b):∀l∈nP C b,Li (b+C.mx+1) l:=fun l hl=>by
 have h0:=hv.m0;rcases ah.1 hl with hl |hl
 ·obtain⟨i,hi,hm⟩:=fv.1 hl;have hi:=cH.1 hi;rw[sF]at hi;unfold AS at hm;split at hm
  ·cases hm
  ·rw[ai.1 hm];exact⟨by simp,fun x hx=>by rw[ai.1 hx];omega⟩
 ·obtain⟨y,hy,hm⟩:=fv.1 hl;have hy:=List.mem_of_mem_take hy;obtain⟨j,hj,hyj⟩:=List.getElem_of_mem hy;obtain⟨a1,a2,a3⟩:=zQ hv j hj;rw[ae,af hj,ay,hyj]at a1 a2 a3;have k1:=lT hb (m:=C.mx) a1;have k2:=lT hb (m:=C.mx) a2;have k3:=lT hb (m:=C.mx) a3;unfold Nk at hm;rcases av.1 hm with rfl |hm
  ·exact⟨by simp,fun x hx=>by rcases av.1 hx with rfl |hx;omega;rw[ai.1 hx];omega⟩
  ·rcases av.1 hm with rfl |hm
   ·exact⟨by simp,fun x hx=>by rcases av.1 hx with rfl |hx;omega;rw[ai.1 hx];omega⟩
   ·rw[ai.1 hm];exact⟨by simp,fun x hx=>by
     rcases av.1 hx with rfl |hx
     ·omega
     ·rcases av.1 hx with rfl |hx
      ·omega
      ·rw[ai.1 hx];omega⟩
theorem F1 {C:Pc}(hv:Valid C):∀x∈C.aU,0<=x/\x<=2*C.mx+1:=fun x hx=>by have h:=hv.v;unfold tX at h;rw[ax,ep]at h;exact gO hv (h.1 x hx)
def FG (mx:Int)(am:List (List Int)):Prop:=am.length<=64/\∀l∈am,l.length<=1024/\∀x∈l,0<=x/\x<=2*mx+1
theorem Rf {C:Pc}(hv:Valid C){am:List (List Int)}(ha:FG C.mx am){b:Int}(hb:0<=b):∀l∈nQ C am b,Li (b+C.mx+1) l:=fun l hl=>by
 rcases ah.1 hl with hl |hl
 ·obtain⟨y,hy,rfl⟩:=aG.1 hl;exact⟨by simp,fun x hx=>by rw[ai.1 hx];exact lT hb (F1 hv y hy)⟩
 ·obtain⟨y,hy,rfl⟩:=aG.1 hl;obtain⟨h1,h2⟩:=ha.2 y hy;exact⟨by rw[aq];exact h1,fun x hx=>by obtain⟨z,hz,rfl⟩:=aG.1 hx;exact lT hb (h2 z hz)⟩
theorem F4 {q:Qn}(h:sX q=0):Valid q.C/\(0<=q.bad/\q.bad<q.C.aT.length/\0<=q.dep/\q.dep<80/\0<=q.yL/\q.yL<=1099511627776)/\FG q.C.mx (q.am.map (·.l)):=by
 unfold sX at h;split at h
 ·cases h
 ·rename_i h1;split at h
  ·cases h
  ·rename_i h2;split at h
   ·cases h
   ·rename_i h3;split at h
    ·cases h
    ·rename_i h4;refine⟨Classical.not_not.1 h1,by omega,by rw[aq];omega,fun l hl=> ?_⟩;obtain⟨y,hy,rfl⟩:=aG.1 hl;have h5:qd q.C.mx y.l=false:=by
      cases h6:qd q.C.mx y.l with
      |false=>rfl
      |true=>exact absurd (.inl (cq.2 ⟨y,hy,h6⟩)) h4
     unfold qd at h5;rw[dX,decide_eq_false_iff_not,Bool.not_eq_false']at h5;refine⟨by have :=h5.1;omega,fun x hx=> ?_⟩;have h7:=h5.2;unfold Uv at h7;have :=ep.1 h7 x hx;simp only[ax,aal]at this;exact this
theorem FG.afe {mx:Int}{am:List Ls}(h:FG mx (am.map (·.l)))(hm:mx<=2048):∀x∈am,N6 x.l:=fun x hx=>by obtain⟨h1,h2⟩:=h.2 x.l (aG.2 ⟨x,hx,rfl⟩);exact⟨h1,fun y hy=>by have :=h2 y hy;omega⟩
def zN (A:Option Addr)(hs:List Ls):List Nat:=ak A++hs.flatMap fun x=>ak x.A
theorem NwLs.marks {w:World}{B:Nat}{A:Option Addr}{c:Nat}{hs:List Ls}(k:NwLs w B A c hs):∀j∈zN A hs,B<=j/\j<w.heap.size:=fun j hj=>by
 rcases ah.1 hj with h1 |h1
 ·refine⟨k.new j h1,?_⟩;rcases k.Cl with⟨h2,_,_⟩ |⟨g,h2,_⟩
  ·rw[h2]at h1;simp[ak]at h1
  ·rw[h2]at h1;simp[ak]at h1;subst h1;have :=k.row;rw[h2]at this;exact(this.lt j rfl).2
 ·obtain⟨x,hx,h2⟩:=fv.1 h1;exact⟨(k.each x hx).2.2.2 j h2,(k.each x hx).1.lt j h2⟩
theorem NwLs.JT {w:World}{B:Nat}{A:Option Addr}{c:Nat}{hs:List Ls}(k:NwLs w B A c hs):j3 w A hs:=by
 refine⟨fun h0=> ?_,fun j hj=>k.okl _ (a8 hj)⟩;rcases k.Cl with⟨_,h2,_⟩ |⟨g,h2,h3⟩
 ·rw[h2]at h0;simp at h0
 ·exact⟨g,0,h2,fun j hj=>by rw[da];exact h3 j hj⟩
theorem lG.perm {a:Nat->Bool}{l l':List Int}(h:lG a l)(hp:l'.Perm l):lG a l':=by obtain⟨y,hy,ht⟩:=h;exact⟨y,hp.mem_iff.2 hy,ht⟩
namespace Sv
theorem Good.Fc {S:Sv}(h:S.Inv){n:Nat}(hc:S.Jv n)(hn:(S.rc n).lits≠[])(h0:S.T.levels.length=0){a:Nat->Bool}(ha:S.Good a):False:=by obtain⟨y,hy,ht⟩:=ha.1 n hn;obtain⟨e,he,hx⟩:=hc.1 y hy;have hr:=gM h.ok he;have jX:y≠0:=(h.ok.lr n y hy).1;have :=ha.2 e he (by omega);rw[hx]at this;exact(mD.neg jX).1 this ht
theorem VW {S:Sv}(h:S.Inv){a:Nat->Bool}(h1:∀n,(S.rc n).lits≠[]->lG a (S.rc n).lits)(h2:∀e∈S.R,e.l=0->e.r=0->mD a e.x):S.Good a:=by
 refine⟨h1,?_⟩;have key:∀(k:Nat) (A:List St) (e:St) (B:List St),A.length=k->S.R=A++e::B->e.l=0->mD a e.x:=by
  intro k;induction k using Nat.strongRecOn with
  |ind k ih=>
   intro A e B hA hR hl;have he:e∈S.R:=by rw[hR];simp
   by_cases hr:e.r=0
   ·exact h2 e he hl hr
   ·obtain⟨n,hn,ls,kf,ip⟩:=h.ud A e B hR hr;obtain⟨y,hy,ht⟩:=h1 n (by rw[kf];simp);rw[kf]at hy;rcases av.1 hy with hy |hy
    ·rw[<-hy];exact ht
    ·exfalso;obtain⟨e',eK,hx⟩:=ip y hy;obtain⟨A1,B1,hAB⟩:=List.append_of_mem eK;have hle:e'.l<=e.l:=by have hs:=h.ok.rep.sorted;rw[hR]at hs;exact(List.pairwise_append.1 hs).2.2 e' eK e bD
     have hb:=gM h.ok (show e'∈S.R by rw[hR];exact an _ eK);have :=ih A1.length (by rw[<-hA,hAB];simp) A1 e' (B1++e::B) rfl (by rw[hR,hAB];simp) (by omega);have jX:y≠0:=(h.ok.lr n y (by rw[kf];exact aY _ hy)).1;rw[hx]at this;exact(mD.neg jX).1 this ht
 intro e he hl;obtain⟨A,B,hR⟩:=List.append_of_mem he;exact key A.length A e B rfl hR hl
theorem Good.mo {S S':Sv}(hm:Mo S S')(h':S'.Inv){a:Nat->Bool}(ha:S.Good a):S'.Good a:=by
 obtain⟨Z,hZ,hr⟩:=hm.pre;refine VW h' (fun n hn=> ?_) (fun e he hl h0=> ?_)
 ·have hp:=hm.lits n;have :(S.rc n).lits≠[]:=fun e=>by rw[e]at hp;exact hn (List.perm_nil.1 hp)
  exact(ha.1 n this).perm hp
 ·rw[hZ]at he;rcases ah.1 he with h1 |h1
  ·exact ha.2 e h1 hl
  ·exact absurd h0 (hr e h1)
def SY (S:Sv)(a:Nat->Bool):Prop:=(∀n,(S.rc n).jr=false->(S.rc n).lits≠[]->lG a (S.rc n).lits)/\∀e∈S.R,e.l=0->mD a e.x
theorem SY.mo {S S':Sv}(hm:Mo S S'){a:Nat->Bool}(ha:S'.SY a):S.SY a:=by
 obtain⟨Z,hZ,hr⟩:=hm.pre;refine⟨fun n hl hn=> ?_,fun e he hl=>ha.2 e (by rw[hZ];exact an _ he) hl⟩;have hp:=hm.lits n;have :(S'.rc n).lits≠[]:=fun e=>by rw[e]at hp;exact hn (List.nil_perm.1 hp)
 exact(ha.1 n ((hm.jr n).trans hl) this).perm hp.symm
structure cR (S:Sv)(F:(Nat->Bool)->Prop):Prop where
 sound:∀a,F a->S.Good a
 bad:S.bad=true->∀a,¬F a
 full:S.bad=false->∀a,S.SY a->F a
theorem cR.congr {S S':Sv}{F:(Nat->Bool)->Prop}(h:S.cR F)(hT:S'.T=S.T)(hl:S'.list=S.list)(hb:S'.bad=S.bad):S'.cR F:=by
 have hR:=dJ hT;have eE:=jJ hl;refine⟨fun a ha=> ?_,fun iK=>h.bad (hb▸iK),fun iK a ha=>h.full (hb▸iK) a ⟨fun n h1 h2=> ?_,fun e he=> ?_⟩⟩
 ·have :=h.sound a ha;exact⟨fun n hn=>by rw[eE]at hn⊢;exact this.1 n hn,fun e he=>this.2 e (hR▸he)⟩
 ·have :=ha.1 n (by rw[eE];exact h1) (by rw[eE];exact h2);rw[eE]at this;exact this
 ·exact ha.2 e (by rw[hR];exact he)
theorem cR.mo {S S':Sv}{F:(Nat->Bool)->Prop}(h:S.cR F)(hm:Mo S S')(h':S'.Inv)(hb:S'.bad=S.bad):S'.cR F:=
 ⟨fun a ha=>(h.sound a ha).mo hm h',fun iK=>h.bad (hb▸iK),fun iK a ha=>h.full (hb▸iK) a (ha.mo hm)⟩
theorem cR.zero {S:Sv}{F:(Nat->Bool)->Prop}(h:S.cR F)(hi:S.Inv){n:Nat}(hc:S.Jv n)(hn:(S.rc n).lits≠[])(h0:S.T.levels.length=0):({ S with bad:=true }:Sv).cR F:=by have rE:∀a,¬F a:=fun a ha=>(h.sound a ha).Fc hi hc hn h0;exact⟨fun a ha=>absurd ha (rE a),fun _=>rE,fun h=>by cases h⟩
theorem cR.back {S:Sv}{F:(Nat->Bool)->Prop}(h:S.cR F)(hi:S.Inv)(level:Nat):(S.back level).cR F:=by
 by_cases hl:level<S.T.levels.length
 ·obtain⟨h1,h2,h3,h4,B,h5,h6,h7⟩:=fS hi.ok hl;have eE:=jJ h1;have hb:=(jF S level).2.2.2.2.1;refine⟨fun a ha=> ?_,fun iK=>h.bad (hb▸iK),fun iK a ha=>h.full (hb▸iK) a ⟨fun n k1 k2=> ?_,fun e he h0=> ?_⟩⟩
  ·have :=h.sound a ha;exact⟨fun n hn=>by rw[eE]at hn⊢;exact this.1 n hn,fun e he=>this.2 e (by rw[h5];exact an _ he)⟩
  ·have :=ha.1 n (by rw[eE];exact k1) (by rw[eE];exact k2);rw[eE]at this;exact this
  ·refine ha.2 e ?_ h0;rw[h5]at he;rcases ah.1 he with h8 |h8
   ·exact h8
   ·have :=h6 e h8;omega
 ·have :S.back level=S:=by unfold Sv.back;rw[aae (by omega)]
  rw[this];exact h
theorem cR.bu {B:Sv}{F:(Nat->Bool)->Prop}(h:B.cR F)(hi:B.Inv){l:List Int}(hf:2<=l.length->B.Fits l)(hr:B.list.length<2199023255552)(l0:0<l.length)(hl:∀x∈l,x≠0/\ -(B.vars:Int)<=x/\x<=B.vars)(yC:(l.map tv).Nodup)(hv:B.val l[0]! =0)
  (h1:2<=l.length->0<B.T.levels.length)(hs:∀a,F a->lG a l):(B.bu l).cR F:=by
 have tc:=hl _ (get_mem (l:=l) (i:=0) l0);have ht:=qt tc.1 tc.2.1 tc.2.2 hi.ok.vl;unfold Sv.bu;by_cases e1:l.length=1
 ·rw[aae e1];have hR:=ol (r:=0) hi.ok (i9 hi.ok ht.1 ht.2 hv);obtain⟨y,hy⟩:∃y,l=[y]:=by
   match l,e1 with
   |[y],_=>exact⟨y,rfl⟩
  refine⟨fun a ha=> ?_,h.bad,fun hb a ha=>h.full hb a ⟨ha.1,fun e he h0=>ha.2 e (by rw[hR];exact an _ he) h0⟩⟩;have hg:=h.sound a ha;refine⟨hg.1,fun e he h0=> ?_⟩;rw[hR]at he;rcases ah.1 he with h3 |h3
  ·exact hg.2 e h3 h0
  ·rw[ai.1 h3];obtain⟨z,hz,hzt⟩:=hs a ha;rw[hy]at hz⊢;rw[ai.1 hz]at hzt;exact hzt
 ·rw[aac e1];have h2:2<=l.length:=by omega
  obtain⟨k1,k2,k3⟩:=hi.attach (hf h2) yC true hr;have vD:=cE B l true;have hb:(B.attach l true).T.ij l[0]! =true:=by rw[vD.1];exact i9 hi.ok ht.1 ht.2 hv
  have hR:=ol (r:=(B.list.length:Int)+1) k1.ok hb;rw[dJ vD.1,vD.1]at hR;obtain⟨S',vG⟩:∃S':Sv,({ ((B.attach l true).put l[0]! (B.list.length+1))with many:=B.many+1 }:Sv)=S':=⟨_,rfl⟩
  have hR':S'.R=B.R++[⟨l[0]!,B.T.levels.length,(B.list.length:Int)+1⟩]:=by rw[<-vG];exact hR
  have uv:S'.rc B.list.length=⟨l,true,B.used⟩:=by rw[<-vG];exact k2
  have uV:∀n,n≠B.list.length->S'.rc n=B.rc n:=fun n hn=>by rw[<-vG];exact k3 n hn
  have Q0:S'.bad=B.bad:=by rw[<-vG];rfl
  rw[vG];refine⟨fun a ha=> ?_,fun iK=>h.bad (Q0▸iK),fun iK a ha=>h.full (Q0▸iK) a ⟨fun n n1 n2=> ?_,fun e he h0=>ha.2 e (by rw[hR'];exact an _ he) h0⟩⟩
  ·have hg:=h.sound a ha;refine⟨fun n hn=> ?_,fun e he h0=> ?_⟩
   ·by_cases e:n=B.list.length
    ·rw[e,uv];exact hs a ha
    ·rw[uV n e]at hn⊢;exact hg.1 n hn
   ·rw[hR']at he;rcases ah.1 he with h3 |h3
    ·exact hg.2 e h3 h0
    ·rw[ai.1 h3]at h0;have h0:(B.T.levels.length:Int)=0:=h0;have :=h1 h2;omega
  ·have dS:n≠B.list.length:=fun e=>by have :=lW n2;omega
   have :=ha.1 n (by rw[uV n dS];exact n1) (by rw[uV n dS];exact n2);rw[uV n dS]at this;exact this
theorem Good.j9 {S S1:Sv}(h:S1.j9=S.j9){a:Nat->Bool}(ha:S1.Good a):S.Good a:=by have hR:S1.R=S.R:=dJ (aao (fun x=>x.1) h);refine⟨fun n hn=> ?_,fun e he=>ha.2 e (hR▸he)⟩;rw[<-(jI h n).1]at hn⊢;exact ha.1 n hn
theorem cR.j9 {S S1:Sv}(h:S1.j9=S.j9){F:(Nat->Bool)->Prop}(hk:S.cR F):S1.cR F:=by have hR:S1.R=S.R:=dJ (aao (fun x=>x.1) h);have hb:S1.bad=S.bad:=aao (fun x=>x.2.2.2.2.2.2.2.2.2.2.2.1) h;refine⟨fun a ha=>Good.j9 h.symm (hk.sound a ha),fun h2=>hk.bad (hb▸h2),fun h2 a ha=>hk.full (hb▸h2) a ⟨fun n n1 n2=> ?_,fun e he=>ha.2 e (hR▸he)⟩⟩;have :=ha.1 n ((jI h n).2.trans n1) (by rw[(jI h n).1];exact n2);rw[(jI h n).1]at this;exact this
theorem cR.conflict {S:Sv}{F:(Nat->Bool)->Prop}(hk:S.cR F)(h:S.Inv){n:Nat}(hc:S.Jv n)(hn:(S.rc n).lits≠[])(hr:S.list.length<2199023255552)(hd:0<S.T.levels.length){S2:Sv}(he:S.conflict n=some (S2,true)):S2.cR F:=by
 obtain⟨S1,l,ct,h1,h2,h3⟩:=jf h.ok h.ud h.dec hc hd hn;obtain⟨tA,eT,eV,eL,eU,f0,f1,f2,f3,f4⟩:=gx h.ok h1;have vH:S1.Inv:=h.congr tA eT (aao (fun x=>x.2.2.2.2.2.2.1) h2) (fun j=>(jI h2 j).1) (aao (fun x=>x.2.2.1) h2);have hR1:S1.R=S.R:=dJ eT;have bw:=h3.lt;have mj:ct.toNat<S1.T.levels.length:=by rw[eT];omega
 obtain⟨b1,b2,b3,b4,BB,b5,b6,b7⟩:=fS vH.ok mj;have hbv:=(vH.ok.back ct.toNat).2.1;have Ko:=vH.back ct.toNat;have kF:∀e∈(S1.back ct.toNat).R,e∈S.R:=fun e he=>by rw[<-hR1,b5];exact an _ he
 obtain⟨et,het,tR,M5⟩:=h3.top;have Kn:S2=((S1.back ct.toNat).bu l).ch:=by unfold Sv.conflict at he;rw[aac (by omega),h1]at he;simp only[Option.some.injEq,Prod.mk.injEq]at he;exact he.1.symm
 rw[Kn];have hv:(S1.back ct.toNat).val l[0]! =0:=by
  rcases gP Ko.ok l[0]! with h5 |h5 |h5
  ·exact h5
  ·exfalso;obtain⟨e,he,hx⟩:=(fK Ko.ok l[0]!).1 (by omega);exact jS h.ok (kF e he) het (by rw[hx,tR])
  ·exfalso;obtain⟨e,he,hx⟩:=(val_neg Ko.ok).1 (by omega:(S1.back ct.toNat).val l[0]! <0);have qg:e.x=et.x:=by rw[hx,tR];omega
   have :=mt h.ok (kF e he) het (by rw[qg]);have :=b7 e he
   subst_vars
   omega
 have hkL:((S1.back ct.toNat).bu l).cR F:=by refine((hk.j9 h2).back vH ct.toNat).bu Ko (fun h5=>⟨h5,f1,by rw[hbv,eV];exact f2⟩) (by rw[b1,eL];exact hr) f0 (by rw[hbv,eV];exact f2) h3.nd hv (fun h5=> ?_) (fun a ha=>h3.sem a (hk.sound a ha));obtain⟨e,he,hx,zd,m6⟩:=h3.tail 1 (ap 1) h5;rw[b3];omega
 exact hkL.congr rfl rfl rfl
theorem cR.cg {S:Sv}{F:(Nat->Bool)->Prop}(h:S.cR F){n:Nat}(hl:(S.rc n).jr=true):(S.cg n).cR F:=by
 refine⟨fun a ha=> ?_,h.bad,fun hb a ha=>h.full hb a ⟨fun j h1 h2=> ?_,ha.2⟩⟩
 ·have hg:=h.sound a ha;refine⟨fun j hj=> ?_,hg.2⟩;rw[ff]at hj⊢;split
  ·rename_i e;rw[aae e]at hj;exact absurd rfl hj
  ·rename_i e;rw[aac e]at hj;exact hg.1 j hj
 ·have dS:¬(n=j/\n<S.list.length):=fun e=>by rw[<-e.1,hl]at h1;cases h1
  have :=ha.1 j (by rw[ff,aac dS];exact h1) (by rw[ff,aac dS];exact h2);rw[ff,aac dS]at this;exact this
end Sv
namespace Sv
def As (us:List Int)(S:Sv):Prop:=∀i:Nat,i<S.T.levels.length->i<us.length->∃e∈S.R,e.x=us[i]! /\e.l<=i+1
def Dc (us:List Int)(S:Sv):Prop:=∀e∈S.R,e.r=0->1<=e.l->e.l<=us.length->∃i:Nat,i<us.length/\e.x=us[i]!
theorem As.mo {us:List Int}{S S':Sv}(h:As us S)(hm:Mo S S')(hl:S'.T.levels.length=S.T.levels.length):As us S':=fun i h1 h2=>by obtain⟨Z,hZ,_⟩:=hm.pre;obtain⟨e,he,hx⟩:=h i (by omega) h2;exact⟨e,by rw[hZ];exact an _ he,hx⟩
theorem Dc.mo {us:List Int}{S S':Sv}(h:Dc us S)(hm:Mo S S'):Dc us S':=fun e he hr h1 h2=>by
 obtain⟨Z,hZ,hz⟩:=hm.pre;rw[hZ]at he;rcases ah.1 he with h3 |h3
 ·exact h e h3 hr h1 h2
 ·exact absurd hr (hz e h3)
theorem As.back {us:List Int}{S:Sv}(h:As us S){m:Nat}(ok:S.Ok m)(level:Nat):As us (S.back level):=by
 by_cases hl:level<S.T.levels.length
 ·obtain⟨h1,h2,h3,h4,B,h5,h6,h7⟩:=fS ok hl;intro i k1 k2;rw[h3]at k1;obtain⟨e,he,hx,hle⟩:=h i (by omega) k2;refine⟨e,?_,hx,hle⟩;rw[h5]at he;rcases ah.1 he with h8 |h8
  ·exact h8
  ·have :=h6 e h8;omega
 ·have :S.back level=S:=by unfold Sv.back;rw[aae (by omega)]
  rw[this];exact h
theorem Dc.back {us:List Int}{S:Sv}(h:Dc us S){m:Nat}(ok:S.Ok m)(level:Nat):Dc us (S.back level):=by
 by_cases hl:level<S.T.levels.length
 ·obtain⟨h1,h2,h3,h4,B,h5,h6,h7⟩:=fS ok hl;exact fun e he=>h e (by rw[h5];exact an _ he)
 ·have :S.back level=S:=by unfold Sv.back;rw[aae (by omega)]
  rw[this];exact h
theorem As.congr {us:List Int}{S S':Sv}(h:As us S)(hT:S'.T=S.T):As us S':=by unfold As at *;rw[dJ hT,hT];exact h
theorem Dc.congr {us:List Int}{S S':Sv}(h:Dc us S)(hT:S'.T=S.T):Dc us S':=by unfold Dc at *;rw[dJ hT];exact h
theorem As.put {us:List Int}{S:Sv}(h:As us S){m:Nat}(ok:S.Ok m)(x r:Int):As us (S.put x r):=by
 intro i h1 h2;rw[dO]at h1;obtain⟨e,he,hx⟩:=h i h1 h2;refine⟨e,?_,hx⟩;by_cases hb:S.T.ij x=true
 ·rw[ol ok hb];exact an _ he
 ·rw[dJ (show(S.put x r).T=S.T by unfold Sv.put;simp only;rw[aac hb])];exact he
theorem Dc.put {us:List Int}{S:Sv}(h:Dc us S){m:Nat}(ok:S.Ok m)(x r:Int)(hr:r=0->S.T.levels.length=0\/us.length<S.T.levels.length\/∃i:Nat,i<us.length/\x=us[i]!):Dc us (S.put x r):=by
 by_cases hb:S.T.ij x=true
 ·intro e he h0 h1 h2;rw[ol ok hb]at he;rcases ah.1 he with h3 |h3
  ·exact h e h3 h0 h1 h2
  ·rw[ai.1 h3]at h0 h1 h2⊢;have h1:(1:Int)<=S.T.levels.length:=h1;have h2:(S.T.levels.length:Int)<=us.length:=h2;rcases hr h0 with h4 |h4 |h4
   ·omega
   ·omega
   ·exact h4
 ·exact h.congr (show(S.put x r).T=S.T by unfold Sv.put;simp only;rw[aac hb])
theorem DR {us:List Int}{B:Sv}(h:B.Inv)(ha:As us B)(hd:Dc us B){l:List Int}(h1:l.length=1->B.T.levels.length=0):As us (B.bu l).ch/\Dc us (B.bu l).ch:=by
 by_cases e1:l.length=1
 ·have e:(B.bu l).ch.T=(B.put l[0]! 0).T:=by unfold bu;rw[aae e1];rfl
  exact⟨(ha.put h.ok l[0]! 0).congr e,(hd.put h.ok l[0]! 0 (fun _=> .inl (h1 e1))).congr e⟩
 ·have e:(B.bu l).ch.T=(B.put l[0]! (B.list.length+1)).T:=by unfold bu;rw[aac e1];show((B.attach l true).put l[0]! _).T=_;unfold Sv.put;simp only;rw[(cE B l true).1]
  exact⟨(ha.put h.ok l[0]! _).congr e,(hd.put h.ok l[0]! _ (fun e=>by omega)).congr e⟩
theorem zo {us:List Int}{S:Sv}(h:S.Inv)(ha:As us S)(hd:Dc us S){n:Nat}(hc:S.Jv n)(hn:(S.rc n).lits≠[])(Nb:0<S.T.levels.length){S2:Sv}(he:S.conflict n=some (S2,true)):As us S2/\Dc us S2:=by
 obtain⟨S1,l,ct,h1,h2,h3⟩:=jf h.ok h.ud h.dec hc Nb hn;obtain⟨tA,eT,eV,eL,eU,f0,f1,f2,f3,f4⟩:=gx h.ok h1;have vH:S1.Inv:=h.congr tA eT (aao (fun x=>x.2.2.2.2.2.2.1) h2) (fun j=>(jI h2 j).1) (aao (fun x=>x.2.2.1) h2);have bw:=h3.lt;have mj:ct.toNat<S1.T.levels.length:=by rw[eT];omega
 have Kn:S2=((S1.back ct.toNat).bu l).ch:=by unfold Sv.conflict at he;rw[aac (by omega),h1]at he;simp only[Option.some.injEq,Prod.mk.injEq]at he;exact he.1.symm
 rw[Kn];exact DR (vH.back ct.toNat) ((ha.congr eT).back tA _) ((hd.congr eT).back tA _) (fun h5=>by rw[(fS tA mj).2.2.1,h3.one h5];rfl)
theorem p8 {S:Sv}(h:S.Inv):∀(Q D:List St) (g met:List Int),S.R=Q.reverse++D->
  (∀m∈met,m∈dL S (Q.map (·.x)) g met)/\
  (∀m∈dL S (Q.map (·.x)) g met,m∈met\/∃e∈S.R,e.r=0/\1<=e.l/\e.x=m)/\
  ∀a,S.Good a->(∀m∈dL S (Q.map (·.x)) g met,mD a m)->∀e∈Q,tv e.x∈g->mD a e.x
 |[],D,g,met,hR=>⟨fun m hm=>hm,fun m hm=> .inl hm,fun a _ _ e he=>by cases he⟩
 |e0::Q,D,g,met,hR=>by
  have CR:S.R=Q.reverse++(e0::D):=by rw[hR];simp
  have qI:e0∈S.R:=by rw[CR];simp
  obtain⟨hl,hr⟩:=ld h.ok qI;have Tk:=gM h.ok qI;rw[cj,dL,hl,hr];by_cases hs:tv e0.x∉g\/e0.l=0
  ·rw[aae hs];obtain⟨i1,i2,i3⟩:=p8 h Q (e0::D) g met CR;refine⟨i1,i2,fun a ha ht e he hg=> ?_⟩;rcases av.1 he with rfl |he
   ·rcases hs with hs |hs
    ·exact absurd hg hs
    ·exact ha.2 e qI hs
   ·exact i3 a ha ht e he hg
  ·rw[aac hs];have zd:1<=e0.l:=by have :¬e0.l=0:=fun e=>hs (.inr e);omega
   by_cases h0:e0.r-1<0
   ·rw[aae h0];have hrz:e0.r=0:=by have :=(h.ok.rs (tv e0.x)).1;rw[hr]at this;omega
    obtain⟨i1,i2,i3⟩:=p8 h Q (e0::D) g (e0.x::met) CR;refine⟨fun m hm=>i1 m (aY _ hm),fun m hm=> ?_,fun a ha ht e he hg=> ?_⟩
    ·rcases i2 m hm with h1 |h1
     ·rcases av.1 h1 with h1 |h1
      ·exact .inr ⟨e0,qI,hrz,zd,h1.symm⟩
      ·exact .inl h1
     ·exact .inr h1
    ·rcases av.1 he with rfl |he
     ·exact ht _ (i1 _ bD)
     ·exact i3 a ha ht e he hg
   ·rw[aac h0];obtain⟨n,hn,ls,kf,ip⟩:=h.ud _ _ _ CR (by omega:e0.r≠0);rw[hn,show((n:Int)+1-1).toNat=n by omega];obtain⟨i1,i2,i3⟩:=p8 h Q (e0::D) ((S.rc n).lits.map tv++g) met CR;refine⟨i1,i2,fun a ha ht e he hg=> ?_⟩;rcases av.1 he with rfl |he
    ·obtain⟨y,hy,J5⟩:=ha.1 n (by rw[kf];simp);have lE:=hy;rw[kf]at hy;rcases av.1 hy with h5 |h5
     ·rw[<-h5];exact J5
     ·exfalso;obtain⟨e',eK,hx⟩:=ip y h5;have hR':e'∈S.R:=by rw[CR];exact an _ eK
      have Qa:=(kd h.ok hR' hx).1;have :=i3 a ha ht e' (dK.1 eK) (by rw[<-Qa];exact an _ (List.mem_map_of_mem lE));rw[hx]at this;exact(mD.neg (h.ok.lr n y lE).1).1 this J5
    ·exact i3 a ha ht e he (bk _ hg)
theorem xT (met:List Int):∀(us P core:List Int),(∀x∈core,x∈P/\x∈met)->(∀x∈P,x∈met->x∈core)->core.Pairwise (fun x y=>(P++us).idxOf x<(P++us).idxOf y)->
  (∀x∈hJ met us core,x∈P++us/\x∈met)/\(∀x∈P++us,x∈met->x∈hJ met us core)/\(hJ met us core).Pairwise (fun x y=>(P++us).idxOf x<(P++us).idxOf y)
 |[],P,core,h1,h2,h3=>by
  rw[hJ];rw[bZ]at *;exact⟨h1,h2,h3⟩
 |x::r,P,core,h1,h2,h3=>by
  rw[hJ];have e:P++x::r=(P++[x])++r:=by simp
  rw[e]at h3⊢;by_cases hc:x∈met/\x∉core
  ·rw[aae hc];have hnP:x∉P:=fun hx=>hc.2 (h2 x hx hc.1);refine xT met r (P++[x]) (core++[x]) (fun y hy=> ?_) (fun y hy hm=> ?_) ?_
   ·rcases ah.1 hy with h4 |h4
    ·exact⟨an _ (h1 y h4).1,(h1 y h4).2⟩
    ·rw[ai.1 h4];exact⟨by simp,hc.1⟩
   ·rcases ah.1 hy with h4 |h4
    ·exact an _ (h2 y h4 hm)
    ·exact bk _ h4
   ·rw[List.pairwise_append];refine⟨h3,List.pairwise_singleton _ _,fun y hy z hz=> ?_⟩;rw[ai.1 hz];have hyP:=(h1 y hy).1;rw[jP,List.idxOf_append,aae hyP,List.idxOf_append,aac hnP];have :=List.idxOf_lt_length_of_mem hyP;omega
  ·rw[aac hc];refine xT met r (P++[x]) core (fun y hy=>⟨an _ (h1 y hy).1,(h1 y hy).2⟩) (fun y hy hm=> ?_) h3;rcases ah.1 hy with h4 |h4
   ·exact h2 y h4 hm
   ·rw[ai.1 h4]at hm⊢;exact Classical.byContradiction fun hn=>hc ⟨hm,hn⟩
end Sv
theorem z8 {H:Hp}(h:HI H)(x y:Int)(hy:y∈(Sv.fC H x).items):y∈H.items\/y=x:=by
 unfold Sv.fC at hy;split at hy
 ·rename_i hb;exact((h.push hb.1 hb.2).2.2.2.2 y).1 hy
 ·exact .inl hy
theorem uf {H:Hp}(h:HI H)(x:Int){y:Int}(hy:y∈H.items):y∈(Sv.fC H x).items:=by
 unfold Sv.fC;split
 ·rename_i hb;exact((h.push hb.1 hb.2).2.2.2.2 y).2 (.inl hy)
 ·exact hy
theorem DC {H:Hp}(h:HI H){x:Int}(h1:0<=x)(h2:x<H.at_.length):x∈(Sv.fC H x).items:=by
 have hb:H.jq x=true:=by simp[Hp.jq,h1,h2]
 unfold Sv.fC;by_cases hp:H.pl x<0
 ·rw[aae ⟨hb,hp⟩];exact((h.push hb hp).2.2.2.2 x).2 (.inr rfl)
 ·rw[aac (fun e=>hp e.2)];obtain⟨k1,k2⟩:=h.pc.inv x.toNat (by omega) (by show 0<=H.pl x;omega);rw[show((x.toNat:Nat):Int)=x by omega]at k2;rw[<-k2];exact get_mem k1
theorem wH {H:Hp}(h:HI H)(x b:Int):HI (Sv.mg H x b)/\∀y,y∈(Sv.mg H x b).items↔y∈H.items:=by
 unfold Sv.mg;split
 ·rename_i hb;obtain⟨k1,k2,k3,k4,k5⟩:=h.raise hb.1 hb.2.1 hb.2.2.1 hb.2.2.2;exact⟨k1,k5⟩
 ·exact⟨h,fun y=>Iff.rfl⟩
namespace Sv
structure Hc (S:Sv):Prop where
 all:∀v:Int,1<=v->v<=S.vars->S.val v=0->v∈S.H.items
 pos:∀x∈S.H.items,1<=x
theorem Hc.mono {S S':Sv}{m m':Nat}(ok:S.Ok m)(ok':S'.Ok m')(h:S.Hc)(hv:S'.vars=S.vars)(hH:∀y,y∈S'.H.items↔y∈S.H.items)(hR:∀e∈S.R,e∈S'.R):S'.Hc:=by
 refine⟨fun v h1 h2 h3=>(hH v).2 (h.all v h1 (by rw[<-hv];exact h2) ?_),fun x hx=>h.pos x ((hH x).1 hx)⟩;rcases gP ok v with h4 |h4 |h4
 ·exact h4
 ·exfalso;obtain⟨e,he,hx⟩:=(fK ok v).1 (by omega);exact(iZ ok' h3 e (hR e he)).1 hx
 ·exfalso;obtain⟨e,he,hx⟩:=(val_neg ok).1 (by omega:S.val v<0);exact(iZ ok' h3 e (hR e he)).2 hx
theorem DG {S0:Sv}{m0:Nat}(ok0:S0.Ok m0):∀(f:Nat) (S:Sv) (m:Nat),S.Ok m->S.T=S0.T->S.Hc->S.H.items.length<f->
  ((cQ f S).2=0->(∀x∈(cQ f S).1.H.items,1<=x)/\∀v:Int,1<=v->v<=S.vars->S0.val v≠0)/\
  ((cQ f S).2≠0->(∀x∈(cQ f S).1.H.items,1<=x)/\∀v:Int,1<=v->v<=S.vars->S0.val v=0->v∈(cQ f S).1.H.items\/(cQ f S).2=v\/(cQ f S).2= -v)
 |0,S,m,ok,hT,h,hf=>absurd hf (aI _)
 |f+1,S,m,ok,hT,h,hf=>by
  have zb:∀x,S.val x=S0.val x:=fun x=>by unfold val;rw[hT]
  rw[cQ];by_cases h0:S.H.items.length=0
  ·rw[aae h0];refine⟨fun _=>⟨h.pos,fun v h1 h2 h3=> ?_⟩,fun h=>absurd rfl h⟩;have :=h.all v h1 h2 (by rw[zb];exact h3);rw[aP h0]at this;cases this
  ·rw[aac h0];obtain⟨k1,k2,k3,k4,k5⟩:=ok.hi.pop (by omega);have adP:=(ok.hi.root (by omega)).1;have hv1:=h.pos _ adP;obtain⟨v0,Oj⟩:∃v0,S.H.it 0=v0:=⟨_,rfl⟩
   rw[Oj]at k5 hv1⊢;have tA:({ S with H:=S.H.kc }:Sv).Ok m:=⟨ok.vl,ok.tr,k1,by show S.H.kc.at_.length=_;rw[k4];exact ok.hl,ok.ph,ok.wl,ok.ll,ok.wb,ok.wt,ok.lr,ok.ln,ok.lb,ok.hd,ok.rs⟩
   simp only;by_cases hv:({ S with H:=S.H.kc }:Sv).val v0≠0
   ·rw[aae hv];have hv':S0.val v0≠0:=by rw[<-zb];exact hv
    have xu:({ S with H:=S.H.kc }:Sv).Hc:=⟨fun v h1 h2 h3=>(k5 v).2 ⟨h.all v h1 h2 h3,fun e=>hv (e▸h3)⟩,fun x hx=>h.pos x ((k5 x).1 hx).1⟩
    exact DG ok0 f _ m tA hT xu (by show S.H.kc.items.length<f;omega)
   ·rw[aac hv];simp only;have dS:(if S.phase[v0.toNat]! =true then v0 else -v0)≠0:=by split<;>omega
    refine⟨fun e=>absurd e dS,fun _=>⟨fun x hx=>h.pos x ((k5 x).1 hx).1,fun v h1 h2 h3=> ?_⟩⟩;by_cases e:v=v0
    ·right
     split
     ·exact .inl e.symm
     ·exact .inr (by rw[e])
    ·exact .inl ((k5 v).2 ⟨h.all v h1 h2 (by rw[zb];exact h3),e⟩)
theorem PS {S:Sv}(h:S.Inv)(hf:S.head=S.T.lits.length)(hs:∀v:Int,1<=v->v<=S.vars->S.val v≠0)(a:Nat->Bool)(ha:∀v:Nat,1<=v->v<=S.vars->a v=decide (0<S.val (v:Int))):
  (∀e∈S.R,mD a e.x)/\∀n,(S.rc n).lits≠[]->lG a (S.rc n).lits:=by
 have lx:=h.ok.vl;have hT:∀e∈S.R,mD a e.x:=fun e he=>by
  have hr:=gM h.ok he;have hn:e.x.natAbs=(tv e.x).toNat/\(tv e.x=e.x/\0<e.x\/tv e.x= -e.x/\e.x<0):=by
   have h1:=hr.1;have h2:=hr.2.1;unfold tv at h1 h2⊢;split at h1
   ·omega
   ·rename_i e1;rw[aac e1]at h2⊢;split at h1
    ·rename_i e2;rw[aae e2]at h2⊢;omega
    ·rename_i e2;rw[aac e2]at h2⊢;omega
  unfold mD;rw[hn.1,ha _ (by omega) (by omega)];have e1:(((tv e.x).toNat:Nat):Int)=tv e.x:=by omega
  rw[e1,aal];rcases hn.2 with⟨h1,h2⟩ |⟨h1,h2⟩
  ·rw[h1];exact⟨fun _=>h2,fun _=>(fK h.ok _).2 ⟨e,he,rfl⟩⟩
  ·rw[h1];have :S.val (-e.x)<0:=(val_neg h.ok).2 ⟨e,he,by omega⟩;exact⟨fun h=>by omega,fun h=>by omega⟩
 refine⟨hT,fun n hn=> ?_⟩;have h2:=qU h.ok hn;have hl:=h.ok.lit (n:=n) (k:=0) (by omega);have ht:=qt hl.1 hl.2.1 hl.2.2 lx;have hv:S.val (S.rc n).lits[0]! ≠0:=fun e=>by
  have YZ:=hs (tv (S.rc n).lits[0]!) ht.1 ht.2;have :tv (S.rc n).lits[0]! =(S.rc n).lits[0]! \/tv (S.rc n).lits[0]! = -(S.rc n).lits[0]! :=by
   unfold tv;split
   ·exact .inl rfl
   ·split
    ·exact .inr rfl
    ·exact .inl rfl
  rcases this with h3 |h3
  ·rw[h3]at YZ;exact YZ e
  ·rw[h3]at YZ;exact YZ (JA h.ok e)
 rcases gP h.ok (S.rc n).lits[0]! with h3 |h3 |h3
 ·exact absurd h3 hv
 ·obtain⟨e,he,hx⟩:=(fK h.ok (S.rc n).lits[0]!).1 (by omega);exact⟨(S.rc n).lits[0]!,get_mem (by omega),hx▸hT e he⟩
 ·obtain⟨e,he,hx⟩:=(val_neg h.ok).1 (by omega:S.val (S.rc n).lits[0]! <0);obtain⟨e',eK,Td,_⟩:=(h.wt n hn e (by rw[hf,<-jn,cN];exact he)).1 hx;exact⟨(S.rc n).lits[1]!,get_mem (by omega),Td▸hT e' eK⟩
end Sv
namespace Sv
theorem uF (level:Int):∀(Q:List St) (S:Sv) (m:Nat),S.Ok m->(∀e∈Q,e∈S.R)->Q.Pairwise (fun a b:St=>b.l<=a.l)->(∀y∈S.H.items,1<=y)->
  (∀y∈S.H.items,y∈(dY level (Q.map (·.x)) S).H.items)/\(∀e∈Q,level<e.l->tv e.x∈(dY level (Q.map (·.x)) S).H.items)/\∀y∈(dY level (Q.map (·.x)) S).H.items,1<=y
 |[],S,m,ok,hq,hp,h1=>⟨fun y hy=>hy,(fun e he=>by cases he),h1⟩
 |e0::Q,S,m,ok,hq,hp,h1=>by
  rw[List.pairwise_cons]at hp;have qI:=hq e0 bD;have hl:=(ld ok qI).1;have hr:=gM ok qI;rw[cj];by_cases hs:e0.l<=level
  ·rw[rz (by rw[hl];exact hs)];refine⟨fun y hy=>hy,fun e he hle=> ?_,h1⟩;exfalso;rcases av.1 he with rfl |he
   ·omega
   ·have :=hp.1 e he;omega
  ·rw[yg (by rw[hl];exact hs)];have hpu:∀y∈(fC S.H (tv e0.x)).items,1<=y:=fun y hy=>by
    rcases z8 ok.hi _ _ hy with h2 |h2
    ·exact h1 y h2
    ·rw[h2];exact hr.1
   obtain⟨i1,i2,i3⟩:=uF level Q _ m (ok.qN e0.x) (fun e he=>hq e (aY _ he)) hp.2 hpu;have kF:tv e0.x∈(fC S.H (tv e0.x)).items:=DC ok.hi (by omega) (by rw[ok.hl];omega);refine⟨fun y hy=>i1 y (uf ok.hi _ hy),fun e he hle=> ?_,i3⟩;rcases av.1 he with rfl |he
   ·exact i1 _ kF
   ·exact i2 e he hle
theorem Yx {S:Sv}{m:Nat}(ok:S.Ok m){v:Int}(h1:1<=v)(h2:v<=S.vars)(h:S.val v≠0):∃e∈S.R,tv e.x=v/\(e.x=v\/e.x= -v):=by
 have lx:=ok.vl;rcases gP ok v with h3 |h3 |h3
 ·exact absurd h3 h
 ·obtain⟨e,he,hx⟩:=(fK ok v).1 (by omega);exact⟨e,he,by rw[hx,ni (by omega)], .inl hx⟩
 ·obtain⟨e,he,hx⟩:=(val_neg ok).1 (by omega:S.val v<0);exact⟨e,he,by rw[hx,qV (by omega) (by omega)];omega, .inr hx⟩
theorem Hc.back {S:Sv}(h:S.Hc){m:Nat}(ok:S.Ok m)(level:Nat):(S.back level).Hc:=by
 by_cases hl:level<S.T.levels.length
 ·obtain⟨h1,h2,h3,h4,B,h5,h6,h7⟩:=fS ok hl;have Qf:S.T.lits.reverse=S.R.reverse.map (·.x):=by rw[ok.rep.lits,List.map_reverse]
  have J9:S.R.reverse.Pairwise (fun a b:St=>b.l<=a.l):=List.pairwise_reverse.2 ok.rep.sorted;obtain⟨i1,i2,i3⟩:=uF (level:Int) S.R.reverse S m ok (fun e he=>dK.1 he) J9 h.pos;rw[<-Qf]at i1 i2 i3;have hH:(S.back level).H=(dY (level:Int) S.T.lits.reverse S).H:=by unfold Sv.back;rw[aac (by omega)]
  have T9:=(ok.back level).1;have hv:=(ok.back level).2.1;refine⟨fun v v1 v2 v3=> ?_,fun x hx=>i3 x (hH▸hx)⟩;rw[hH];by_cases h0:S.val v=0
  ·exact i1 v (h.all v v1 (by rw[<-hv];exact v2) h0)
  ·obtain⟨e,he,ht,hx⟩:=Yx ok v1 (by rw[<-hv];exact v2) h0;have dS:e∉(S.back level).R:=fun hm=>by have :=iZ T9 v3 e hm;exact hx.elim this.1 this.2
   have hle:(level:Int)<e.l:=by
    rw[h5]at he;rcases ah.1 he with h8 |h8
    ·exact absurd h8 dS
    ·exact h6 e h8
   rw[<-ht];exact i2 e (dK.2 he) hle
 ·have :S.back level=S:=by unfold Sv.back;rw[aae (by omega)]
  rw[this];exact h
theorem Gy {G:Gr}(h:HI G.S.H)(l:Int):HI (meet G l).S.H/\∀y,y∈(meet G l).S.H.items↔y∈G.S.H.items:=by
 unfold meet;simp only;split
 ·exact⟨h,fun y=>Iff.rfl⟩
 ·split
  ·exact wH h _ _
  ·exact wH h _ _
theorem pf (skip:Int):∀(ls:List Int) (G:Gr),HI G.S.H->HI (meets skip ls G).S.H/\∀y,y∈(meets skip ls G).S.H.items↔y∈G.S.H.items
 |[],G,h=>⟨h,fun y=>Iff.rfl⟩
 |l::r,G,h=>by
  rw[meets];split
  ·obtain⟨h1,h2⟩:=Gy h l;obtain⟨h3,h4⟩:=pf skip r _ h1;exact⟨h3,fun y=>(h4 y).trans (h2 y)⟩
  ·exact pf skip r G h
theorem sh:∀(f:Nat) (G:Gr) (n skip:Int) (rest:List Int) (GE:Gr) (xe:Int),HI G.S.H->eR f G n skip rest=some (GE,xe)->∀y,y∈GE.S.H.items↔y∈G.S.H.items
 |0,G,n,skip,rest,GE,xe,hi,h=>by rw[iO]at h;cases h
 |f+1,G,n,skip,rest,GE,xe,hi,h=>by
  rw[jz]at h;have hk:HI (dA G n skip).S.H/\∀y,y∈(dA G n skip).S.H.items↔y∈G.S.H.items:=by
   unfold dA;split
   ·exact pf skip _ { G with S:=G.S.gK n.toNat } hi
   ·exact⟨hi,fun y=>Iff.rfl⟩
  generalize dA G n skip=G1 at h hk;unfold dV at h;cases hq:rest.dropWhile (fun x=>decide (tv x∉G1.seen))with
  |nil=>rw[hq]at h;cases h
  |cons x r=>
   rw[hq]at h;simp only at h;split at h
   ·simp only[Option.some.injEq,Prod.mk.injEq]at h;obtain⟨rfl,rfl⟩:=h;exact hk.2
   ·exact fun y=>(sh f { G1 with fP:=G1.fP-1 } _ _ _ GE xe hk.1 h y).trans (hk.2 y)
theorem yZ {S:Sv}{m:Nat}(ok:S.Ok m){n:Nat}{S1:Sv}{l:List Int}{ct:Int}(h:S.fL n=some (S1,l,ct)):∀y,y∈S1.H.items↔y∈S.H.items:=by
 unfold fL at h;cases hq:eR (S.T.lits.length+1) ⟨S,[],0,[0]⟩ n 0 S.T.lits.reverse with
 |none=>rw[hq]at h;cases h
 |some p=>
  obtain⟨G,x⟩:=p;rw[hq]at h;simp only[Option.some.injEq,Prod.mk.injEq]at h;obtain⟨rfl,_⟩:=h;exact sh _ _ _ _ _ G x ok.hi hq
theorem Px (S:Sv){m:Nat}(ok:S.Ok m)(x r:Int):∀e∈S.R,e∈(S.put x r).R:=fun e he=>by
 by_cases hb:S.T.ij x=true
 ·rw[ol ok hb];exact an _ he
 ·rw[dJ (show(S.put x r).T=S.T by unfold Sv.put;simp only;rw[aac hb])];exact he
theorem Md {B:Sv}{m:Nat}(ok:B.Ok m)(l:List Int):(B.bu l).ch.H=B.H/\(B.bu l).ch.vars=B.vars/\∀e∈B.R,e∈(B.bu l).ch.R:=by
 by_cases e1:l.length=1
 ·have e:(B.bu l)=B.put l[0]! 0:=by unfold bu;rw[aae e1]
  rw[e];exact⟨rfl,rfl,Px B ok _ _⟩
 ·have e:(B.bu l)={ ((B.attach l true).put l[0]! (B.list.length+1))with many:=B.many+1 }:=by unfold bu;rw[aac e1]
  have hT:(B.bu l).ch.T=(B.put l[0]! (B.list.length+1)).T:=by rw[e];show((B.attach l true).put l[0]! _).T=_;unfold Sv.put;simp only;rw[(cE B l true).1]
  have hR:(B.bu l).ch.R=(B.put l[0]! (B.list.length+1)).R:=dJ hT;refine⟨by rw[e];exact(cE B l true).2.2.2.2.2,by rw[e];exact(cE B l true).2.1,fun x hx=> ?_⟩;rw[hR];exact Px B ok _ _ x hx
theorem Hc.conflict {S:Sv}(hh:S.Hc)(h:S.Inv){n:Nat}(hc:S.Jv n)(hn:(S.rc n).lits≠[])(hr:S.list.length<2199023255552)(Nb:0<S.T.levels.length){S2:Sv}(he:S.conflict n=some (S2,true)):S2.Hc:=by
 obtain⟨S1,l,ct,h1,h2,h3⟩:=jf h.ok h.ud h.dec hc Nb hn;obtain⟨tA,eT,eV,eL,eU,f0,f1,f2,f3,f4⟩:=gx h.ok h1;have Kn:S2=((S1.back ct.toNat).bu l).ch:=by unfold Sv.conflict at he;rw[aac (by omega),h1]at he;simp only[Option.some.injEq,Prod.mk.injEq]at he;exact he.1.symm
 have xu:S1.Hc:=hh.mono h.ok tA eV (yZ h.ok h1) (fun e he=>by rw[dJ eT];exact he);have hb:=xu.back tA ct.toNat;have T9:=(tA.back ct.toNat)
 have okl:=T9.1.bu f0 f1 (by rw[T9.2.1,eV];exact f2) (by rw[T9.2.2,eL];exact hr);obtain⟨k1,k2,k3⟩:=Md T9.1 l;rw[Kn];exact hb.mono T9.1 okl.ch k2 (fun y=>by rw[k1]) k3
theorem Hc.rest {S S':Sv}(h:S.Hc){m m':Nat}(ok:S.Ok m)(ok':S'.Ok m')(hm:Mo S S')(hr:S'.rest=S.rest):S'.Hc:=by have e1:S'.H=S.H:=aao (fun x=>x.1) hr;have e2:S'.vars=S.vars:=aao (fun x=>x.2.1) hr;obtain⟨Z,hZ,_⟩:=hm.pre;exact h.mono ok ok' e2 (fun y=>by rw[e1]) (fun e he=>by rw[hZ];exact an _ he)
end Sv
namespace Sv
structure Up (S S':Sv):Prop where
 R:∃Z,S'.R=S.R++Z/\∀e∈Z,1<=e.l
 list:S'.list=S.list
 bad:S'.bad=S.bad
 vars:S'.vars=S.vars
theorem Up.W7 {S S':Sv}{F:(Nat->Bool)->Prop}(u:Up S S')(h:S.cR F):S'.cR F:=by
 obtain⟨Z,hZ,hz⟩:=u.R;have eE:=jJ u.list;refine⟨fun a ha=> ?_,fun hb=>h.bad (u.bad▸hb),fun hb a ha=>h.full (u.bad▸hb) a ⟨fun n h1 h2=> ?_,fun e he h0=>ha.2 e (by rw[hZ];exact an _ he) h0⟩⟩
 ·have hg:=h.sound a ha;refine⟨fun n hn=>by rw[eE]at hn⊢;exact hg.1 n hn,fun e he h0=> ?_⟩;rw[hZ]at he;rcases ah.1 he with h1 |h1
  ·exact hg.2 e h1 h0
  ·have :=hz e h1;omega
 ·have :=ha.1 n (by rw[eE];exact h1) (by rw[eE];exact h2);rw[eE]at this;exact this
structure Wf (us:List Int)(S':Sv):Prop where
 set:∀v:Int,1<=v->v<=S'.vars->S'.val v≠0
 us:∀u∈us,∃e∈S'.R,e.x=u
 full:S'.head=S'.T.lits.length
 model:S'.model=(List.range (S'.vars+1)).map fun v:Nat=>decide (0<S'.val (v:Int))
 has:S'.has=true
structure Wc (us:List Int)(S':Sv):Prop where
 no:∀a,S'.Good a->¬∀u∈S'.core,mD a u
 sub:∀u∈S'.core,u∈us
 ord:S'.core.Pairwise (fun x y=>us.idxOf x<us.idxOf y)
theorem LK (S:Sv){m:Nat}(ok:S.Ok m):S.pick.1.T=S.T/\S.pick.1.list=S.list/\S.pick.1.bad=S.bad/\S.pick.1.vars=S.vars/\S.pick.1.head=S.head:=by obtain⟨p1,p2,p3,p4,p5,p6,p7⟩:=ok.pick;exact⟨p2,p4,(qW _ S).2.2.2.2,p3,p5⟩
theorem sK {us:List Int}{S:Sv}(h:S.Inv)(hf:S.head=S.T.lits.length)(hA:As us S)(hD:Dc us S)(hc:S.Hc)(hl:us.length<=S.T.levels.length):
  (S.choose.2=0\/S.choose.2=1)/\Up S S.choose.1/\(S.choose.2=0->As us S.choose.1/\Dc us S.choose.1)/\S.choose.1.Hc/\(S.choose.2=1->Wf us S.choose.1/\S.choose.1.T=S.T):=by
 obtain⟨s1,s2,s3,s4,s5⟩:=LK S h.ok;have hI:=(choose_spec h hf).1;obtain⟨c1,c2⟩:=DG h.ok (S.H.items.length+1) S 0 h.ok rfl hc (by omega);have c0:S.pick.2=0->∀x∈S.pick.1.H.items,1<=x:=fun e=>(c1 e).1;have c1:S.pick.2=0->∀v:Int,1<=v->v<=S.vars->S.val v≠0:=fun e=>(c1 e).2;have c2:S.pick.2≠0->(∀x∈S.pick.1.H.items,1<=x)/\∀v:Int,1<=v->v<=S.vars->S.val v=0->v∈S.pick.1.H.items\/S.pick.2=v\/S.pick.2= -v:=c2;unfold choose at hI⊢;by_cases h0:S.pick.2=0
 ·rw[aae h0]at hI⊢;have hT:S.pick.1.keep.T=S.T:=s1;have hR:S.pick.1.keep.R=S.R:=dJ hT;refine⟨.inr rfl,⟨⟨[],by rw[hR,bZ],fun e he=>by cases he⟩,s2,s3,s4⟩,fun h=>(by cases h),⟨fun v v1 v2 v3=>absurd v3 (by
   have :S.pick.1.keep.val v=S.val v:=by unfold val;rw[hT]
   rw[this];exact c1 h0 v v1 (by rw[<-s4];exact v2)),c0 h0⟩,fun _=>⟨⟨fun v v1 v2=> ?_,fun u hu=> ?_,?_,rfl,rfl⟩,hT⟩⟩
  ·have v2:v<=S.pick.1.vars:=v2;have :S.pick.1.keep.val v=S.val v:=by unfold val;rw[hT]
   rw[this];exact c1 h0 v v1 (by rw[<-s4];exact v2)
  ·obtain⟨i,hi,hg⟩:=List.getElem_of_mem hu;obtain⟨e,he,hx,_⟩:=hA i (by omega) hi;exact⟨e,by rw[hR];exact he,by rw[hx,mR hi,hg]⟩
  ·show S.pick.1.head=_;rw[s5,hT];exact hf
 ·rw[aac h0]at hI⊢;obtain⟨k1,k2⟩:=c2 h0;have hv:=tw h.ok _ S rfl h0;have hIp:S.pick.1.Inv:=by
   obtain⟨p1,p2,p3,p4,p5,p6,p7⟩:=h.ok.pick;refine h.congr p1 p2 p5 (fun n=>by rw[jJ p4]) ?_;have :∀(f:Nat) (S:Sv),(cQ f S).1.watch=S.watch:=by
    intro f;induction f with
    |zero=>intro S;rfl
    |succ f ih=>
     intro S;rw[cQ];split
     ·rfl
     ·simp only;split
      ·exact ih _
      ·rfl
   exact this _ S
  obtain⟨p1,p2,p3,p4,p5,p6,p7⟩:=h.ok.pick;obtain⟨q1,q2⟩:=hIp.choice (by rw[s1,s5];exact hf) h0 (by rw[s4];exact p6) (by rw[s4];exact p7) (by unfold val;rw[s1];exact hv);rw[dJ s1,s1]at q2;have hAp:As us S.pick.1:=hA.congr s1;have hDp:Dc us S.pick.1:=hD.congr s1;have hAd:As us S.pick.1.deep:=fun i i1 i2=>by obtain⟨e,he,hx⟩:=hAp i (by rw[s1];omega) i2;exact⟨e,by rw[rB hIp.ok];exact he,hx⟩
  have hDd:Dc us S.pick.1.deep:=fun e he=>hDp e (by rw[rB hIp.ok]at he;exact he);refine⟨.inl rfl,⟨⟨_,q2,fun e he=>by rw[ai.1 he];show(1:Int)<=((S.T.levels.length+1:Nat):Int);omega⟩,s2,s3,s4⟩,fun _=>⟨hAd.put hIp.ok.deep _ _,hDd.put hIp.ok.deep _ _ (fun _=> .inr (.inl (by rw[dQ,s1];omega)))⟩,⟨fun v v1 v2 v3=> ?_,k1⟩,fun h=>by cases h⟩;have v2:v<=S.pick.1.vars:=v2;have hold:S.val v=0:=by
   rcases gP h.ok v with h4 |h4 |h4
   ·exact h4
   ·exfalso;obtain⟨e,he,hx⟩:=(fK h.ok v).1 (by omega);exact(iZ q1.ok v3 e (by rw[q2];exact an _ he)).1 hx
   ·exfalso;obtain⟨e,he,hx⟩:=(val_neg h.ok).1 (by omega:S.val v<0);exact(iZ q1.ok v3 e (by rw[q2];exact an _ he)).2 hx
  have Hv:=iZ q1.ok v3 ⟨S.pick.2,(S.T.levels.length+1:Nat),0⟩ (by rw[q2];simp);rcases k2 v v1 (by rw[<-s4];exact v2) hold with h5 |h5 |h5
  ·exact h5
  ·exact absurd h5 Hv.1
  ·exact absurd h5 Hv.2
end Sv
namespace Sv
theorem Ny {us:List Int}{S:Sv}(h:S.Inv)(hD:Dc us S)(gZ:S.core=[])(hd:S.T.levels.length<us.length){a:Int}(ha:a∈us)(ha0:a≠0)(hv:S.val a= -1):Wc us (S.yd a us):=by
 have Qf:S.T.lits.reverse=S.R.reverse.map (·.x):=by rw[h.ok.rep.lits,List.map_reverse]
 obtain⟨b1,b2,b3⟩:=p8 h S.R.reverse [] [tv a] [a] (by simp);rw[<-Qf]at b1 b2 b3;have kF:∀m∈dL S S.T.lits.reverse [tv a] [a],m∈us:=fun m hm=>by
  rcases b2 m hm with h1 |⟨e,he,hr,hl,hx⟩
  ·rw[ai.1 h1];exact ha
  ·have Tk:=gM h.ok he;obtain⟨i,hi,hxi⟩:=hD e he hr hl (by omega);rw[<-hx,hxi];exact get_mem hi
 obtain⟨c1,c2,c3⟩:=xT (dL S S.T.lits.reverse [tv a] [a]) us [] [] (fun x hx=>by cases hx) (fun x hx=>by cases hx) List.Pairwise.nil;have hc:(S.yd a us).core=hJ (dL S S.T.lits.reverse [tv a] [a]) us []:=by show hJ _ us S.core=_;rw[gZ]
 refine⟨fun a' hg ip=> ?_,fun u hu=> ?_,?_⟩
 ·have hg:S.Good a':=hg;have ad6:∀m∈dL S S.T.lits.reverse [tv a] [a],mD a' m:=fun m hm=>ip m (by rw[hc];exact c2 m (kF m hm) hm);obtain⟨e,he,hx⟩:=(val_neg h.ok).1 (by omega:S.val a<0);have ht:=(kd h.ok he hx).1;have h1:=b3 a' hg ad6 e (dK.2 he) (by rw[<-ht];exact ai.2 rfl);rw[hx]at h1;exact(mD.neg ha0).1 h1 (ad6 a (b1 a (ai.2 rfl)))
 ·rw[hc]at hu;exact(c1 u hu).1
 ·rw[hc];exact c3
theorem Nv {us:List Int}{S:Sv}{m:Nat}(ok:S.Ok m)(hA:As us S)(hD:Dc us S)(hv:S.T.levels.length<us.length->∃e∈S.R,e.x=us[S.T.levels.length]!):As us S.deep/\Dc us S.deep:=by
 refine⟨fun i i1 i2=> ?_,fun e he=>hD e (by rw[rB ok]at he;exact he)⟩;rw[dQ]at i1;rw[rB ok];by_cases h:i<S.T.levels.length
 ·exact hA i h i2
 ·have :i=S.T.levels.length:=by omega
  subst this;obtain⟨e,he,hx⟩:=hv i2;have :=(gM ok he).2.2.2;exact⟨e,he,hx,by omega⟩
theorem qL {us:List Int}:∀(f:Nat) (S:Sv),S.Inv->S.head=S.T.lits.length->(∀x∈us,x≠0/\ -(S.vars:Int)<=x/\x<=S.vars)->As us S->Dc us S->S.Hc->S.core=[]->us.length<=f+S.T.levels.length->
  ((bz us f S).2=0\/(bz us f S).2=1\/(bz us f S).2=2)/\Up S (bz us f S).1/\
  ((bz us f S).2=0->As us (bz us f S).1/\Dc us (bz us f S).1)/\(bz us f S).1.Hc/\
  ((bz us f S).2=1->Wf us (bz us f S).1)/\((bz us f S).2=2->Wc us (bz us f S).1)
 |0,S,h,hf,hu,hA,hD,hc,gZ,hl=>by
  obtain⟨k1,k2,k3,k5,k4⟩:=sK h hf hA hD hc (by omega);have e:bz us 0 S=S.choose:=rfl;rw[e];exact⟨k1.elim .inl (fun h=> .inr (.inl h)),k2,k3,k5,fun h=>(k4 h).1,fun h=>by rcases k1 with k1 |k1<;>omega⟩
 |f+1,S,h,hf,hu,hA,hD,hc,gZ,hl=>by
  rw[bz];by_cases hd:S.T.levels.length<us.length
  ·rw[aae hd];have hm:=get_mem (l:=us) hd;have ha:=hu _ hm;simp only;by_cases h1:S.val us[S.T.levels.length]! = -1
   ·rw[aae h1];exact⟨.inr (.inr rfl),⟨⟨[],by rw[bZ];rfl,fun e he=>by cases he⟩,rfl,rfl,rfl⟩,fun h=>(by cases h),⟨hc.all,hc.pos⟩,fun h=>(by cases h),fun _=>Ny h hD gZ hd hm ha.1 h1⟩
   ·rw[aac h1];by_cases h2:S.val us[S.T.levels.length]! =0
    ·rw[aae h2];obtain⟨q1,q2⟩:=h.choice hf ha.1 ha.2.1 ha.2.2 h2;refine⟨.inl rfl,⟨⟨_,q2,fun e he=>by rw[ai.1 he];show(1:Int)<=((S.T.levels.length+1:Nat):Int);omega⟩,rfl,rfl,rfl⟩,fun _=>⟨fun i i1 i2=> ?_,fun e he h0 l1 l2=> ?_⟩,?_,fun h=>(by cases h),fun h=>(by cases h)⟩
     ·rw[dO,dQ]at i1;by_cases hi:i<S.T.levels.length
      ·obtain⟨e,he,hx⟩:=hA i hi i2;exact⟨e,by rw[q2];exact an _ he,hx⟩
      ·have :i=S.T.levels.length:=(by omega)
       subst this;exact⟨⟨us[S.T.levels.length]!,(S.T.levels.length+1:Nat),0⟩,by rw[q2];simp,rfl,by show((S.T.levels.length+1:Nat):Int)<=_;omega⟩
     ·rw[q2]at he;rcases ah.1 he with h3 |h3
      ·exact hD e h3 h0 l1 l2
      ·rw[ai.1 h3];exact⟨_,hd,rfl⟩
     ·exact hc.mono h.ok q1.ok rfl (fun y=>Iff.rfl) (fun e he=>by rw[q2];exact an _ he)
    ·rw[aac h2];have adH:∃e∈S.R,e.x=us[S.T.levels.length]! :=by
      rcases gP h.ok us[S.T.levels.length]! with h3 |h3 |h3
      ·exact absurd h3 h2
      ·exact(fK h.ok _).1 (by rw[h3];decide)
      ·exact absurd h3 h1
     obtain⟨d1,d2⟩:=Nv h.ok hA hD (fun _=>adH);have hRd:=rB h.ok;have hcd:S.deep.Hc:=hc.mono h.ok h.ok.deep rfl (fun y=>Iff.rfl) (fun e he=>by rw[hRd];exact he);obtain⟨i1,i2,i3,i4,i5,i6⟩:=qL f S.deep (h.deep hf) hf hu d1 d2 hcd gZ (by rw[dQ];omega);obtain⟨Z,hZ,hz⟩:=i2.R;exact⟨i1,⟨⟨Z,by rw[hZ,hRd],hz⟩,i2.list,i2.bad,i2.vars⟩,i3,i4,i5,i6⟩
  ·rw[aac hd];obtain⟨k1,k2,k3,k5,k4⟩:=sK h hf hA hD hc (by omega);exact⟨k1.elim .inl (fun h=> .inr (.inl h)),k2,k3,k5,fun h=>(k4 h).1,fun h=>by rcases k1 with k1 |k1<;>omega⟩
end Sv
theorem sI {xs:List Int}:∀k,k<=xs.length->∀j,j<k->xs[j]! ∈gG xs k
 |0,_,j,h=>absurd h (aI _)
 |k+1,hk,j,h=>by
  rw[gG];by_cases hc:k=0\/xs[k]! ≠xs[k-1]!
  ·rw[aae hc];by_cases e:j=k
   ·rw[e];simp
   ·exact an _ (sI k (by omega) j (by omega))
  ·rw[aac hc];by_cases e:j=k
   ·have h0:k≠0:=fun e=>hc (.inl e);have h1:xs[k]! =xs[k-1]! :=Classical.byContradiction fun e=>hc (.inr e);rw[e,h1];exact sI k (by omega) (k-1) (by omega)
   ·exact sI k (by omega) j (by omega)
theorem Uc {l:List Int}{x:Int}(h:x∈l)(h0:x≠0):x∈nrm l:=by have h1:x∈ko (l.filter fun x=> !(x==0)):=List.mem_mergeSort.2 (dx.2 ⟨h,by simpa using h0⟩);obtain⟨i,hi,hg⟩:=List.getElem_of_mem h1;have :=sI (xs:=ko (l.filter fun x=> !(x==0))) _ (ap _) i hi;rw[mR hi,hg]at this;exact this
theorem O4 {ys:List Int}{v:Nat}(hr:∀x∈ys,x≠0/\ -(v:Int)<=x/\x<=v)(hv:v<=262143)(h:qu ys=true)(a:Nat->Bool):lG a ys:=by
 unfold qu at h;rw[cq]at h;obtain⟨j,hj,ht⟩:=h;rw[cH]at hj;unfold mb at ht;have m1:=get_mem (l:=ys) (i:=j) (by omega);have m2:=get_mem (l:=ys) (i:=j+1) (by omega);have r2:=hr _ m2;have :wrap64 (-(ys[j+1]!))= -(ys[j+1]!):=by unfold wrap64;omega
 rw[this]at ht;have ht:ys[j]! = -(ys[j+1]!):=by simpa using ht
 by_cases hc:mD a ys[j+1]!
 ·exact⟨_,m2,hc⟩
 ·exact⟨_,m1,by rw[ht];exact(mD.neg r2.1).2 hc⟩
namespace Sv
theorem cR.new (vars:Int):(Sv.new vars).cR fun _=>True:=by have hR:(Sv.new vars).R=[]:=rfl;have eE:∀n,(Sv.new vars).rc n=⟨[],false,0⟩:=fun n=>nD (bR _);exact⟨fun a _=>⟨fun n hn=>absurd (by rw[eE]) hn,fun e he=>by rw[hR]at he;cases he⟩,fun h=>(by cases h),fun _ a _=>trivial⟩
theorem cR.bI {S:Sv}{F:(Nat->Bool)->Prop}(h:S.cR F):S.bI.cR F:=h.congr rfl rfl rfl
theorem cR.cO {S:Sv}{F:(Nat->Bool)->Prop}(h:S.cR F):S.cO.cR F:=h.congr rfl rfl rfl
theorem cR.ia {S:Sv}{F:(Nat->Bool)->Prop}(h:S.cR F)(hi:S.Inv){out:List Int}(h1:out.length<=1048576)(hl:∀x∈out,x≠0/\ -(S.vars:Int)<=x/\x<=S.vars)(hd:(out.map tv).Nodup)(hv:∀x∈out,S.val x=0)(hr:S.list.length<2199023255552)(h0:S.T.levels.length=0)
  {G:(Nat->Bool)->Prop} (hG:∀a,F a->(G a↔lG a out)):(S.ia out).cR fun a=>F a/\G a:=by
 unfold Sv.ia;by_cases e0:out.length=0
 ·rw[aae e0];have hn:out=[]:=aP e0;have rE:∀a,¬(F a/\G a):=fun a ⟨hf,hg⟩=>by obtain⟨y,hy,_⟩:=(hG a hf).1 hg;rw[hn]at hy;cases hy
  exact⟨fun a ha=>absurd ha (rE a),fun _=>rE,fun h=>by cases h⟩
 ·rw[aac e0];have hm:=get_mem (l:=out) (i:=0) (by omega);by_cases e1:out.length=1
  ·rw[aae e1];obtain⟨y,hy⟩:∃y,out=[y]:=by
    match out,e1 with
    |[y],_=>exact⟨y,rfl⟩
   have ht:=qt (hl _ hm).1 (hl _ hm).2.1 (hl _ hm).2.2 hi.ok.vl;have hR:=ol (r:=0) hi.ok (i9 hi.ok ht.1 ht.2 (hv _ hm));rw[h0]at hR;have jX:out[0]! =y:=by rw[hy];rfl
   rw[jX]at hR⊢;have hs:∀a,lG a out↔mD a y:=fun a=>by rw[hy];exact⟨fun⟨z,hz,hzt⟩=>by rw[ai.1 hz]at hzt;exact hzt,fun h=>⟨y,ai.2 rfl,h⟩⟩
   refine⟨fun a ⟨ha,hg⟩=> ?_,fun hb a ha=>h.bad hb a ha.1,fun hb a ha=> ?_⟩
   ·have ow:=h.sound a ha;refine⟨ow.1,fun e he tc=> ?_⟩;rw[hR]at he;rcases ah.1 he with h3 |h3
    ·exact ow.2 e h3 tc
    ·rw[ai.1 h3];exact(hs a).1 ((hG a ha).1 hg)
   ·have hf:F a:=h.full hb a ⟨ha.1,fun e he tc=>ha.2 e (by rw[hR];exact an _ he) tc⟩;refine⟨hf,(hG a hf).2 ((hs a).2 ?_)⟩;exact ha.2 ⟨y,((0:Nat):Int),0⟩ (by rw[hR];simp) rfl
  ·rw[aac e1];obtain⟨k1,k2,k3⟩:=hi.attach ⟨by omega,h1,hl⟩ hd false hr;have vD:=cE S out false;have hR:(S.attach out false).R=S.R:=dJ vD.1;have dS:out≠[]:=fun e=>e0 (by rw[e];rfl);have Q0:(S.attach out false).bad=S.bad:=rfl;refine⟨fun a ⟨ha,hg⟩=> ?_,fun hb a ha=>h.bad hb a ha.1,fun hb a ha=> ?_⟩
   ·have ow:=h.sound a ha;refine⟨fun n hn=> ?_,fun e he tc=>ow.2 e (hR▸he) tc⟩;by_cases e:n=S.list.length
    ·rw[e,k2];exact(hG a ha).1 hg
    ·rw[k3 n e]at hn⊢;exact ow.1 n hn
   ·have hf:F a:=h.full hb a ⟨fun n n1 n2=> ?_,fun e he tc=>ha.2 e (by rw[hR];exact he) tc⟩
    ·refine⟨hf,(hG a hf).2 ?_⟩;have :=ha.1 S.list.length (by rw[k2]) (by rw[k2];exact dS);rw[k2]at this;exact this
    ·have yB:n≠S.list.length:=fun e=>by have :=lW n2;omega
     have :=ha.1 n (by rw[k3 n yB];exact n1) (by rw[k3 n yB];exact n2);rw[k3 n yB]at this;exact this
theorem cR.fT {S:Sv}{F:(Nat->Bool)->Prop}(h:S.cR F)(hi:S.Inv)(h0:S.T.levels.length=0){l:List Int}(mi:Ra l)(hr:S.list.length<2199023255552)(hc:ft S.vars l=0):(S.fT l).1.cR fun a=>F a/\lG a l:=by
 have yH:=pX mi hc;have hnr:∀x∈nrm l,x≠0/\ -(S.vars:Int)<=x/\x<=S.vars:=fun x hx=>yH.2 x (lS hx).1;have Kd:∀a,lG a (nrm l)↔lG a l:=fun a=>⟨fun⟨y,hy,ht⟩=>⟨y,(lS hy).1,ht⟩,fun⟨y,hy,ht⟩=>⟨y,Uc hy (yH.2 y hy).1,ht⟩⟩
 unfold Sv.fT;rw[aae hc];by_cases hs:S.n9 (nrm l)=true
 ·rw[aae hs];simp only;by_cases hb:S.bad=true
  ·exact⟨fun a ha=>absurd ha.1 (h.bad hb a),fun _ a ha=>h.bad hb a ha.1,fun iK=>by have iK:S.bad=false:=iK;rw[hb]at iK;cases iK⟩
  ·have ip:∀a,S.SY a->lG a l:=fun a ha=>by
    rw[<-Kd];unfold n9 at hs;rw[jt]at hs;rcases hs with hs |hs
    ·exact O4 hnr hi.ok.vl hs a
    ·rw[cq]at hs;obtain⟨x,hx,hp⟩:=hs;obtain⟨e,he,hex⟩:=(fK hi.ok x).1 (by simpa using hp);have Tk:=gM hi.ok he;have :=ha.2 e he (by omega);rw[hex]at this;exact⟨x,hx,this⟩
   exact⟨fun a ha=>h.bI.sound a ha.1,fun iK=>absurd iK hb,fun iK a ha=>⟨h.bI.full iK a ha,ip a ha⟩⟩
 ·rw[aac hs];simp only;obtain⟨g1,g2⟩:=pk (S:=S) mi hc;have hs:S.n9 (nrm l)=false:=by simpa using hs
  unfold n9 at hs;rw[dX]at hs;have hd:=wN (l:=l) (v:=S.vars) (fun x hx=>(hnr x hx).2) hi.ok.vl hs.1;refine h.bI.ia hi.bI (by omega) g2 ?_ (fun x hx=> ?_) hr h0 (fun a ha=> ?_)
  ·unfold leftOf;exact hd.sublist (List.Sublist.map tv (List.filter_sublist))
  ·unfold leftOf at hx;rw[dx]at hx;have h3:¬S.val x<0:=by simpa using hx.2
   have h4:¬0<S.val x:=fun h5=>by have :(nrm l).any (fun x=>decide (0<S.val x))=true:=cq.2 ⟨x,hx.1,by simpa using h5⟩;rw[this]at hs;cases hs.2
   show S.val x=0;omega
  ·rw[<-Kd];constructor
   ·rintro⟨y,hy,ht⟩;refine⟨y,?_,ht⟩;unfold leftOf;rw[dx];refine⟨hy,?_⟩;have :¬S.val y<0:=fun tK=>by obtain⟨e,he,hx⟩:=(val_neg hi.ok).1 tK;have Tk:=gM hi.ok he;have :=(h.sound a ha).2 e he (by omega);rw[hx]at this;exact(mD.neg (hnr y hy).1).1 this ht
    simpa using this
   ·rintro⟨y,hy,ht⟩;unfold leftOf at hy;exact⟨y,(dx.1 hy).1,ht⟩
end Sv
namespace Sv
theorem Inv.cg {S:Sv}(h:S.Inv){n:Nat}(hr:∀e∈S.R,e.r≠(n:Int)+1):(S.cg n).Inv:=by
 have ok:=h.ok.cg n;have eE:∀j,j≠n->(S.cg n).rc j=S.rc j:=fun j hj=>by rw[ff,aac (fun e=>hj e.1.symm)]
 have dS:∀j,((S.cg n).rc j).lits≠[]->j≠n:=fun j hj e=>by
  subst e;rw[ff]at hj;split at hj
  ·exact hj rfl
  ·rename_i hh;have :¬j<S.list.length:=fun e=>hh ⟨rfl,e⟩;exact hj (by rw[nD (by omega)])
 refine⟨ok,fun j=> ?_,fun A e B h1 h2=> ?_,h.dec,h.hd,⟨h.wi.nd,fun c j hj hl=> ?_,fun j hl=> ?_⟩,fun j hl e he=> ?_⟩
 ·by_cases e:j=n
  ·by_cases hl:((S.cg n).rc j).lits=[]
   ·rw[hl];exact List.nodup_nil
   ·exact absurd e (dS j hl)
  ·rw[eE j e];exact h.kI j
 ·obtain⟨k,hk,ls,kf,ip⟩:=h.ud A e B h1 h2;have jg:k≠n:=fun ek=>by have :=hr e (by rw[show S.R=A++e::B from h1];simp);rw[hk,ek]at this;exact this rfl
  exact⟨k,hk,ls,by rw[eE k jg];exact kf,ip⟩
 ·have :=dS j hl;rw[eE j this]at hl⊢;exact h.wi.wd c j hj hl
 ·have :=dS j hl;rw[eE j this]at hl⊢;exact h.wi.wc j hl
 ·have :=dS j hl;rw[eE j this]at hl⊢;exact h.wt j hl e he
theorem Gv {S:Sv}(h:S.Inv){n:Nat}(hl:S.locked n=false):∀e∈S.R,e.r≠(n:Int)+1:=fun e he hr=>by
 obtain⟨A,B,hR⟩:=List.append_of_mem he;obtain⟨k,hk,ls,kf,_⟩:=h.ud A e B hR (by omega);have jg:k=n:=by omega
 subst jg;have h0:(S.rc k).lits[0]! =e.x:=by rw[kf];rfl
 have :S.locked k=true:=by unfold locked;rw[h0,(ld h.ok he).2,hr];simp only[decide_true,Bool.and_true,aal];exact(fK h.ok _).2 ⟨e,he,rfl⟩
 rw[this]at hl;cases hl
theorem xJ:∀(D:List Nat) (S:Sv),S.Inv->D.Nodup->(∀n∈D,(∀e∈S.R,e.r≠(n:Int)+1)/\(S.rc n).jr=true)->
  (D.foldl cg S).Inv/\(D.foldl cg S).T=S.T/\(D.foldl cg S).H=S.H/\(D.foldl cg S).head=S.head/\∀F:(Nat->Bool)->Prop,S.cR F->(D.foldl cg S).cR F
 |[],S,h,_,_=>⟨h,rfl,rfl,rfl,fun F hk=>hk⟩
 |n::r,S,h,hn,hd=>by rw[fG]at hn;obtain⟨h1,h2⟩:=hd n bD;obtain⟨i1,i2,i3,i4,i5⟩:=xJ r (S.cg n) (h.cg h1) hn.2 (fun m hm=>by obtain⟨g1,g2⟩:=hd m (aY _ hm);refine⟨g1,?_⟩;have On:¬(n=m/\n<S.list.length):=fun e=>hn.1 (e.1▸hm);rw[ff,aac On];exact g2);exact⟨i1,i2,i3,i4,fun F hk=>i5 F (hk.cg h2)⟩
theorem Ps {S S':Sv}(h:S.Inv)(hr:I6 S S'):S'.Inv/\S'.T=S.T/\S'.H=S.H/\S'.head=S.head/\∀F:(Nat->Bool)->Prop,S.cR F->S'.cR F:=by obtain⟨D,h1,h2,h3,rfl⟩:=hr;exact xJ D S h h1 (fun n hn=>by obtain⟨_,k2,_,k4⟩:=AQ (h2 n hn);exact⟨Gv h k4,k2⟩)
end Sv
def bits:List Bool->Nat
 |[]=>0
 |b::r=>2*bits r+b.toNat
theorem K8:∀l:List Bool,bits l<2^l.length
 |[]=>by simp[bits]
 |b::r=>by have :=K8 r;rw[bits,cW,Nat.pow_succ];cases b<;>simp <;>omega
theorem Fa:∀l l':List Bool,l.length=l'.length->bits l=bits l'->l=l'
 |[],[],_,_=>rfl
 |[],_::_,h,_=>by simp at h
 |_::_,[],h,_=>by simp at h
 |b::r,b'::r',h,e=>by
  rw[bits,bits]at e;have hb:b=b':=by cases b<;>cases b'<;>simp at e⊢<;>omega
  have hr:bits r=bits r':=by rw[hb]at e;omega
  rw[hb,Fa r r' (by simpa using h) hr]
def BK (U l:List Int):List Bool:=U.map fun u=>l.contains u
theorem DY {U l l':List Int}(h:BK U l=BK U l')(hr:∀x∈l,x∈U):∀x∈l,x∈l':=fun x hx=>by
 obtain⟨i,hi,hg⟩:=List.getElem_of_mem (hr x hx);have h1:(BK U l)[i]? =some true:=by unfold BK;rw[aJ,af hi,hg];simp[hx]
 rw[h]at h1;unfold BK at h1;rw[aJ,af hi,hg]at h1;simpa using h1
structure N7 (U:List Int)(vars:Nat):Prop where
 len:U.length<=18
 vars:vars<=4096
 neg:∀x∈U,-x∈U
 oF:∀x∈U,-1000000<=x/\x<=1000000
theorem N7.tv {U:List Int}{v:Nat}(h:N7 U v){x y:Int}(hx:x∈U)(e:tv y=tv x):y∈U:=by
 unfold Go.Proofs.YtjmmpfjcpdepjaaGreatDoor.tv at e;rcases(show y=x\/y= -x by omega)with h1 |h1
 ·rw[h1];exact hx
 ·rw[h1];exact h.neg x hx
namespace Sv
def fg (S:Sv)(n:Nat):Bool:=(S.rc n).jr&& !(S.rc n).lits.isEmpty
def LL (S:Sv):List Nat:=(List.range S.list.length).filter S.fg
theorem la {S:Sv}{n:Nat}:S.fg n=true↔(S.rc n).jr=true/\(S.rc n).lits≠[]:=by unfold fg;simp
def DL (S:Sv):Prop:=∀n m,S.fg n=true->S.fg m=true->(∀x,x∈(S.rc n).lits↔x∈(S.rc m).lits)->n=m
def OH (U:List Int)(S:Sv):Prop:=∀n,∀x∈(S.rc n).lits,x∈U
theorem afC {U:List Int}{S:Sv}(h:S.DL)(hu:OH U S):S.LL.length<=2^U.length:=by
 have hn:(S.LL.map fun n=>bits (BK U (S.rc n).lits)).Nodup:=by unfold List.Nodup;rw[List.pairwise_map];have h0:S.LL.Nodup:=List.Nodup.sublist List.filter_sublist List.nodup_range;refine List.Pairwise.imp_of_mem ?_ h0;intro a b ha hb hab e;have hk:=Fa _ _ (by simp[BK]) e;have h1:S.fg a=true:=(dx.1 ha).2;have h2:S.fg b=true:=(dx.1 hb).2;exact hab (h a b h1 h2 fun x=>⟨DY hk (hu a) x,DY hk.symm (hu b) x⟩)
 have :=ja (2^U.length) _ hn (fun x hx=>by rw[aG]at hx;obtain⟨n,_,rfl⟩:=hx;have :=K8 (BK U (S.rc n).lits);simpa[BK]using this);simpa using this
def GU (U:List Int)(G:Gr):Prop:=(∀v∈G.seen,∃u∈U,tv u=v)/\(∀x∈G.bt.tail,x∈U)/\G.bt≠[]
theorem GU.meet {U:List Int}{G:Gr}(h:GU U G){l:Int}(hl:l∈U):GU U (meet G l):=by
 obtain⟨h1,h2,h3⟩:=h;have hs:∀v∈tv l::G.seen,∃u∈U,tv u=v:=fun v hv=>by
  rcases av.1 hv with rfl |hv
  ·exact⟨l,hl,rfl⟩
  ·exact h1 v hv
 unfold Sv.meet;simp only;split
 ·exact⟨h1,h2,h3⟩
 ·split
  ·exact⟨hs,h2,h3⟩
  ·refine⟨hs,fun x hx=> ?_,by simp⟩;have hx:x∈(G.bt++[l]).tail:=hx;rw[List.tail_append_of_ne_nil h3]at hx;rcases ah.1 hx with hx |hx
   ·exact h2 x hx
   ·rw[ai.1 hx];exact hl
theorem GU.meets {U:List Int}(skip:Int):∀(ls:List Int) (G:Gr),GU U G->(∀x∈ls,x∈U)->GU U (meets skip ls G)
 |[],G,h,_=>h
 |l::r,G,h,hl=>by
  rw[Sv.meets];refine GU.meets skip r _ ?_ fun x hx=>hl x (aY _ hx);split
  ·exact h.meet (hl l bD)
  ·exact h
theorem GB (skip:Int)(ls:List Int)(G:Gr)(j:Nat):((Sv.meets skip ls G).S.rc j).lits=(G.S.rc j).lits:=(jI (nt skip ls G) j).1
theorem PW {U:List Int}{G:Gr}(h:GU U G)(hS:OH U G.S)(n skip:Int):GU U (dA G n skip)/\OH U (dA G n skip).S:=by
 unfold dA;split
 ·refine⟨GU.meets skip _ _ h fun x hx=>hS _ x hx,fun j x hx=> ?_⟩;rw[GB]at hx;have hx:x∈((G.S.gK n.toNat).rc j).lits:=hx;rw[(o9 G.S n.toNat j).1]at hx;exact hS j x hx
 ·exact⟨h,hS⟩
theorem DT {U:List Int}:∀(f:Nat) (G:Gr) (n skip:Int) (rest:List Int) (G':Gr) (x:Int),GU U G->OH U G.S->eR f G n skip rest=some (G',x)->GU U G'/\∃u∈U,tv u=tv x
 |0,G,n,skip,rest,G',x,_,_,e=>by rw[iO]at e;cases e
 |f+1,G,n,skip,rest,G',x,h,hS,e=>by
  rw[jz]at e;obtain⟨h1,h2⟩:=PW h hS n skip;generalize dA G n skip=G1 at *;unfold dV at e;cases hd:rest.dropWhile (fun x=>decide (tv x∉G1.seen))with
  |nil=>rw[hd]at e;cases e
  |cons y r=>
   rw[hd]at e;simp only at e;have hy:tv y∈G1.seen:=by have :=List.head?_dropWhile_not (fun x=>decide (tv x∉G1.seen)) rest;rw[hd]at this;simpa using this
   split at e
   ·simp only[Option.some.injEq,Prod.mk.injEq]at e;obtain⟨rfl,rfl⟩:=e;exact⟨h1,h1.1 _ hy⟩
   ·exact DT f { G1 with fP:=G1.fP-1 } _ _ r G' x h1 h2 e
theorem Me {U:List Int}{v:Nat}(hf:N7 U v){S S1:Sv}{n:Nat}{l:List Int}{ct:Int}(hS:OH U S)(e:S.fL n=some (S1,l,ct)):∀x∈l,x∈U:=fun y hy=>by
 unfold fL at e;cases hl:eR (S.T.lits.length+1) ⟨S,[],0,[0]⟩ n 0 S.T.lits.reverse with
 |none=>rw[hl]at e;cases e
 |some q=>
  obtain⟨G,x⟩:=q;rw[hl]at e;simp only[Option.some.injEq,Prod.mk.injEq]at e;obtain⟨_,rfl,_⟩:=e;obtain⟨⟨_,h2,h3⟩,u,hu,ht⟩:=DT (S.T.lits.length+1) ⟨S,[],0,[0]⟩ n 0 S.T.lits.reverse G x (show GU U ⟨S,[],0,[0]⟩from⟨(fun v hv=>by cases hv),(fun x hx=>by cases hx),aF _ _⟩) hS hl;have :=nu _ _ _ _ (by omega) y hy;cases hg:G.bt with
  |nil=>exact absurd hg h3
  |cons a r=>
   rw[hg]at this h2;rcases av.1 (show y∈(-x)::r from this)with h4 |h4
   ·have hr:=hf.oF u hu;refine hf.tv hu ?_;rw[h4,ht];unfold Go.Proofs.YtjmmpfjcpdepjaaGreatDoor.tv at ht⊢;omega
   ·exact h2 y h4
theorem J1 {S S':Sv}(hm:Mo S S')(n:Nat):S'.fg n=S.fg n:=by
 have h1:=hm.lits n;have h2:=hm.jr n;unfold fg;rw[h2];congr 1;cases hq:(S.rc n).lits with
 |nil=>rw[hq]at h1;rw[List.perm_nil.1 h1]
 |cons x r=>
  rw[hq]at h1;cases hq2:(S'.rc n).lits with
  |nil=>rw[hq2]at h1;exact absurd h1.symm (by simp)
  |cons y r2=>rfl
theorem XU {S S':Sv}(hm:Mo S S')(hl:S'.list.length=S.list.length):S'.LL=S.LL:=by unfold LL;rw[hl];congr 1;funext n;exact J1 hm n
theorem DL.mo {S S':Sv}(h:S.DL)(hm:Mo S S'):S'.DL:=fun n m h1 h2 h3=>by rw[J1 hm]at h1 h2;exact h n m h1 h2 fun x=>by rw[<-(hm.lits n).mem_iff,<-(hm.lits m).mem_iff];exact h3 x
theorem DL.same {S S':Sv}(h:S.DL)(hl:∀n,(S'.rc n).lits=(S.rc n).lits/\(S'.rc n).jr=(S.rc n).jr):S'.DL:=fun n m h1 h2 h3=>by
 have e:∀n,S'.fg n=S.fg n:=fun n=>by unfold fg;rw[(hl n).1,(hl n).2]
 rw[e]at h1 h2;refine h n m h1 h2 fun x=> ?_;have :=h3 x;rw[(hl n).1,(hl m).1]at this;exact this
theorem PJ {S:Sv}(h:S.Inv){l:List Int}{ct:Int}(hl:S.Lrd l ct)(h2:2<=l.length){n:Nat}(hn:(S.rc n).lits≠[]):¬∀x,x∈(S.rc n).lits↔x∈l:=fun he=>by
 have hlen:=qU h.ok hn;have aex:∀y∈l,∃e∈S.R,e.x= -y:=fun y hy=>by
  obtain⟨k,hk,hg⟩:=List.getElem_of_mem hy;by_cases h0:k=0
  ·obtain⟨e,he,hx,_⟩:=hl.top;refine⟨e,he,?_⟩;have :l[0]! =y:=by rw[mR (by omega)];simp only[<-hg,h0]
   omega
  ·obtain⟨e,he,hx,_⟩:=hl.tail k (by omega) hk;refine⟨e,he,?_⟩;rw[hx,mR hk,hg]
 have aea:∀y∈l,y≠l[0]! ->∃e∈S.R.take S.head,e.x= -y:=fun y hy dS=>by
  obtain⟨k,hk,hg⟩:=List.getElem_of_mem hy;have h0:k≠0:=fun h0=>dS (by rw[mR (by omega)];simp only[<-hg,h0]);obtain⟨e,he,hx,zd,m6⟩:=hl.tail k (by omega) hk;refine⟨e,?_,by rw[hx,mR hk,hg]⟩;rw[<-List.take_append_drop S.head S.R]at he;rcases ah.1 he with h3 |h3
  ·exact h3
  ·have :=h.hd e h3;have :=hl.lt.2;omega
 have m0:=get_mem (l:=(S.rc n).lits) (i:=0) (by omega);have m1:=get_mem (l:=(S.rc n).lits) (i:=1) (by omega);have hd:=su (h.kI n) (i:=0) (j:=1) (by omega) (by omega) (by omega);by_cases h0:(S.rc n).lits[0]! =l[0]!
 ·have h1:(S.rc n).lits[1]! ≠l[0]! :=fun e=>hd (by rw[h0,e]);obtain⟨e,td,hx⟩:=aea _ ((he _).1 m1) h1;obtain⟨e',eK,Td,_⟩:=(h.wt n hn e td).2 hx;obtain⟨e2,jM,gd⟩:=aex _ ((he _).1 m0);exact jS h.ok jM eK (by rw[gd,Td])
 ·obtain⟨e,td,hx⟩:=aea _ ((he _).1 m0) h0;obtain⟨e',eK,Td,_⟩:=(h.wt n hn e td).1 hx;obtain⟨e2,jM,gd⟩:=aex _ ((he _).1 m1);exact jS h.ok jM eK (by rw[gd,Td])
def zero (S:Sv):Nat:=(S.R.filter fun e:St=>e.l==0).length
theorem zero_le {S:Sv}{m:Nat}(ok:S.Ok m):S.zero<=S.vars:=by have h1:=List.length_filter_le (fun e:St=>e.l==0) S.R;have h2:=vw ok;rw[<-jn]at h2;unfold zero;omega
theorem oR {S S':Sv}{Z:List St}(h:S'.R=S.R++Z):S'.zero=S.zero+(Z.filter fun e:St=>e.l==0).length:=by unfold zero;rw[h,List.filter_append,aj]
theorem sT {S S':Sv}(hl:∀n,(S'.rc n).lits=(S.rc n).lits/\(S'.rc n).jr=(S.rc n).jr)(hn:S'.list.length=S.list.length):S'.LL=S.LL:=by unfold LL;rw[hn];congr 1;funext n;unfold fg;rw[(hl n).1,(hl n).2]
structure qR (few:Prop)(U:List Int)(S:Sv):Prop where
 dl:S.DL
 many:S.many=S.LL.length
 YT:few->OH U S
variable {few:Prop} {U:List Int}
theorem OH.mo {S S':Sv}(h:OH U S)(hm:Mo S S'):OH U S':=fun n x hx=>h n x ((hm.lits n).mem_iff.1 hx)
theorem OH.same {S S':Sv}(h:OH U S)(hl:∀n,(S'.rc n).lits=(S.rc n).lits):OH U S':=fun n x hx=>h n x (by rw[<-hl n];exact hx)
theorem qR.mo {S S':Sv}(h:S.qR few U)(hm:Mo S S')(hl:S'.list.length=S.list.length)(ju:S'.many=S.many):S'.qR few U:=⟨h.dl.mo hm,by rw[ju,XU hm hl];exact h.many,fun hf=>(h.YT hf).mo hm⟩
theorem qR.same {S S':Sv}(h:S.qR few U)(hl:∀n,(S'.rc n).lits=(S.rc n).lits/\(S'.rc n).jr=(S.rc n).jr)(hn:S'.list.length=S.list.length)(ju:S'.many=S.many):S'.qR few U:=⟨h.dl.same hl,by rw[ju,sT hl hn];exact h.many,fun hf=>(h.YT hf).same fun n=>(hl n).1⟩
theorem GK {B:Sv}(h:B.qR few U)(hi:B.Inv){l:List Int}(hr:B.list.length<2199023255552)(l0:0<l.length)(l1:l.length<=1048576)(hl:∀x∈l,x≠0/\ -(B.vars:Int)<=x/\x<=B.vars)(yC:(l.map tv).Nodup)(hv:B.val l[0]! =0)
  (h1:l.length=1->B.T.levels.length=0)(hlu:few->∀x∈l,x∈U)(dS:2<=l.length->∀n,(B.rc n).lits≠[]->¬∀x,x∈(B.rc n).lits↔x∈l):
  (B.bu l).ch.qR few U/\B.LL.length+B.zero+1<=(B.bu l).ch.LL.length+(B.bu l).ch.zero:=by
 have tc:=hl _ (get_mem (l:=l) (i:=0) l0);have ht:=qt tc.1 tc.2.1 tc.2.2 hi.ok.vl;by_cases e1:l.length=1
 ·have e:(B.bu l)=B.put l[0]! 0:=by unfold bu;rw[aae e1]
  rw[e];have hR:(B.put l[0]! 0).ch.R=B.R++[⟨l[0]!,B.T.levels.length,0⟩]:=ol (r:=0) hi.ok (i9 hi.ok ht.1 ht.2 hv);have hz:=oR hR;rw[h1 e1]at hz;have hs:((([⟨l[0]!,((0:Nat):Int),0⟩]:List St).filter fun e:St=>e.l==0)).length=1:=rfl;rw[hs]at hz;have qh:(B.put l[0]! 0).ch.LL=B.LL:=sT (fun n=>⟨rfl,rfl⟩) rfl;exact⟨h.same (fun n=>⟨rfl,rfl⟩) rfl rfl,by rw[qh,hz];omega⟩
 ·have h2:2<=l.length:=by omega
  obtain⟨k1,k2,k3⟩:=hi.attach (l:=l) ⟨h2,l1,hl⟩ yC true hr;have vD:=cE B l true;obtain⟨S',vG⟩:∃S':Sv,(B.bu l).ch=S':=⟨_,rfl⟩
  have e:(B.bu l)={ ((B.attach l true).put l[0]! (B.list.length+1))with many:=B.many+1 }:=by unfold bu;rw[aac e1]
  have uv:S'.rc B.list.length=⟨l,true,B.used⟩:=by rw[<-vG,e];exact k2
  have uV:∀n,n≠B.list.length->S'.rc n=B.rc n:=fun n hn=>by rw[<-vG,e];exact k3 n hn
  have hlen:S'.list.length=B.list.length+1:=by rw[<-vG,e];exact vD.2.2.1
  have ju:S'.many=B.many+1:=by rw[<-vG,e];rfl
  have hb:(B.attach l true).T.ij l[0]! =true:=by rw[vD.1];exact i9 hi.ok ht.1 ht.2 hv
  have hR:S'.R=B.R++[⟨l[0]!,B.T.levels.length,(B.list.length:Int)+1⟩]:=by have :=ol (r:=(B.list.length:Int)+1) k1.ok hb;rw[dJ vD.1,vD.1]at this;rw[<-vG,e];exact this
  have hz:=oR hR;have akI:l≠[]:=fun e=>by rw[e]at l0;simp at l0
  have so:∀n,n≠B.list.length->S'.fg n=B.fg n:=fun n hn=>by unfold fg;rw[uV n hn]
  have lF:S'.fg B.list.length=true:=by rw[la,uv];exact⟨rfl,akI⟩
  have Ni:S'.LL=B.LL++[B.list.length]:=by unfold LL;rw[hlen,List.range_succ,List.filter_append,List.filter_cons,aae lF,List.filter_nil];congr 1;refine List.filter_congr fun n hn=>so n ?_;have :=cH.1 hn;omega
  rw[vG];refine⟨⟨fun n m n1 n2 n3=> ?_,by rw[ju,Ni,h.many];simp,fun hf n x hx=> ?_⟩,by rw[Ni,hz];simp;omega⟩
  rotate_left
  ·by_cases en:n=B.list.length
   ·rw[en,uv]at hx;exact hlu hf x hx
   ·rw[uV n en]at hx;exact h.YT hf n x hx
  by_cases en:n=B.list.length
  ·by_cases em:m=B.list.length
   ·rw[en,em]
   ·exfalso;rw[so m em]at n2;refine dS h2 m (la.1 n2).2 fun x=> ?_;have :=n3 x;rw[en,uv,uV m em]at this;exact this.symm
  ·by_cases em:m=B.list.length
   ·exfalso;rw[so n en]at n1;refine dS h2 n (la.1 n1).2 fun x=> ?_;have :=n3 x;rw[em,uv,uV n en]at this;exact this
   ·rw[so n en]at n1;rw[so m em]at n2;refine h.dl n m n1 n2 fun x=> ?_;have :=n3 x;rw[uV n en,uV m em]at this;exact this
theorem Ch {S:Sv}{v:Nat}(mP:few->N7 U v)(EI:S.qR few U)(h:S.Inv){n:Nat}(hc:S.Jv n)(hn:(S.rc n).lits≠[])(hr:S.list.length<2199023255552)(hd:0<S.T.levels.length){S2:Sv}(he:S.conflict n=some (S2,true)):
  S2.qR few U/\S.LL.length+S.zero+1<=S2.LL.length+S2.zero:=by
 obtain⟨S1,l,ct,h1,h2,h3⟩:=jf h.ok h.ud h.dec hc hd hn;obtain⟨tA,eT,eV,eL,eU,f0,f1,f2,f3,f4⟩:=gx h.ok h1;have vH:S1.Inv:=h.congr tA eT (aao (fun x=>x.2.2.2.2.2.2.1) h2) (fun j=>(jI h2 j).1) (aao (fun x=>x.2.2.1) h2);have hR1:S1.R=S.R:=dJ eT;have bw:=h3.lt;have mj:ct.toNat<S1.T.levels.length:=by rw[eT];omega
 obtain⟨b1,b2,b3,b4,BB,b5,b6,b7⟩:=fS vH.ok mj;have hbv:=(vH.ok.back ct.toNat).2.1;have Ko:=vH.back ct.toNat;have kF:∀e∈(S1.back ct.toNat).R,e∈S.R:=fun e he=>by rw[<-hR1,b5];exact an _ he
 obtain⟨et,het,tR,M5⟩:=h3.top;have Kn:S2=((S1.back ct.toNat).bu l).ch:=by unfold Sv.conflict at he;rw[aac (by omega),h1]at he;simp only[Option.some.injEq,Prod.mk.injEq]at he;exact he.1.symm
 have Zp:∀j,((S1.back ct.toNat).rc j).lits=(S.rc j).lits/\((S1.back ct.toNat).rc j).jr=(S.rc j).jr:=fun j=>by rw[jJ b1];exact jI h2 j
 have hlB:(S1.back ct.toNat).list.length=S.list.length:=by rw[b1,eL]
 have hmB:(S1.back ct.toNat).many=S.many:=by rw[(jF S1 ct.toNat).2.2.1];exact aao (fun x=>x.2.2.2.2.2.2.2.2.2.1) h2
 have hcB:(S1.back ct.toNat).qR few U:=EI.same Zp hlB hmB;have hLB:(S1.back ct.toNat).LL=S.LL:=sT Zp hlB;have hzB:(S1.back ct.toNat).zero=S.zero:=by
  have :S1.zero=S.zero:=by unfold zero;rw[hR1]
  rw[<-this,oR b5];have ZB:(BB.filter fun e:St=>e.l==0)=[]:=by rw[List.filter_eq_nil_iff];intro e he;have :=b6 e he;simp;omega
  rw[ZB];rfl
 have hv:(S1.back ct.toNat).val l[0]! =0:=by
  rcases gP Ko.ok l[0]! with h5 |h5 |h5
  ·exact h5
  ·exfalso;obtain⟨e,he,hx⟩:=(fK Ko.ok l[0]!).1 (by omega);exact jS h.ok (kF e he) het (by rw[hx,tR])
  ·exfalso;obtain⟨e,he,hx⟩:=(val_neg Ko.ok).1 (by omega:(S1.back ct.toNat).val l[0]! <0);have qg:e.x=et.x:=by rw[hx,tR];omega
   have :=mt h.ok (kF e he) het (by rw[qg]);have :=b7 e he
   subst_vars
   omega
 have k:=GK hcB Ko (by rw[hlB];exact hr) f0 f1 (by rw[hbv,eV];exact f2) h3.nd hv (fun k1=>by rw[b3,h3.one k1];rfl) (fun hf=>Me (mP hf) (EI.YT hf) h1) (fun k2 m hm=>by rw[(Zp m).1]at hm⊢;exact PJ h h3 k2 hm);rw[hLB,hzB]at k;rw[Kn];exact k
end Sv
theorem qJ {n:Nat}:∀{l:List Nat},l.Nodup->n∈l->(l.filter fun j=> !(j==n)).length+1=l.length
 |[],_,h=>by cases h
 |a::r,hd,h=>by
  rw[fG]at hd;by_cases e:a=n
  ·subst e;have :r.filter (fun j=> !(j==a))=r:=by rw[List.filter_eq_self];intro j hj;have :j≠a:=fun e=>hd.1 (e▸hj);simpa using this
   rw[List.filter_cons,aac (by simp),this];rfl
  ·have hm:n∈r:=by
    rcases av.1 h with h1 |h1
    ·exact absurd h1.symm e
    ·exact h1
   have :=qJ hd.2 hm;rw[List.filter_cons,aae (by simpa using e),cW,cW];omega
namespace Sv
variable {few:Prop} {U:List Int}
theorem wU {S:Sv}{n:Nat}(hn:n<S.list.length)(j:Nat):(S.cg n).fg j=(S.fg j&& !(j==n)):=by
 unfold fg;rw[ff];by_cases e:n=j
 ·subst e;rw[aae ⟨rfl,hn⟩];simp
 ·rw[aac (fun h=>e h.1)];have :(j==n)=false:=by simpa using fun h=>e h.symm
  rw[this];simp
theorem qR.cg {S:Sv}(h:S.qR few U){n:Nat}(hl:S.fg n=true):(S.cg n).qR few U:=by
 have hn:n<S.list.length:=lW (la.1 hl).2;have mj:=wU (S:=S) hn;have Ni:(S.cg n).LL=S.LL.filter fun j=> !(j==n):=by
  unfold LL;have e:(S.cg n).list.length=S.list.length:=by simp[Sv.cg]
  rw[e,List.filter_filter];refine List.filter_congr fun j _=> ?_;rw[mj j,Bool.and_comm]
 have yC:S.LL.Nodup:=List.Nodup.sublist List.filter_sublist List.nodup_range;have hlen:=qJ yC (show n∈S.LL from dx.2 ⟨cH.2 hn,hl⟩);refine⟨fun i j h1 h2 h3=> ?_,?_,fun hf j x hx=> ?_⟩
 ·rw[mj,ax]at h1 h2;have hi:i≠n:=by simpa using h1.2
  have hj:j≠n:=by simpa using h2.2
  refine h.dl i j h1.1 h2.1 fun x=> ?_;have :=h3 x;rw[ff,aac (fun e=>hi e.1.symm),ff,aac (fun e=>hj e.1.symm)]at this;exact this
 ·show S.many-1=_;rw[Ni,h.many];omega
 ·rw[ff]at hx;split at hx
  ·cases hx
  ·exact h.YT hf j x hx
theorem AA:∀(D:List Nat) (S:Sv),S.qR few U->D.Nodup->(∀n∈D,S.fg n=true)->(D.foldl Sv.cg S).qR few U
 |[],S,h,_,_=>h
 |n::r,S,h,hn,hd=>by rw[fG]at hn;have h1:=hd n bD;refine AA r _ (h.cg h1) hn.2 fun m hm=> ?_;rw[wU (lW (la.1 h1).2),hd m (aY _ hm)];have :m≠n:=fun e=>hn.1 (e▸hm);simpa using this
theorem TU {S S':Sv}(h:S.qR few U)(hr:I6 S S'):S'.qR few U:=by obtain⟨D,h1,h2,h3,rfl⟩:=hr;refine AA D S h h1 fun n hn=> ?_;obtain⟨_,k2,k3,_⟩:=AQ (h2 n hn);rw[la];exact⟨k2,fun e=>by rw[e]at k3;simp at k3⟩
def yl (S:Sv):Nat:=(262144-S.bQ)*266241+(266240-(S.LL.length+S.zero))
theorem room {S:Sv}{m:Nat}(ok:S.Ok m)(hc:S.qR few U)(hf:few)(mP:N7 U S.vars):S.LL.length<=262144/\S.zero<=4096:=by
 have h1:=afC hc.dl (hc.YT hf);have h2:=zero_le ok;have h3:2^U.length<=2^18:=Nat.pow_le_pow_right (by omega) mP.len;have h4:(2:Nat)^18=262144:=by decide
 rw[h4]at h3;have h5:=aE h1 h3;have h6:=mP.vars;clear h1 h3 h4;exact⟨h5,by omega⟩
theorem TZ {A x:Nat}(h:A<=69793480704):A+(266240-x)<=69793746944:=by omega
theorem YA {A B C x y:Nat}(h4:C<=A)(h5:A+266241=B):C+(266240-x)+1<=B+(266240-y):=by omega
theorem aaN (S:Sv):S.yl<=69793746944:=
 TZ (aE (Nat.mul_le_mul_right 266241 (Nat.sub_le 262144 S.bQ)) (by decide))
set_option maxRecDepth 100000 in
theorem RR {S S2:Sv}{m:Nat}(ok:S2.Ok m)(hc:S2.qR few U)(hf:few)(mP:N7 U S2.vars)(hl:S2.bQ=S.bQ)(h:S.LL.length+S.zero+1<=S2.LL.length+S2.zero):S2.yl+1<=S.yl:=by have :=room ok hc hf mP;unfold yl;rw[hl];omega
set_option maxRecDepth 100000 in
theorem Fl {S S2:Sv}(hl:S2.bQ=S.bQ)(h:S.LL.length+S.zero<=S2.LL.length+S2.zero):S2.yl<=S.yl:=by unfold yl;rw[hl];omega
theorem We {S S2:Sv}{m:Nat}(ok:S.Ok m)(hc:S.qR few U)(hf:few)(mP:N7 U S.vars)(pr:(S.bQ:Int)<S.many)(hl:S2.bQ=S.bQ+(S.bQ/16+1)):S2.yl<=S.yl:=by
 have h1:=(room ok hc hf mP).1;have h2:=hc.many;have h3:S.bQ<262144:=by omega
 obtain⟨t,ht⟩:∃t,262144-S.bQ=t+1:=⟨262144-S.bQ-1,by omega⟩
 have h4:262144-S2.bQ<=t:=by omega
 clear h1 h2 h3 pr hl;unfold yl;rw[ht];exact Nat.le_of_succ_le (YA (Nat.mul_le_mul_right 266241 h4) (Nat.succ_mul t 266241).symm)
theorem aaO {S S':Sv}(h1:S'.bQ=S.bQ)(h2:S'.LL=S.LL)(h3:S'.zero=S.zero):S'.yl=S.yl:=by unfold yl;rw[h1,h2,h3]
theorem Jx {S S':Sv}{Z:List St}(h:S'.R=S.R++Z):S.zero<=S'.zero:=by rw[oR h];omega
theorem Lq {S:Sv}{m:Nat}(ok:S.Ok m)(level:Nat):(S.back level).zero=S.zero:=by
 by_cases hl:level<S.T.levels.length
 ·obtain⟨b1,b2,b3,b4,BB,b5,b6,b7⟩:=fS ok hl;rw[oR b5];have ZB:(BB.filter fun e:St=>e.l==0)=[]:=by rw[List.filter_eq_nil_iff];intro e he;have :=b6 e he;simp;omega
  rw[ZB];rfl
 ·have :S.back level=S:=by unfold Sv.back;rw[aae (by omega)]
  rw[this]
theorem pd:∀(f:Nat) (S:Sv),(cQ f S).1.bump=S.bump/\(cQ f S).1.has=S.has
 |0,S=>⟨rfl,rfl⟩
 |f+1,S=>by
  rw[cQ];split
  ·exact⟨rfl,rfl⟩
  ·simp only;split
   ·exact pd f _
   ·exact⟨rfl,rfl⟩
theorem kK (S:Sv):S.choose.1.bump=S.bump/\S.choose.2≠2:=by
 unfold choose;split
 ·exact⟨(pd _ S).1,show(1:Int)≠2 by decide⟩
 ·exact⟨(pd _ S).1,show(0:Int)≠2 by decide⟩
theorem qM (us:List Int):∀(f:Nat) (S:Sv),(bz us f S).1.bump=S.bump/\((bz us f S).2=2->(bz us f S).1.has=S.has)/\((bz us f S).2≠2->(bz us f S).1.core=S.core)
 |0,S=>⟨(kK S).1,fun h=>absurd h (kK S).2,fun _=>(gI S).1⟩
 |f+1,S=>by
  rw[bz];split
  ·simp only;split
   ·exact⟨rfl,fun _=>rfl,fun h=>absurd rfl h⟩
   ·split
    ·exact⟨rfl,fun h=>(by cases h),fun _=>rfl⟩
    ·exact qM us f S.deep
  ·exact⟨(kK S).1,fun h=>absurd h (kK S).2,fun _=>(gI S).1⟩
theorem xI:∀(D:List Nat) (S:Sv),(D.foldl cg S).used=S.used/\(D.foldl cg S).bump=S.bump/\(D.foldl cg S).has=S.has/\(D.foldl cg S).bad=S.bad
 |[],S=>⟨rfl,rfl,rfl,rfl⟩
 |n::r,S=>xI r (S.cg n)
def Ans (us:List Int)(F:(Nat->Bool)->Prop)(vars:Nat)(S:Sv)(r:Int):Prop:=
 (r=1/\S.has=true/\S.core=[]/\S.model.length=vars+1/\∀a:Nat->Bool,(∀v,1<=v->v<=vars->a v=S.model[v]!)->F a/\∀u∈us,mD a u)\/
 (r=2/\S.has=false/\(∀a,F a->¬∀u∈S.core,mD a u)/\(∀u∈S.core,u∈us)/\S.core.Pairwise (fun x y=>us.idxOf x<us.idxOf y))
theorem Gu {vars:Nat}{x:Int}(hv:vars<=262143)(h0:x≠0)(h1: -(vars:Int)<=x)(h2:x<=vars):gv vars x=false:=by have :=qt h0 h1 h2 hv;unfold gv;simp only[dX,decide_eq_false_iff_not];omega
end Sv
end Go.Proofs.YtjmmpfjcpdepjaaGreatDoor
