/- Parts of a proof. -/
import Derived.Test.YtpjbaobgnhjgoaaGreatGAO
import Derived.Lib.AppendZeros
set_option linter.unusedVariables false
set_option linter.unusedSimpArgs false
namespace Go.Proofs.YtpjbaobgnhjgoaaGreat
open Go.RowKit
theorem RZ{w:World}{e:TypeId}{A:Option Addr}{n c:Nat}{xs:List Value}(h:w.ownsRow 0 e 1 (.slice A n c) n xs):w.ownsRow 0 e 1 (.slice A 0 c) 0 []:=by
 refine⟨by simp,?_⟩;rcases h.2 with⟨J,rfl⟩ |⟨g,cap,cur,J,hb,hg,hn,hm,hs,ht⟩
 ·simp only[Value.slice.injEq,true_and]at J;obtain⟨rfl,rfl⟩:=J;exact .inl ⟨rfl,rfl⟩
 ·simp only[Value.slice.injEq,true_and]at J;obtain⟨rfl,rfl⟩:=J;exact .inr ⟨g,c,cur,rfl,hb,hg,aU _,hm,hs,by simp⟩
theorem Wf{w:World}{e:TypeId}{A:Option Addr}{n c:Nat}{xs:List Value}(h:w.ownsRow 0 e 1 (.slice A n c) n xs):n<=c:=by
 rcases h.2 with⟨J,rfl⟩ |⟨g,cap,cur,J,hb,hg,hn,hm,hs,ht⟩
 ·exact aU _
 ·simp only[Value.slice.injEq,true_and]at J;rw[J.2];exact hn
set_option maxHeartbeats 2000000 in
theorem Hx(w:World)(n:Nat)(hn:n<=4194304):
  Calls Tryz.prog 135 #[.slice none 0 0, .int .i64 n] w fun e w'=>∃A c,e= .returned (.slice A 0 c)/\w'.ownsRow 0 22 1 (.slice A 0 c) 0 []/\(∀k,k∈ao A->w.heap.size<=k)/\Fr [] w w':=by
 have d1:decide ((n:Int)<0)=false:=qaj (by omega);have QN:IntKind.i64.wrap (0-0)=0:=by decide
 have eo:IntKind.i64.wrap ((n:Int)-0)=n:=IntWalk.i64_in _ (by omega);have kE:IntKind.i64.wrap (n:Int)=n:=IntWalk.i64_in _ (by omega);by_cases h0:n=0
 ·subst h0;go_enter Tryz.func135,Tryz.ntmps135;go_wp2;go_ret;exact⟨none,0,rfl,World.ownsRow_nil _ 0 _ 1,fun k hk=>by simp[ao]at hk,Fr.refl _ _⟩
 ·have d2:decide (0<(n:Int))=true:=qak (by omega);have Zu:0<n:=by omega
  obtain⟨A',c',w',oz,J,hf,hg⟩:=oh w 28 3 28 22 (.slice none 0 0) 24 Tryz.underlying28 Tryz.underlying3 rt rfl rfl none 0 0 [] (World.ownsRow_nil w 0 22 1) n (by unfold maxLen;omega) (by omega) (by omega);have vK:=Wf J;have HO:=ae (RZ J);have HF:=ae hf;have HG:aj (∀k,k∈ao A'->w.heap.size<=k):=fun k hk=>by
   rcases hg k hk with h1 |h1
   ·simp[ao]at h1
   ·exact h1
  simp only[dd]at vK oz;clear J hf hg h0;rcases A' with _ |⟨ga,go,gs⟩
  ·exfalso;rcases HO.o.2 with⟨hv,_⟩ |⟨g,cap,cur,hv,_⟩
   ·simp only[Value.slice.injEq,true_and]at hv;omega
   ·simp at hv
  ·go_enter Tryz.func135,Tryz.ntmps135;go_wp2_with (at_builtin;refine Lib.wpList_append_run _ rfl _ _ _ _ rfl _ _ rfl rfl _ _ oz ?_)
   go_ret;exact⟨some ⟨ga,go,gs⟩,c',rfl,HO.o,HG.o,HF.o⟩
theorem tD(wb:World){ops:Array Oper}{rest:List Oper}{o:Oper}{a:Act}{Q:Exit->Act->World->Prop}(rA:o.guard=none)(s x:Operand)
  (ho:o.op= .call { callee:= .builtin .append,args:=#[s,x],argTypes:=#[28,28] }) {w3:World} {B:Nat} (A:Option Addr) (c:Nat) (hs:List Ls) (HN:NwLs w3 B A c hs) (fS:Fr [] w3 wb) (hB:B<=wb.heap.size) (n:Nat) (ab:a.eval s= .slice A n c) (hn:n=hs.length)
  (J:Addr) (m d:Nat) (ms:List Ls) (hx:a.eval x= .slice (some J) m d) (hm:m=ms.length) (hr:∀j:Nat,j<ms.length->wb.cell? (J.add j)=some (ms[j]!).val)
  (G8:∀h∈ms,Ints wb h.A h.c h.l/\Ra h.l/\h.l.length<=1048576/\∀k,k∈ao h.A->B<=k) (hlen:hs.length+ms.length<=4194304)
  (h:∀A' cap w',NwLs w' B A' cap (hs++ms)->Fr (ao A) wb w'->(∀k,k∈ao A'->k∈ao A\/k=wb.heap.size)->wpList Tryz.prog ops Q rest (a.put o.dst (.slice A' (n+m) cap)) w'):
  wpList Tryz.prog ops Q (o::rest) a wb:=
 eM wb rA s x ho A c hs n ab hn (HN.keep fS).row J m d ms hx hm hr hlen fun A' cap w' h1 h2 h3 h4=>h A' cap w' (HN.more fS G8 h2 h1 h3 hB) h2 h3
def upt(J jB:List Ls)(k:Nat):List Ls:=if k=0 then[]else if k=1 then J else J++jB
theorem NwLs.ER{w:World}{B:Nat}{A:Option Addr}{c:Nat}{hs:List Ls}(k:NwLs w B A c hs):(A=none/\hs=[]/\c=0)\/∃g,A=some ⟨g,0,none⟩/\∀j:Nat,j<hs.length->w.cell? ⟨g,j,none⟩=some (hs[j]!).val:=by
 rcases k.row.2 with⟨J,h0⟩ |⟨g,cap,cur,J,hb,hg,hn,hm,jB,ht⟩
 ·simp only[Value.slice.injEq]at J;exact .inl ⟨J.1,aX J.2.1,J.2.2⟩
 ·simp only[Value.slice.injEq,true_and]at J;obtain⟨rfl,rfl⟩:=J;refine .inr ⟨g,rfl,fun j hj=> ?_⟩;rw[World.ownsRow.cellAt k.row j (by omega)];simp only[aZ,af hj,dA,aa,aJ]
set_option maxHeartbeats 8000000 in
theorem EP(w:World)(G:Nat)(B:Nat)(hB:B<=w.heap.size)(A1 A2:Option Addr)(c1 c2:Nat)(J jB:List Ls)(h1:NwLs w B A1 c1 J)(h2:NwLs w B A2 c2 jB)
  (tq:w.cell? ⟨G,0,none⟩=some (.slice A1 J.length c1)) (vM:w.cell? ⟨G,1,none⟩=some (.slice A2 jB.length c2)) (hl:J.length+jB.length<=4194304):
  Calls Tryz.prog 103 #[.slice (some ⟨G,0,none⟩) 2 2] w fun e w'=>∃A c,e= .returned (.slice A (J++jB).length c)/\NwLs w' B A c (J++jB)/\Fr [] w w':=by
 have KG:=ae (fun W n hn=>Hx W n hn);have xq:=ae h1;have l8:=ae h2;have pX:=ae tq;have pM:=ae vM;have ar:=ae hB;clear h1 h2;obtain⟨n1,rP⟩:∃n,J.length=n:=⟨_,rfl⟩
 obtain⟨n2,tm⟩:∃n,jB.length=n:=⟨_,rfl⟩
 have nv:=ae rP;have n8:=ae tm;have AH:(J++jB).length=n1+n2:=by rw[an,rP,tm]
 rw[AH];rw[rP]at tq hl;rw[tm]at vM hl;obtain⟨n3,ba⟩:∃n:Nat,(n1:Int)+(n2:Int)=(n:Int):=⟨n1+n2,by omega⟩
 have QN:IntKind.i64.wrap (0+(n1:Int))=n1:=by rw[IntWalk.i64_in _ (by omega)];omega
 have eo:IntKind.i64.wrap ((n1:Int)+(n2:Int))=(n3:Int):=by rw[IntWalk.i64_in _ (by omega)];omega
 have aT:decide ((n1:Int)<0)=false:=qaj (by omega);have a1:decide ((n3:Int)<0)=false:=qaj (by omega);clear rP tm AH hB;go_enter Tryz.func103,Tryz.ntmps103;go_wp2_with fail;go_loopg [3,11] 2 (fun gk x3 uU wr=>∃k:Nat,k+gk=2/\x3= .int .i64 (if k=0 then(0:Int)else if k=1 then(n1:Int)else(n3:Int))/\uU= .int .i64 k/\aj (wr=w));case atStart=>exact⟨0,rfl,rfl,rfl,rfl⟩
 case round=>
  obtain⟨k,hk,rfl,rfl,HW⟩:=hrel;have hw:=HW.o.symm;subst hw;clear HW;have ad:k=0\/k=1\/k=2:=by omega
  rcases ad with rfl |rfl |rfl
  ·go_wp2;go_roundg (gk-1);case measure=>omega
   case rel=>exact⟨1,by omega,by go_num,by go_num,rfl⟩
  ·go_wp2;go_roundg (gk-1);case measure=>omega
   case rel=>exact⟨2,by omega,by go_num,by go_num,rfl⟩
  ·have aB:=ae (KG.o w n3 (by omega));clear hk KG QN eo aT a1;go_wp2_with fail;refine aB.o.mono ?_;clear aB;rintro e w1 ⟨A3,c3,rfl,aK,AK,dN⟩;have dZ:=ae dN;have rX:aj (NwLs w1 B A3 c3 []):=⟨aK,fun k hk=>aE ar.o (AK k hk),fun h hh=>by cases hh⟩
   have bg:aj (n1+n2=n3):=(by show _=_;omega)
   have qS:=ae AK;clear aK AK dN ba;go_wp2_with fail;go_loopg [6,27] 2 (fun gk x6 bb wr=>∃(k:Nat)(A':Option Addr)(c':Nat)(hs:List Ls),k+gk=2/\x6= .slice A' hs.length c'/\bb= .int .i64 k/\aj (hs=upt J jB k)/\aj (NwLs wr B A' c' hs)/\aj (∀k,k∈ao A'->w.heap.size<=k)/\aj (Fr [] w wr));case atStart=>exact⟨0,A3,c3,[],rfl,rfl,rfl,rfl,rX.o,qS.o,dZ.o⟩
   case round=>
    clear rX dZ;obtain⟨k,A',c',hs,hk,rfl,rfl,HE,HN,HG,HF⟩:=hrel;have HK:=ae hk;have ad:k=0\/k=1\/k=2:=(by omega)
    clear hk;have Az:aj (B<=wr.heap.size):=aE ar.o HF.o.size;rcases ad with rfl |rfl |rfl
    ·have hc:=HF.o.aF tq;have HM:=ae (xq.o.keep HF.o);have fH:aj (hs++J=upt J jB 1):=(by rw[HE.o];rfl :_=_)
     rcases HM.o.ER with⟨rfl,h0,rfl⟩ |⟨g1,rfl,kF⟩
     ·have G7:n1=0:=by rw[<-nv.o,h0];rfl
      have dR:aj (hs=upt J jB 1):=((show hs=hs++J by rw[h0,cq]).trans fH.o:_=_)
      rw[G7]at hc;clear h0 G7 tq vM;go_wp2_with (at_builtin;refine wpList_append_own_none rfl _ _ _ rfl 0 22 _ 1 Tryz.underlying28 (info_parts rt).choose_spec.1 _ hs.length _ rfl HN.o.row rfl ?_)
      go_roundg (gk-1);case measure=>have :=HK.o;omega
      case rel=>exact⟨1,A',c',hs,by have :=HK.o;omega,rfl,by go_num,dR.o,HN.o,HG.o,HF.o⟩
     ·have ab:=ae kF;have hle:hs.length+n1<=4194304:=by have h9:hs.length<=0:=(by rw[HE.o];exact aq _);omega
      clear kF tq vM;go_wp2_with (at_builtin;(refine tD _ rfl _ _ rfl A' c' hs HN.o (Fr.refl _ _) Az.o hs.length rfl rfl ⟨g1,0,none⟩ n1 c1 J rfl nv.o.symm (fun j hj=>by rw[dQ,dd];exact ab.o j hj) HM.o.each (by rw[nv.o];exact hle) ?_;intro A4 c4 w4 uX fG Ns;have uP:=ae uX;have ic:=ae (HF.o.trans fG (fun k hk=> .inr (HG.o k hk)));have Qt:aj (∀k,k∈ao A4->w.heap.size<=k):=(fun k hk=>(by rcases Ns k hk with h9 |h9;exact HG.o k h9;(have :=HF.o.size;omega):w.heap.size<=k));clear uX fG Ns))
      go_roundg (gk-1);case measure=>have :=HK.o;omega
      case rel=>exact⟨1,A4,c4,hs++J,by have :=HK.o;omega,by rw[an,nv.o],by go_num,fH.o,uP.o,Qt.o,ic.o⟩
    ·have hc:=HF.o.aF vM;have HM:=ae (l8.o.keep HF.o);have fH:aj (hs++jB=upt J jB 2):=(by rw[HE.o];rfl :_=_)
     rcases HM.o.ER with⟨rfl,h0,rfl⟩ |⟨g1,rfl,kF⟩
     ·have G7:n2=0:=by rw[<-n8.o,h0];rfl
      have dR:aj (hs=upt J jB 2):=((show hs=hs++jB by rw[h0,cq]).trans fH.o:_=_)
      rw[G7]at hc;clear h0 G7 tq vM;go_wp2_with (at_builtin;refine wpList_append_own_none rfl _ _ _ rfl 0 22 _ 1 Tryz.underlying28 (info_parts rt).choose_spec.1 _ hs.length _ rfl HN.o.row rfl ?_)
      go_roundg (gk-1);case measure=>have :=HK.o;omega
      case rel=>exact⟨2,A',c',hs,by have :=HK.o;omega,rfl,by go_num,dR.o,HN.o,HG.o,HF.o⟩
     ·have ab:=ae kF;have hle:hs.length+n2<=4194304:=by have h9:hs.length<=n1:=(by rw[HE.o];show J.length<=n1;rw[nv.o];exact aq _);omega
      clear kF tq vM;go_wp2_with (at_builtin;(refine tD _ rfl _ _ rfl A' c' hs HN.o (Fr.refl _ _) Az.o hs.length rfl rfl ⟨g1,0,none⟩ n2 c2 jB rfl n8.o.symm (fun j hj=>by rw[dQ,dd];exact ab.o j hj) HM.o.each (by rw[n8.o];exact hle) ?_;intro A4 c4 w4 uX fG Ns;have uP:=ae uX;have ic:=ae (HF.o.trans fG (fun k hk=> .inr (HG.o k hk)));have Qt:aj (∀k,k∈ao A4->w.heap.size<=k):=(fun k hk=>(by rcases Ns k hk with h9 |h9;exact HG.o k h9;(have :=HF.o.size;omega):w.heap.size<=k));clear uX fG Ns))
      go_roundg (gk-1);case measure=>have :=HK.o;omega
      case rel=>exact⟨2,A4,c4,hs++jB,by have :=HK.o;omega,by rw[an,n8.o],by go_num,fH.o,uP.o,Qt.o,ic.o⟩
    ·have yk:hs.length=n1+n2:=by rw[HE.o];show(J++jB).length=_;rw[an,nv.o,n8.o]
     have aM:aj (NwLs wr B A' c' (J++jB)):=by have :=HN.o;rw[HE.o]at this;exact this
     rw[yk];clear HK yk tq vM;go_wp2;go_ret;exact⟨A',c',rfl,aM.o,HF.o⟩
structure Bq(w wr:World)(H:Qh)(q:Qn):Prop where
 fr:Fr [] w wr
 bq:At wr w.heap.size 40 (pH H q)
 bc:At wr (w.heap.size+1) 27 (fv H.H q.C)
theorem Bq.keep{w wr w':World}{H:Qh}{q:Qn}(h:Bq w wr H q)(J:Fr [] wr w'):Bq w w' H q:=⟨h.fr.ak J,h.bq.keep J,h.bc.keep J⟩
theorem Bq.start(w:World)(H:Qh)(q:Qn):Bq w ((w.alloc (.cells (pH H q) 40)).alloc (.cells (fv H.H q.C) 27)) H q:=by refine⟨(aR _ _).ak (aR _ _),(At.new w _ _).keep (aR _ _),?_⟩;have :=At.new (w.alloc (.cells (pH H q) 40)) 27 (fv H.H q.C);rw[show(w.alloc (.cells (pH H q) 40)).heap.size=w.heap.size+1 by simp]at this;exact this
theorem Bq.cells{w wr:World}{H:Qh}{q:Qn}(h:Bq w wr H q):
  wr.cell? ⟨w.heap.size+1,0,none⟩=some (.int .i64 q.C.mx)/\wr.cell? ⟨w.heap.size+1,1,none⟩=some (.slice H.H.iA q.C.ins.length H.H.iC)/\wr.cell? ⟨w.heap.size+1,2,none⟩=some (.slice H.H.lA q.C.az.length H.H.lC)/\wr.cell? ⟨w.heap.size+1,3,none⟩=some (.slice H.H.oA q.C.outs.length H.H.oC)/\
  wr.cell? ⟨w.heap.size+1,4,none⟩=some (.slice H.H.bA q.C.aI.length H.H.bC)/\wr.cell? ⟨w.heap.size+1,5,none⟩=some (.slice H.H.vA q.C.aH.length H.H.vC)/\wr.cell? ⟨w.heap.size+1,6,none⟩=some (.slice H.H.gA q.C.au.length H.H.gC)/\wr.cell? ⟨w.heap.size+1,7,none⟩=some (.slice H.H.nA q.C.bD.length H.H.nC):=h.bc.T8
theorem Bq.EQ{w wr:World}{H:Qh}{q:Qn}(h:Bq w wr H q):
  wr.cell? ⟨w.heap.size,0,none⟩=some (.int .i64 q.C.mx)/\wr.cell? ⟨w.heap.size,1,none⟩=some (.slice H.H.iA q.C.ins.length H.H.iC)/\wr.cell? ⟨w.heap.size,2,none⟩=some (.slice H.H.lA q.C.az.length H.H.lC)/\wr.cell? ⟨w.heap.size,3,none⟩=some (.slice H.H.oA q.C.outs.length H.H.oC)/\
  wr.cell? ⟨w.heap.size,4,none⟩=some (.slice H.H.bA q.C.aI.length H.H.bC)/\wr.cell? ⟨w.heap.size,5,none⟩=some (.slice H.H.vA q.C.aH.length H.H.vC)/\wr.cell? ⟨w.heap.size,6,none⟩=some (.slice H.H.gA q.C.au.length H.H.gC)/\wr.cell? ⟨w.heap.size,7,none⟩=some (.slice H.H.nA q.C.bD.length H.H.nC)/\
  wr.cell? ⟨w.heap.size,8,none⟩=some (.slice H.aA q.am.length H.aC)/\wr.cell? ⟨w.heap.size,9,none⟩=some (.slice H.lA q.ls.length H.lC)/\wr.cell? ⟨w.heap.size,10,none⟩=some (.slice H.kA q.ks.length H.kC)/\
  wr.cell? ⟨w.heap.size,11,none⟩=some (.int .i64 q.bad)/\wr.cell? ⟨w.heap.size,12,none⟩=some (.int .i64 q.dep)/\wr.cell? ⟨w.heap.size,13,none⟩=some (.int .i64 q.ji):=by
 refine⟨?_,?_,?_,?_,?_,?_,?_,?_,?_,?_,?_,?_,?_,?_⟩<;>(rw[h.bq.cell];rfl)
def po(C:Pc)(am:List (List Int))(f:Int):List (List Int):=j6 C (cu C f)++iX C am (cu C f)
theorem zF{C:Pc}(J:Valid C)(b:Int):(j6 C b).length<=8193:=by unfold j6;rw[an,TM _ _ _ (aq _)];have h1:=FN b (CK C) (CK C).length;rw[lU C]at h1;have :=J.m0;have :=J.m1;have :=FJ J;rw[lU C];omega
def BJ(v:Int)(l:List Int):Prop:=l.length<=1024/\∀x∈l,x≠0/\ -v<=x/\x<=v
theorem BJ.mono{v J:Int}{l:List Int}(h:BJ v l)(hv:v<=J):BJ J l:=⟨h.1,fun x hx=>by have :=h.2 x hx;omega⟩
theorem BJ.ra{v:Int}{l:List Int}(h:BJ v l)(hv:v<=262143):Ra l:=fun j J=>by have :=h.2 _ (bk J);exact⟨by omega,by omega⟩
theorem BJ.chk{v:Nat}{l:List Int}(h:BJ v l)(hv:v<=262143):lX v l=0:=by unfold lX;rw[qah (by have :=h.1;omega),qah];intro hc;obtain⟨x,hx,h1⟩:=cP.1 hc;obtain⟨J,h3,h4⟩:=h.2 x hx;have :=tH J h3 h4 hv;unfold jW at h1;rw[qaj (by omega),qaj (by omega)]at h1;cases h1
theorem lN{b m l:Int}(J:0<=b)(hl:0<=l/\l<=2*m+1):bV b l≠0/\ -(b+m+1)<=bV b l/\bV b l<=b+m+1:=by unfold bV;split<;>omega
theorem qP(C:Pc)(f:Int):cu C (f+1)=cu C f+C.mx+1:=by unfold cu;rw[Int.add_mul];omega
theorem gI{C:Pc}(J:0<=C.mx){f g:Int}(h:f<=g):cu C f<=cu C g:=Int.mul_le_mul_of_nonneg_right h (by omega)
theorem jq{C:Pc}(J:0<=C.mx){f:Int}(h:0<=f):0<=cu C f:=Int.mul_nonneg h (by omega)
theorem Ed{C:Pc}(J:Valid C){f n:Int}(hf:0<=f)(hn:n≠0/\ -(C.az.length:Int)<=n/\n<=C.az.length):sj C f n≠0/\ -(cu C (f+1))<=sj C f n/\sj C f n<=cu C (f+1):=by
 rw[qP];have hb:=jq J.m0 hf;unfold sj;split
 ·have :=eF J (-n-1).toNat (by omega);have :=lN hb (m:=C.mx) (l:=(C.az[(-n-1).toNat]!).a) (by omega);omega
 ·have :=eF J (n-1).toNat (by omega);have :=lN hb (m:=C.mx) (l:=(C.az[(n-1).toNat]!).a) (by omega);omega
theorem TN{C:Pc}(hv:Valid C):∀l∈ut C C.az.length,BJ (cu C 1) l:=fun l hl=>by
 obtain⟨i,hi,hm⟩:=cH.1 hl;have hi:=bl.1 hi;have key:∀n:Int,n≠0/\ -(C.az.length:Int)<=n/\n<=C.az.length->BJ (cu C 1) [sj C 0 n]:=fun n J=>⟨by simp,fun x hx=>by rw[ag.1 hx];exact Ed hv (f:=0) (by omega) J⟩
 unfold EF at hm;split at hm
 ·rw[ag.1 hm];exact key _ (by omega)
 ·split at hm
  ·rw[ag.1 hm];exact key _ (by omega)
  ·cases hm
theorem JZ{C:Pc}(hv:Valid C){f:Int}(hf:0<=f):∀l∈oo C f C.az.length,BJ (cu C (f+1+1)) l:=fun l hl=>by
 obtain⟨i,hi,hm⟩:=cH.1 hl;have hi:=bl.1 hi;have h1:=Ed hv (f:=f+1) (n:=(i:Int)+1) (by omega) (by omega);have h2:=lN (jq hv.m0 hf) (m:=C.mx) (mj hv i hi);have e1:=qP C (f+1);have e2:=qP C f;have h0:=hv.m0;unfold Gy at hm;rcases ay.1 hm with rfl |hm
 ·refine⟨by simp,fun x J=> ?_⟩;rcases ay.1 J with rfl |J
  ·exact h1
  ·rw[ag.1 J];omega
 ·rw[ag.1 hm];refine⟨by simp,fun x J=> ?_⟩;rcases ay.1 J with rfl |J
  ·omega
  ·rw[ag.1 J];omega
theorem TL{C:Pc}(hv:Valid C){b:Int}(hb:0<=b):∀l∈j6 C b,BJ (b+C.mx+1) l:=fun l hl=>by
 have h0:=hv.m0;rcases ah.1 hl with hl |hl
 ·obtain⟨i,hi,hm⟩:=cH.1 hl;have hi:=bl.1 hi;rw[lU]at hi;unfold yI at hm;split at hm
  ·cases hm
  ·rw[ag.1 hm];exact⟨by simp,fun x J=>by rw[ag.1 J];omega⟩
 ·obtain⟨y,hy,hm⟩:=cH.1 hl;have hy:=List.mem_of_mem_take hy;obtain⟨j,hj,ab⟩:=List.getElem_of_mem hy;obtain⟨a1,a2,a3⟩:=BR hv j hj;rw[aa,af hj,aJ,ab]at a1 a2 a3;have k1:=lN hb (m:=C.mx) a1;have k2:=lN hb (m:=C.mx) a2;have k3:=lN hb (m:=C.mx) a3;unfold zH at hm;rcases ay.1 hm with rfl |hm
  ·exact⟨by simp,fun x J=>by rcases ay.1 J with rfl |J;omega;rw[ag.1 J];omega⟩
  ·rcases ay.1 hm with rfl |hm
   ·exact⟨by simp,fun x J=>by rcases ay.1 J with rfl |J;omega;rw[ag.1 J];omega⟩
   ·rw[ag.1 hm];exact⟨by simp,fun x J=>by
     rcases ay.1 J with rfl |J
     ·omega
     ·rcases ay.1 J with rfl |J
      ·omega
      ·rw[ag.1 J];omega⟩
theorem JB{C:Pc}(J:Valid C):∀x∈C.aH,0<=x/\x<=2*C.mx+1:=fun x hx=>by have h:=J.v;unfold nR at h;rw[ax,cR]at h;exact fI J (h.1 x hx)
def sa(mx:Int)(am:List (List Int)):Prop:=am.length<=64/\∀l∈am,l.length<=1024/\∀x∈l,0<=x/\x<=2*mx+1
theorem TQ{C:Pc}(hv:Valid C){am:List (List Int)}(ha:sa C.mx am){b:Int}(hb:0<=b):∀l∈iX C am b,BJ (b+C.mx+1) l:=fun l hl=>by
 rcases ah.1 hl with hl |hl
 ·obtain⟨y,hy,rfl⟩:=aN.1 hl;exact⟨by simp,fun x J=>by rw[ag.1 J];exact lN hb (JB hv y hy)⟩
 ·obtain⟨y,hy,rfl⟩:=aN.1 hl;obtain⟨h1,h2⟩:=ha.2 y hy;exact⟨by rw[aG];exact h1,fun x J=>by obtain⟨z,hz,rfl⟩:=aN.1 J;exact lN hb (h2 z hz)⟩
theorem Ia{C:Pc}(J:Valid C){am:List (List Int)}(ha:sa C.mx am){f:Int}(hf:0<=f):∀l∈po C am f,BJ (cu C (f+1)) l:=fun l hl=>by
 rw[qP];have hb:=jq J.m0 hf;rcases ah.1 hl with hl |hl
 ·exact TL J hb l hl
 ·exact TQ J ha hb l hl
theorem zJ{C:Pc}(J:Valid C){am:List (List Int)}(ha:am.length<=64)(f:Int):(po C am f).length<=8321:=by have h1:=zF J (cu C f);have h2:=zL C am (cu C f);have h3:=yG J;unfold po;rw[an,h2];omega
theorem sE{q:Qn}(h:uV q=0):Valid q.C/\(0<=q.bad/\q.bad<q.C.aI.length/\0<=q.dep/\q.dep<80/\0<=q.ji/\q.ji<=1099511627776)/\sa q.C.mx (q.am.map (·.l)):=by
 unfold uV at h;split at h
 ·cases h
 ·rename_i h1;split at h
  ·cases h
  ·rename_i h2;split at h
   ·cases h
   ·rename_i h3;split at h
    ·cases h
    ·rename_i h4;refine⟨Classical.not_not.1 h1,by omega,by rw[aG];omega,fun l hl=> ?_⟩;obtain⟨y,hy,rfl⟩:=aN.1 hl;have J:oW q.C.mx y.l=false:=by
      cases h6:oW q.C.mx y.l with
      |false=>rfl
      |true=>exact absurd (.inl (cP.2 ⟨y,hy,h6⟩)) h4
     unfold oW at J;rw[dw,decide_eq_false_iff_not,Bool.not_eq_false']at J;refine⟨by have :=J.1;omega,fun x hx=> ?_⟩;have h7:=J.2;unfold Vf at h7;have :=cR.1 h7 x hx;simp only[ax,qam]at this;exact this
def ybl(A:Option Addr)(hs:List Ls):List Nat:=ao A++hs.flatMap fun x=>ao x.A
theorem NwLs.marks{w:World}{B:Nat}{A:Option Addr}{c:Nat}{hs:List Ls}(k:NwLs w B A c hs):∀j∈ybl A hs,B<=j/\j<w.heap.size:=fun j hj=>by
 rcases ah.1 hj with h1 |h1
 ·refine⟨k.new j h1,?_⟩;rcases k.ER with⟨J,_,_⟩ |⟨g,J,_⟩
  ·rw[J]at h1;simp[ao]at h1
  ·rw[J]at h1;simp[ao]at h1;subst h1;have :=k.row;rw[J]at this;exact(this.lt j rfl).2
 ·obtain⟨x,hx,J⟩:=cH.1 h1;exact⟨(k.each x hx).2.2.2 j J,(k.each x hx).1.lt j J⟩
theorem NwLs.rdl{w:World}{B:Nat}{A:Option Addr}{c:Nat}{hs:List Ls}(k:NwLs w B A c hs):N4 w A hs:=by
 refine⟨fun h0=> ?_,fun j hj=>k.okl _ (bk hj)⟩;rcases k.ER with⟨_,J,_⟩ |⟨g,J,h3⟩
 ·rw[J]at h0;simp at h0
 ·exact⟨g,0,J,fun j hj=>by rw[dd];exact h3 j hj⟩
theorem eX.perm{a:Nat->Bool}{l l':List Int}(h:eX a l)(hp:l'.Perm l):eX a l':=by obtain⟨y,hy,J⟩:=h;exact⟨y,hp.mem_iff.2 hy,J⟩
namespace Sv
theorem Good.IE{S:Sv}(h:S.Inv){n:Nat}(hc:S.Of n)(hn:(S.rc n).lits≠[])(h0:S.T.levels.length=0){a:Nat->Bool}(J:S.Good a):False:=by obtain⟨y,hy,ht⟩:=J.1 n hn;obtain⟨e,he,hx⟩:=hc.1 y hy;have hr:=iE h.ok he;have lf:y≠0:=(h.ok.lr n y hy).1;have :=J.2 e he (by omega);rw[hx]at this;exact(jD.neg lf).1 this ht
theorem XJ{S:Sv}(h:S.Inv){a:Nat->Bool}(h1:∀n,(S.rc n).lits≠[]->eX a (S.rc n).lits)(h2:∀e∈S.R,e.l=0->e.r=0->jD a e.x):S.Good a:=by
 refine⟨h1,?_⟩;have key:∀(k:Nat)(A:List St)(e:St)(B:List St),A.length=k->S.R=A++e::B->e.l=0->jD a e.x:=by
  intro k;induction k using Nat.strongRecOn with
  |ind k ih=>
   intro A e B hA J hl;have he:e∈S.R:=by rw[J];simp
   by_cases hr:e.r=0
   ·exact h2 e he hl hr
   ·obtain⟨n,hn,ls,oP,gZ⟩:=h.wu A e B J hr;obtain⟨y,hy,ht⟩:=h1 n (by rw[oP];simp);rw[oP]at hy;rcases ay.1 hy with hy |hy
    ·rw[<-hy];exact ht
    ·exfalso;obtain⟨e',fj,hx⟩:=gZ y hy;obtain⟨A1,B1,ab⟩:=List.append_of_mem fj;have hle:e'.l<=e.l:=by have hs:=h.ok.rep.sorted;rw[J]at hs;exact(List.pairwise_append.1 hs).2.2 e' fj e bM
     have hb:=iE h.ok (show e'∈S.R by rw[J];exact av _ fj);have :=ih A1.length (by rw[<-hA,ab];simp) A1 e' (B1++e::B) rfl (by rw[J,ab];simp) (by omega);have lf:y≠0:=(h.ok.lr n y (by rw[oP];exact bU _ hy)).1;rw[hx]at this;exact(jD.neg lf).1 this ht
 intro e he hl;obtain⟨A,B,J⟩:=List.append_of_mem he;exact key A.length A e B rfl J hl
theorem Good.mo{S S':Sv}(hm:Mo S S')(h':S'.Inv){a:Nat->Bool}(J:S.Good a):S'.Good a:=by
 obtain⟨Z,hZ,hr⟩:=hm.pre;refine XJ h' (fun n hn=> ?_) (fun e he hl h0=> ?_)
 ·have hp:=hm.lits n;have :(S.rc n).lits≠[]:=fun e=>by rw[e]at hp;exact hn (List.perm_nil.1 hp)
  exact(J.1 n this).perm hp
 ·rw[hZ]at he;rcases ah.1 he with h1 |h1
  ·exact J.2 e h1 hl
  ·exact absurd h0 (hr e h1)
def Vc(S:Sv)(a:Nat->Bool):Prop:=(∀n,(S.rc n).nI=false->(S.rc n).lits≠[]->eX a (S.rc n).lits)/\∀e∈S.R,e.l=0->jD a e.x
theorem Vc.mo{S S':Sv}(hm:Mo S S'){a:Nat->Bool}(J:S'.Vc a):S.Vc a:=by
 obtain⟨Z,hZ,hr⟩:=hm.pre;refine⟨fun n hl hn=> ?_,fun e he hl=>J.2 e (by rw[hZ];exact av _ he) hl⟩;have hp:=hm.lits n;have :(S'.rc n).lits≠[]:=fun e=>by rw[e]at hp;exact hn (List.nil_perm.1 hp)
 exact(J.1 n ((hm.nI n).trans hl) this).perm hp.symm
structure cX(S:Sv)(F:(Nat->Bool)->Prop):Prop where
 sound:∀a,F a->S.Good a
 bad:S.bad=true->∀a,¬F a
 full:S.bad=false->∀a,S.Vc a->F a
theorem cX.congr{S S':Sv}{F:(Nat->Bool)->Prop}(h:S.cX F)(hT:S'.T=S.T)(hl:S'.list=S.list)(hb:S'.bad=S.bad):S'.cX F:=by
 have hR:=ew hT;have J:=o5 hl;refine⟨fun a ha=> ?_,fun kZ=>h.bad (hb▸kZ),fun kZ a ha=>h.full (hb▸kZ) a ⟨fun n h1 h2=> ?_,fun e he=> ?_⟩⟩
 ·have :=h.sound a ha;exact⟨fun n hn=>by rw[J]at hn⊢;exact this.1 n hn,fun e he=>this.2 e (hR▸he)⟩
 ·have :=ha.1 n (by rw[J];exact h1) (by rw[J];exact h2);rw[J]at this;exact this
 ·exact ha.2 e (by rw[hR];exact he)
theorem cX.mo{S S':Sv}{F:(Nat->Bool)->Prop}(h:S.cX F)(hm:Mo S S')(h':S'.Inv)(hb:S'.bad=S.bad):S'.cX F:=
 ⟨fun a J=>(h.sound a J).mo hm h',fun kZ=>h.bad (hb▸kZ),fun kZ a J=>h.full (hb▸kZ) a (J.mo hm)⟩
theorem cX.zero{S:Sv}{F:(Nat->Bool)->Prop}(h:S.cX F)(hi:S.Inv){n:Nat}(hc:S.Of n)(hn:(S.rc n).lits≠[])(h0:S.T.levels.length=0):({ S with bad:=true }:Sv).cX F:=by have tk:∀a,¬F a:=fun a J=>(h.sound a J).IE hi hc hn h0;exact⟨fun a J=>absurd J (tk a),fun _=>tk,fun h=>by cases h⟩
theorem cX.back{S:Sv}{F:(Nat->Bool)->Prop}(h:S.cX F)(hi:S.Inv)(level:Nat):(S.back level).cX F:=by
 by_cases hl:level<S.T.levels.length
 ·obtain⟨h1,h2,h3,h4,B,h5,h6,h7⟩:=jk hi.ok hl;have J:=o5 h1;have hb:=(mh S level).2.2.2.2.1;refine⟨fun a ha=> ?_,fun kZ=>h.bad (hb▸kZ),fun kZ a ha=>h.full (hb▸kZ) a ⟨fun n k1 k2=> ?_,fun e he h0=> ?_⟩⟩
  ·have :=h.sound a ha;exact⟨fun n hn=>by rw[J]at hn⊢;exact this.1 n hn,fun e he=>this.2 e (by rw[h5];exact av _ he)⟩
  ·have :=ha.1 n (by rw[J];exact k1) (by rw[J];exact k2);rw[J]at this;exact this
  ·refine ha.2 e ?_ h0;rw[h5]at he;rcases ah.1 he with h8 |h8
   ·exact h8
   ·have :=h6 e h8;omega
 ·have :S.back level=S:=by unfold Sv.back;rw[qai (by omega)]
  rw[this];exact h
theorem cX.bQ{B:Sv}{F:(Nat->Bool)->Prop}(h:B.cX F)(hi:B.Inv){l:List Int}(hf:2<=l.length->B.Fits l)(hr:B.list.length<2199023255552)(l0:0<l.length)(hl:∀x∈l,x≠0/\ -(B.vars:Int)<=x/\x<=B.vars)(Fm:(l.map tv).Nodup)(hv:B.val l[0]! =0)
  (h1:2<=l.length->0<B.T.levels.length) (hs:∀a,F a->eX a l):(B.bQ l).cX F:=by
 have uZ:=hl _ (get_mem (l:=l) (i:=0) l0);have ht:=tH uZ.1 uZ.2.1 uZ.2.2 hi.ok.vl;unfold Sv.bQ;by_cases e1:l.length=1
 ·rw[qai e1];have hR:=sA (r:=0) hi.ok (lK hi.ok ht.1 ht.2 hv);obtain⟨y,hy⟩:∃y,l=[y]:=by
   match l,e1 with
   |[y],_=>exact⟨y,rfl⟩
  refine⟨fun a J=> ?_,h.bad,fun hb a J=>h.full hb a ⟨J.1,fun e he h0=>J.2 e (by rw[hR];exact av _ he) h0⟩⟩;have hg:=h.sound a J;refine⟨hg.1,fun e he h0=> ?_⟩;rw[hR]at he;rcases ah.1 he with h3 |h3
  ·exact hg.2 e h3 h0
  ·rw[ag.1 h3];obtain⟨z,hz,ad⟩:=hs a J;rw[hy]at hz⊢;rw[ag.1 hz]at ad;exact ad
 ·rw[qah e1];have h2:2<=l.length:=by omega
  obtain⟨k1,k2,k3⟩:=hi.attach (hf h2) Fm true hr;have AE:=du B l true;have hb:(B.attach l true).T.ke l[0]! =true:=by rw[AE.1];exact lK hi.ok ht.1 ht.2 hv
  have hR:=sA (r:=(B.list.length:Int)+1) k1.ok hb;rw[ew AE.1,AE.1]at hR;obtain⟨S',Hv⟩:∃S':Sv,({ ((B.attach l true).put l[0]! (B.list.length+1))with many:=B.many+1 }:Sv)=S':=⟨_,rfl⟩
  have ab:S'.R=B.R++[⟨l[0]!,B.T.levels.length,(B.list.length:Int)+1⟩]:=by rw[<-Hv];exact hR
  have Bf:S'.rc B.list.length=⟨l,true,B.used⟩:=by rw[<-Hv];exact k2
  have AF:∀n,n≠B.list.length->S'.rc n=B.rc n:=fun n hn=>by rw[<-Hv];exact k3 n hn
  have Ty:S'.bad=B.bad:=by rw[<-Hv];rfl
  rw[Hv];refine⟨fun a J=> ?_,fun kZ=>h.bad (Ty▸kZ),fun kZ a J=>h.full (Ty▸kZ) a ⟨fun n n1 n2=> ?_,fun e he h0=>J.2 e (by rw[ab];exact av _ he) h0⟩⟩
  ·have hg:=h.sound a J;refine⟨fun n hn=> ?_,fun e he h0=> ?_⟩
   ·by_cases e:n=B.list.length
    ·rw[e,Bf];exact hs a J
    ·rw[AF n e]at hn⊢;exact hg.1 n hn
   ·rw[ab]at he;rcases ah.1 he with h3 |h3
    ·exact hg.2 e h3 h0
    ·rw[ag.1 h3]at h0;have h0:(B.T.levels.length:Int)=0:=h0;have :=h1 h2;omega
  ·have dV:n≠B.list.length:=fun e=>by have :=ru n2;omega
   have :=J.1 n (by rw[AF n dV];exact n1) (by rw[AF n dV];exact n2);rw[AF n dV]at this;exact this
theorem Good.lp{S J:Sv}(h:J.lp=S.lp){a:Nat->Bool}(ha:J.Good a):S.Good a:=by have hR:J.R=S.R:=ew (aaa (fun x=>x.1) h);refine⟨fun n hn=> ?_,fun e he=>ha.2 e (hR▸he)⟩;rw[<-(oY h n).1]at hn⊢;exact ha.1 n hn
theorem cX.lp{S J:Sv}(h:J.lp=S.lp){F:(Nat->Bool)->Prop}(hk:S.cX F):J.cX F:=by have hR:J.R=S.R:=ew (aaa (fun x=>x.1) h);have hb:J.bad=S.bad:=aaa (fun x=>x.2.2.2.2.2.2.2.2.2.2.2.1) h;refine⟨fun a ha=>Good.lp h.symm (hk.sound a ha),fun h2=>hk.bad (hb▸h2),fun h2 a ha=>hk.full (hb▸h2) a ⟨fun n n1 n2=> ?_,fun e he=>ha.2 e (hR▸he)⟩⟩;have :=ha.1 n ((oY h n).2.trans n1) (by rw[(oY h n).1];exact n2);rw[(oY h n).1]at this;exact this
theorem cX.conflict{S:Sv}{F:(Nat->Bool)->Prop}(hk:S.cX F)(h:S.Inv){n:Nat}(hc:S.Of n)(hn:(S.rc n).lits≠[])(hr:S.list.length<2199023255552)(hd:0<S.T.levels.length){S2:Sv}(he:S.conflict n=some (S2,true)):S2.cX F:=by
 obtain⟨J,l,db,h1,h2,h3⟩:=lO h.ok h.wu h.dec hc hd hn;obtain⟨xB,eT,eV,eL,eU,f0,f1,f2,f3,f4⟩:=jI h.ok h1;have Jk:J.Inv:=h.congr xB eT (aaa (fun x=>x.2.2.2.2.2.2.1) h2) (fun j=>(oY h2 j).1) (aaa (fun x=>x.2.2.1) h2);have ad:J.R=S.R:=ew eT;have bt:=h3.lt;have oD:db.toNat<J.T.levels.length:=by rw[eT];omega
 obtain⟨b1,b2,b3,b4,BB,b5,b6,b7⟩:=jk Jk.ok oD;have ab:=(Jk.ok.back db.toNat).2.1;have XH:=Jk.back db.toNat;have mO:∀e∈(J.back db.toNat).R,e∈S.R:=fun e he=>by rw[<-ad,b5];exact av _ he
 obtain⟨et,het,Bk,Tm⟩:=h3.top;have QZ:S2=((J.back db.toNat).bQ l).cZ:=by unfold Sv.conflict at he;rw[qah (by omega),h1]at he;simp only[Option.some.injEq,Prod.mk.injEq]at he;exact he.1.symm
 rw[QZ];have hv:(J.back db.toNat).val l[0]! =0:=by
  rcases jE XH.ok l[0]! with h5 |h5 |h5
  ·exact h5
  ·exfalso;obtain⟨e,he,hx⟩:=(gR XH.ok l[0]!).1 (by omega);exact qy h.ok (mO e he) het (by rw[hx,Bk])
  ·exfalso;obtain⟨e,he,hx⟩:=(val_neg XH.ok).1 (by omega:(J.back db.toNat).val l[0]! <0);have xE:e.x=et.x:=by rw[hx,Bk];omega
   have :=pD h.ok (mO e he) het (by rw[xE]);have :=b7 e he
   subst_vars
   omega
 have ar:((J.back db.toNat).bQ l).cX F:=by refine((hk.lp h2).back Jk db.toNat).bQ XH (fun h5=>⟨h5,f1,by rw[ab,eV];exact f2⟩) (by rw[b1,eL];exact hr) f0 (by rw[ab,eV];exact f2) h3.nd hv (fun h5=> ?_) (fun a ha=>h3.sem a (hk.sound a ha));obtain⟨e,he,hx,zx,pJ⟩:=h3.tail 1 (aq 1) h5;rw[b3];omega
 exact ar.congr rfl rfl rfl
theorem cX.cU{S:Sv}{F:(Nat->Bool)->Prop}(h:S.cX F){n:Nat}(hl:(S.rc n).nI=true):(S.cU n).cX F:=by
 refine⟨fun a ha=> ?_,h.bad,fun hb a ha=>h.full hb a ⟨fun j h1 h2=> ?_,ha.2⟩⟩
 ·have hg:=h.sound a ha;refine⟨fun j J=> ?_,hg.2⟩;rw[jb]at J⊢;split
  ·rename_i e;rw[qai e]at J;exact absurd rfl J
  ·rename_i e;rw[qah e]at J;exact hg.1 j J
 ·have dV:¬(n=j/\n<S.list.length):=fun e=>by rw[<-e.1,hl]at h1;cases h1
  have :=ha.1 j (by rw[jb,qah dV];exact h1) (by rw[jb,qah dV];exact h2);rw[jb,qah dV]at this;exact this
end Sv
namespace Sv
def As(us:List Int)(S:Sv):Prop:=∀i:Nat,i<S.T.levels.length->i<us.length->∃e∈S.R,e.x=us[i]! /\e.l<=i+1
def Dc(us:List Int)(S:Sv):Prop:=∀e∈S.R,e.r=0->1<=e.l->e.l<=us.length->∃i:Nat,i<us.length/\e.x=us[i]!
theorem As.mo{us:List Int}{S S':Sv}(h:As us S)(hm:Mo S S')(hl:S'.T.levels.length=S.T.levels.length):As us S':=fun i h1 J=>by obtain⟨Z,hZ,_⟩:=hm.pre;obtain⟨e,he,hx⟩:=h i (by omega) J;exact⟨e,by rw[hZ];exact av _ he,hx⟩
theorem Dc.mo{us:List Int}{S S':Sv}(h:Dc us S)(hm:Mo S S'):Dc us S':=fun e he hr h1 h2=>by
 obtain⟨Z,hZ,hz⟩:=hm.pre;rw[hZ]at he;rcases ah.1 he with J |J
 ·exact h e J hr h1 h2
 ·exact absurd hr (hz e J)
theorem As.back{us:List Int}{S:Sv}(h:As us S){m:Nat}(ok:S.Ok m)(level:Nat):As us (S.back level):=by
 by_cases hl:level<S.T.levels.length
 ·obtain⟨h1,h2,h3,h4,B,h5,h6,h7⟩:=jk ok hl;intro i k1 k2;rw[h3]at k1;obtain⟨e,he,hx,hle⟩:=h i (by omega) k2;refine⟨e,?_,hx,hle⟩;rw[h5]at he;rcases ah.1 he with J |J
  ·exact J
  ·have :=h6 e J;omega
 ·have :S.back level=S:=by unfold Sv.back;rw[qai (by omega)]
  rw[this];exact h
theorem Dc.back{us:List Int}{S:Sv}(h:Dc us S){m:Nat}(ok:S.Ok m)(level:Nat):Dc us (S.back level):=by
 by_cases hl:level<S.T.levels.length
 ·obtain⟨h1,h2,h3,h4,B,J,h6,h7⟩:=jk ok hl;exact fun e he=>h e (by rw[J];exact av _ he)
 ·have :S.back level=S:=by unfold Sv.back;rw[qai (by omega)]
  rw[this];exact h
theorem As.congr{us:List Int}{S S':Sv}(h:As us S)(J:S'.T=S.T):As us S':=by unfold As at *;rw[ew J,J];exact h
theorem Dc.congr{us:List Int}{S S':Sv}(h:Dc us S)(J:S'.T=S.T):Dc us S':=by unfold Dc at *;rw[ew J];exact h
theorem As.put{us:List Int}{S:Sv}(h:As us S){m:Nat}(ok:S.Ok m)(x r:Int):As us (S.put x r):=by
 intro i h1 h2;rw[ee]at h1;obtain⟨e,he,hx⟩:=h i h1 h2;refine⟨e,?_,hx⟩;by_cases J:S.T.ke x=true
 ·rw[sA ok J];exact av _ he
 ·rw[ew (show(S.put x r).T=S.T by unfold Sv.put;simp only;rw[qah J])];exact he
theorem Dc.put{us:List Int}{S:Sv}(h:Dc us S){m:Nat}(ok:S.Ok m)(x r:Int)(hr:r=0->S.T.levels.length=0\/us.length<S.T.levels.length\/∃i:Nat,i<us.length/\x=us[i]!):Dc us (S.put x r):=by
 by_cases hb:S.T.ke x=true
 ·intro e he h0 h1 J;rw[sA ok hb]at he;rcases ah.1 he with h3 |h3
  ·exact h e h3 h0 h1 J
  ·rw[ag.1 h3]at h0 h1 J⊢;have h1:(1:Int)<=S.T.levels.length:=h1;have J:(S.T.levels.length:Int)<=us.length:=J;rcases hr h0 with h4 |h4 |h4
   ·omega
   ·omega
   ·exact h4
 ·exact h.congr (show(S.put x r).T=S.T by unfold Sv.put;simp only;rw[qah hb])
theorem GA{us:List Int}{B:Sv}(h:B.Inv)(ha:As us B)(hd:Dc us B){l:List Int}(h1:l.length=1->B.T.levels.length=0):As us (B.bQ l).cZ/\Dc us (B.bQ l).cZ:=by
 by_cases J:l.length=1
 ·have e:(B.bQ l).cZ.T=(B.put l[0]! 0).T:=by unfold bQ;rw[qai J];rfl
  exact⟨(ha.put h.ok l[0]! 0).congr e,(hd.put h.ok l[0]! 0 (fun _=> .inl (h1 J))).congr e⟩
 ·have e:(B.bQ l).cZ.T=(B.put l[0]! (B.list.length+1)).T:=by unfold bQ;rw[qah J];show((B.attach l true).put l[0]! _).T=_;unfold Sv.put;simp only;rw[(du B l true).1]
  exact⟨(ha.put h.ok l[0]! _).congr e,(hd.put h.ok l[0]! _ (fun e=>by omega)).congr e⟩
theorem Bx{us:List Int}{S:Sv}(h:S.Inv)(ha:As us S)(hd:Dc us S){n:Nat}(hc:S.Of n)(hn:(S.rc n).lits≠[])(Py:0<S.T.levels.length){S2:Sv}(he:S.conflict n=some (S2,true)):As us S2/\Dc us S2:=by
 obtain⟨S1,l,db,h1,h2,h3⟩:=lO h.ok h.wu h.dec hc Py hn;obtain⟨xB,J,eV,eL,eU,f0,f1,f2,f3,f4⟩:=jI h.ok h1;have Jk:S1.Inv:=h.congr xB J (aaa (fun x=>x.2.2.2.2.2.2.1) h2) (fun j=>(oY h2 j).1) (aaa (fun x=>x.2.2.1) h2);have bt:=h3.lt;have oD:db.toNat<S1.T.levels.length:=by rw[J];omega
 have QZ:S2=((S1.back db.toNat).bQ l).cZ:=by unfold Sv.conflict at he;rw[qah (by omega),h1]at he;simp only[Option.some.injEq,Prod.mk.injEq]at he;exact he.1.symm
 rw[QZ];exact GA (Jk.back db.toNat) ((ha.congr J).back xB _) ((hd.congr J).back xB _) (fun h5=>by rw[(jk xB oD).2.2.1,h3.one h5];rfl)
theorem rH{S:Sv}(h:S.Inv):∀(Q D:List St)(g met:List Int),S.R=Q.reverse++D->
  (∀m∈met,m∈dY S (Q.map (·.x)) g met)/\
  (∀m∈dY S (Q.map (·.x)) g met,m∈met\/∃e∈S.R,e.r=0/\1<=e.l/\e.x=m)/\
  ∀a,S.Good a->(∀m∈dY S (Q.map (·.x)) g met,jD a m)->∀e∈Q,tv e.x∈g->jD a e.x
 |[],D,g,met,hR=>⟨fun m hm=>hm,fun m hm=> .inl hm,fun a _ _ e he=>by cases he⟩
 |e0::Q,D,g,met,hR=>by
  have Fv:S.R=Q.reverse++(e0::D):=by rw[hR];simp
  have sq:e0∈S.R:=by rw[Fv];simp
  obtain⟨hl,hr⟩:=mB h.ok sq;have ar:=iE h.ok sq;rw[dJ,dY,hl,hr];by_cases hs:tv e0.x∉g\/e0.l=0
  ·rw[qai hs];obtain⟨i1,i2,i3⟩:=rH h Q (e0::D) g met Fv;refine⟨i1,i2,fun a J ht e he hg=> ?_⟩;rcases ay.1 he with rfl |he
   ·rcases hs with hs |hs
    ·exact absurd hg hs
    ·exact J.2 e sq hs
   ·exact i3 a J ht e he hg
  ·rw[qah hs];have zx:1<=e0.l:=by have :¬e0.l=0:=fun e=>hs (.inr e);omega
   by_cases h0:e0.r-1<0
   ·rw[qai h0];have ad:e0.r=0:=by have :=(h.ok.rs (tv e0.x)).1;rw[hr]at this;omega
    obtain⟨i1,i2,i3⟩:=rH h Q (e0::D) g (e0.x::met) Fv;refine⟨fun m hm=>i1 m (bU _ hm),fun m hm=> ?_,fun a J ht e he hg=> ?_⟩
    ·rcases i2 m hm with h1 |h1
     ·rcases ay.1 h1 with h1 |h1
      ·exact .inr ⟨e0,sq,ad,zx,h1.symm⟩
      ·exact .inl h1
     ·exact .inr h1
    ·rcases ay.1 he with rfl |he
     ·exact ht _ (i1 _ bM)
     ·exact i3 a J ht e he hg
   ·rw[qah h0];obtain⟨n,hn,ls,oP,gZ⟩:=h.wu _ _ _ Fv (by omega:e0.r≠0);rw[hn,show((n:Int)+1-1).toNat=n by omega];obtain⟨i1,i2,i3⟩:=rH h Q (e0::D) ((S.rc n).lits.map tv++g) met Fv;refine⟨i1,i2,fun a J ht e he hg=> ?_⟩;rcases ay.1 he with rfl |he
    ·obtain⟨y,hy,Nh⟩:=J.1 n (by rw[oP];simp);have ld:=hy;rw[oP]at hy;rcases ay.1 hy with h5 |h5
     ·rw[<-h5];exact Nh
     ·exfalso;obtain⟨e',fj,hx⟩:=gZ y h5;have ab:e'∈S.R:=by rw[Fv];exact av _ fj
      have SD:=(lx h.ok ab hx).1;have :=i3 a J ht e' (dX.1 fj) (by rw[<-SD];exact av _ (List.mem_map_of_mem ld));rw[hx]at this;exact(jD.neg (h.ok.lr n y ld).1).1 this Nh
    ·exact i3 a J ht e he (bP _ hg)
theorem zZ(met:List Int):∀(us P core:List Int),(∀x∈core,x∈P/\x∈met)->(∀x∈P,x∈met->x∈core)->core.Pairwise (fun x y=>(P++us).idxOf x<(P++us).idxOf y)->
  (∀x∈iU met us core,x∈P++us/\x∈met)/\(∀x∈P++us,x∈met->x∈iU met us core)/\(iU met us core).Pairwise (fun x y=>(P++us).idxOf x<(P++us).idxOf y)
 |[],P,core,h1,h2,h3=>by
  rw[iU];rw[cq]at *;exact⟨h1,h2,h3⟩
 |x::r,P,core,h1,h2,h3=>by
  rw[iU];have e:P++x::r=(P++[x])++r:=by simp
  rw[e]at h3⊢;by_cases hc:x∈met/\x∉core
  ·rw[qai hc];have ad:x∉P:=fun hx=>hc.2 (h2 x hx hc.1);refine zZ met r (P++[x]) (core++[x]) (fun y hy=> ?_) (fun y hy hm=> ?_) ?_
   ·rcases ah.1 hy with J |J
    ·exact⟨av _ (h1 y J).1,(h1 y J).2⟩
    ·rw[ag.1 J];exact⟨by simp,hc.1⟩
   ·rcases ah.1 hy with J |J
    ·exact av _ (h2 y J hm)
    ·exact bP _ J
   ·rw[List.pairwise_append];refine⟨h3,List.pairwise_singleton _ _,fun y hy z hz=> ?_⟩;rw[ag.1 hz];have ab:=(h1 y hy).1;rw[dB,List.idxOf_append,qai ab,List.idxOf_append,qah ad];have :=List.idxOf_lt_length_of_mem ab;omega
  ·rw[qah hc];refine zZ met r (P++[x]) core (fun y hy=>⟨av _ (h1 y hy).1,(h1 y hy).2⟩) (fun y hy hm=> ?_) h3;rcases ah.1 hy with J |J
   ·exact h2 y J hm
   ·rw[ag.1 J]at hm⊢;exact Classical.byContradiction fun hn=>hc ⟨hm,hn⟩
end Sv
theorem B5{H:Hp}(h:HI H)(x y:Int)(J:y∈(Sv.fW H x).items):y∈H.items\/y=x:=by
 unfold Sv.fW at J;split at J
 ·rename_i hb;exact((h.push hb.1 hb.2).2.2.2.2 y).1 J
 ·exact .inl J
theorem wF{H:Hp}(h:HI H)(x:Int){y:Int}(hy:y∈H.items):y∈(Sv.fW H x).items:=by
 unfold Sv.fW;split
 ·rename_i J;exact((h.push J.1 J.2).2.2.2.2 y).2 (.inl hy)
 ·exact hy
theorem Gb{H:Hp}(h:HI H){x:Int}(h1:0<=x)(h2:x<H.at_.length):x∈(Sv.fW H x).items:=by
 have J:H.kb x=true:=by simp[Hp.kb,h1,h2]
 unfold Sv.fW;by_cases hp:H.pl x<0
 ·rw[qai ⟨J,hp⟩];exact((h.push J hp).2.2.2.2 x).2 (.inr rfl)
 ·rw[qah (fun e=>hp e.2)];obtain⟨k1,k2⟩:=h.pc.inv x.toNat (by omega) (by show 0<=H.pl x;omega);rw[show((x.toNat:Nat):Int)=x by omega]at k2;rw[<-k2];exact get_mem k1
theorem yV{H:Hp}(h:HI H)(x b:Int):HI (Sv.nH H x b)/\∀y,y∈(Sv.nH H x b).items↔y∈H.items:=by
 unfold Sv.nH;split
 ·rename_i J;obtain⟨k1,k2,k3,k4,k5⟩:=h.raise J.1 J.2.1 J.2.2.1 J.2.2.2;exact⟨k1,k5⟩
 ·exact⟨h,fun y=>Iff.rfl⟩
namespace Sv
structure Hc(S:Sv):Prop where
 all:∀v:Int,1<=v->v<=S.vars->S.val v=0->v∈S.H.items
 pos:∀x∈S.H.items,1<=x
theorem Hc.mono{S S':Sv}{m m':Nat}(ok:S.Ok m)(ab:S'.Ok m')(h:S.Hc)(hv:S'.vars=S.vars)(hH:∀y,y∈S'.H.items↔y∈S.H.items)(hR:∀e∈S.R,e∈S'.R):S'.Hc:=by
 refine⟨fun v h1 h2 h3=>(hH v).2 (h.all v h1 (by rw[<-hv];exact h2) ?_),fun x J=>h.pos x ((hH x).1 J)⟩;rcases jE ok v with h4 |h4 |h4
 ·exact h4
 ·exfalso;obtain⟨e,he,J⟩:=(gR ok v).1 (by omega);exact(jU ab h3 e (hR e he)).1 J
 ·exfalso;obtain⟨e,he,J⟩:=(val_neg ok).1 (by omega:S.val v<0);exact(jU ab h3 e (hR e he)).2 J
theorem Gg{J:Sv}{m0:Nat}(ad:J.Ok m0):∀(f:Nat)(S:Sv)(m:Nat),S.Ok m->S.T=J.T->S.Hc->S.H.items.length<f->
  ((dg f S).2=0->(∀x∈(dg f S).1.H.items,1<=x)/\∀v:Int,1<=v->v<=S.vars->J.val v≠0)/\
  ((dg f S).2≠0->(∀x∈(dg f S).1.H.items,1<=x)/\∀v:Int,1<=v->v<=S.vars->J.val v=0->v∈(dg f S).1.H.items\/(dg f S).2=v\/(dg f S).2= -v)
 |0,S,m,ok,hT,h,hf=>absurd hf (aD _)
 |f+1,S,m,ok,hT,h,hf=>by
  have mS:∀x,S.val x=J.val x:=fun x=>by unfold val;rw[hT]
  rw[dg];by_cases h0:S.H.items.length=0
  ·rw[qai h0];refine⟨fun _=>⟨h.pos,fun v h1 h2 h3=> ?_⟩,fun h=>absurd rfl h⟩;have :=h.all v h1 h2 (by rw[mS];exact h3);rw[aX h0]at this;cases this
  ·rw[qah h0];obtain⟨k1,k2,k3,k4,k5⟩:=ok.hi.pop (by omega);have ab:=(ok.hi.root (by omega)).1;have WL:=h.pos _ ab;obtain⟨v0,Co⟩:∃v0,S.H.it 0=v0:=⟨_,rfl⟩
   rw[Co]at k5 WL⊢;have xB:({ S with H:=S.H.lu }:Sv).Ok m:=⟨ok.vl,ok.tr,k1,by show S.H.lu.at_.length=_;rw[k4];exact ok.hl,ok.ph,ok.wl,ok.ll,ok.wb,ok.wt,ok.lr,ok.ln,ok.lb,ok.hd,ok.rs⟩
   simp only;by_cases hv:({ S with H:=S.H.lu }:Sv).val v0≠0
   ·rw[qai hv];have ar:J.val v0≠0:=by rw[<-mS];exact hv
    have tq:({ S with H:=S.H.lu }:Sv).Hc:=⟨fun v h1 h2 h3=>(k5 v).2 ⟨h.all v h1 h2 h3,fun e=>hv (e▸h3)⟩,fun x hx=>h.pos x ((k5 x).1 hx).1⟩
    exact Gg ad f _ m xB hT tq (by show S.H.lu.items.length<f;omega)
   ·rw[qah hv];simp only;have dV:(if S.phase[v0.toNat]! =true then v0 else -v0)≠0:=by split<;>omega
    refine⟨fun e=>absurd e dV,fun _=>⟨fun x hx=>h.pos x ((k5 x).1 hx).1,fun v h1 h2 h3=> ?_⟩⟩;by_cases e:v=v0
    ·right
     split
     ·exact .inl e.symm
     ·exact .inr (by rw[e])
    ·exact .inl ((k5 v).2 ⟨h.all v h1 h2 (by rw[mS];exact h3),e⟩)
theorem Sb{S:Sv}(h:S.Inv)(hf:S.head=S.T.lits.length)(hs:∀v:Int,1<=v->v<=S.vars->S.val v≠0)(a:Nat->Bool)(ha:∀v:Nat,1<=v->v<=S.vars->a v=decide (0<S.val (v:Int))):
  (∀e∈S.R,jD a e.x)/\∀n,(S.rc n).lits≠[]->eX a (S.rc n).lits:=by
 have lP:=h.ok.vl;have hT:∀e∈S.R,jD a e.x:=fun e he=>by
  have hr:=iE h.ok he;have hn:e.x.natAbs=(tv e.x).toNat/\(tv e.x=e.x/\0<e.x\/tv e.x= -e.x/\e.x<0):=by
   have h1:=hr.1;have h2:=hr.2.1;unfold tv at h1 h2⊢;split at h1
   ·omega
   ·rename_i e1;rw[qah e1]at h2⊢;split at h1
    ·rename_i e2;rw[qai e2]at h2⊢;omega
    ·rename_i e2;rw[qah e2]at h2⊢;omega
  unfold jD;rw[hn.1,ha _ (by omega) (by omega)];have e1:(((tv e.x).toNat:Nat):Int)=tv e.x:=by omega
  rw[e1,qam];rcases hn.2 with⟨h1,h2⟩ |⟨h1,h2⟩
  ·rw[h1];exact⟨fun _=>h2,fun _=>(gR h.ok _).2 ⟨e,he,rfl⟩⟩
  ·rw[h1];have :S.val (-e.x)<0:=(val_neg h.ok).2 ⟨e,he,by omega⟩;exact⟨fun h=>by omega,fun h=>by omega⟩
 refine⟨hT,fun n hn=> ?_⟩;have h2:=qae h.ok hn;have hl:=h.ok.lit (n:=n) (k:=0) (by omega);have ht:=tH hl.1 hl.2.1 hl.2.2 lP;have hv:S.val (S.rc n).lits[0]! ≠0:=fun e=>by
  have J:=hs (tv (S.rc n).lits[0]!) ht.1 ht.2;have :tv (S.rc n).lits[0]! =(S.rc n).lits[0]! \/tv (S.rc n).lits[0]! = -(S.rc n).lits[0]! :=by
   unfold tv;split
   ·exact .inl rfl
   ·split
    ·exact .inr rfl
    ·exact .inl rfl
  rcases this with h3 |h3
  ·rw[h3]at J;exact J e
  ·rw[h3]at J;exact J (MD h.ok e)
 rcases jE h.ok (S.rc n).lits[0]! with h3 |h3 |h3
 ·exact absurd h3 hv
 ·obtain⟨e,he,hx⟩:=(gR h.ok (S.rc n).lits[0]!).1 (by omega);exact⟨(S.rc n).lits[0]!,get_mem (by omega),hx▸hT e he⟩
 ·obtain⟨e,he,hx⟩:=(val_neg h.ok).1 (by omega:S.val (S.rc n).lits[0]! <0);obtain⟨e',fj,ab,_⟩:=(h.wt n hn e (by rw[hf,<-ko,cN];exact he)).1 hx;exact⟨(S.rc n).lits[1]!,get_mem (by omega),ab▸hT e' fj⟩
end Sv
namespace Sv
theorem xj(level:Int):∀(Q:List St)(S:Sv)(m:Nat),S.Ok m->(∀e∈Q,e∈S.R)->Q.Pairwise (fun a b:St=>b.l<=a.l)->(∀y∈S.H.items,1<=y)->
  (∀y∈S.H.items,y∈(eI level (Q.map (·.x)) S).H.items)/\(∀e∈Q,level<e.l->tv e.x∈(eI level (Q.map (·.x)) S).H.items)/\∀y∈(eI level (Q.map (·.x)) S).H.items,1<=y
 |[],S,m,ok,hq,hp,h1=>⟨fun y J=>J,(fun e he=>by cases he),h1⟩
 |e0::Q,S,m,ok,hq,hp,h1=>by
  rw[List.pairwise_cons]at hp;have sq:=hq e0 bM;have hl:=(mB ok sq).1;have hr:=iE ok sq;rw[dJ];by_cases hs:e0.l<=level
  ·rw[sZ (by rw[hl];exact hs)];refine⟨fun y J=>J,fun e he hle=> ?_,h1⟩;exfalso;rcases ay.1 he with rfl |he
   ·omega
   ·have :=hp.1 e he;omega
  ·rw[Al (by rw[hl];exact hs)];have ab:∀y∈(fW S.H (tv e0.x)).items,1<=y:=fun y J=>by
    rcases B5 ok.hi _ _ J with h2 |h2
    ·exact h1 y h2
    ·rw[h2];exact hr.1
   obtain⟨i1,i2,i3⟩:=xj level Q _ m (ok.sz e0.x) (fun e he=>hq e (bU _ he)) hp.2 ab;have mO:tv e0.x∈(fW S.H (tv e0.x)).items:=Gb ok.hi (by omega) (by rw[ok.hl];omega);refine⟨fun y J=>i1 y (wF ok.hi _ J),fun e he hle=> ?_,i3⟩;rcases ay.1 he with rfl |he
   ·exact i1 _ mO
   ·exact i2 e he hle
theorem aau{S:Sv}{m:Nat}(ok:S.Ok m){v:Int}(h1:1<=v)(h2:v<=S.vars)(h:S.val v≠0):∃e∈S.R,tv e.x=v/\(e.x=v\/e.x= -v):=by
 have lP:=ok.vl;rcases jE ok v with h3 |h3 |h3
 ·exact absurd h3 h
 ·obtain⟨e,he,J⟩:=(gR ok v).1 (by omega);exact⟨e,he,by rw[J,oU (by omega)], .inl J⟩
 ·obtain⟨e,he,J⟩:=(val_neg ok).1 (by omega:S.val v<0);exact⟨e,he,by rw[J,sF (by omega) (by omega)];omega, .inr J⟩
theorem Hc.back{S:Sv}(h:S.Hc){m:Nat}(ok:S.Ok m)(level:Nat):(S.back level).Hc:=by
 by_cases hl:level<S.T.levels.length
 ·obtain⟨h1,h2,h3,h4,B,h5,h6,h7⟩:=jk ok hl;have SK:S.T.lits.reverse=S.R.reverse.map (·.x):=by rw[ok.rep.lits,List.map_reverse]
  have Nj:S.R.reverse.Pairwise (fun a b:St=>b.l<=a.l):=List.pairwise_reverse.2 ok.rep.sorted;obtain⟨i1,i2,i3⟩:=xj (level:Int) S.R.reverse S m ok (fun e he=>dX.1 he) Nj h.pos;rw[<-SK]at i1 i2 i3;have hH:(S.back level).H=(eI (level:Int) S.T.lits.reverse S).H:=by unfold Sv.back;rw[qah (by omega)]
  have Wh:=(ok.back level).1;have hv:=(ok.back level).2.1;refine⟨fun v v1 v2 v3=> ?_,fun x hx=>i3 x (hH▸hx)⟩;rw[hH];by_cases h0:S.val v=0
  ·exact i1 v (h.all v v1 (by rw[<-hv];exact v2) h0)
  ·obtain⟨e,he,ht,hx⟩:=aau ok v1 (by rw[<-hv];exact v2) h0;have dV:e∉(S.back level).R:=fun hm=>by have :=jU Wh v3 e hm;exact hx.elim this.1 this.2
   have hle:(level:Int)<e.l:=by
    rw[h5]at he;rcases ah.1 he with J |J
    ·exact absurd J dV
    ·exact h6 e J
   rw[<-ht];exact i2 e (dX.2 he) hle
 ·have :S.back level=S:=by unfold Sv.back;rw[qai (by omega)]
  rw[this];exact h
theorem JW{G:Gr}(h:HI G.S.H)(l:Int):HI (meet G l).S.H/\∀y,y∈(meet G l).S.H.items↔y∈G.S.H.items:=by
 unfold meet;simp only;split
 ·exact⟨h,fun y=>Iff.rfl⟩
 ·split
  ·exact yV h _ _
  ·exact yV h _ _
theorem qC(skip:Int):∀(ls:List Int)(G:Gr),HI G.S.H->HI (meets skip ls G).S.H/\∀y,y∈(meets skip ls G).S.H.items↔y∈G.S.H.items
 |[],G,h=>⟨h,fun y=>Iff.rfl⟩
 |l::r,G,h=>by
  rw[meets];split
  ·obtain⟨h1,J⟩:=JW h l;obtain⟨h3,h4⟩:=qC skip r _ h1;exact⟨h3,fun y=>(h4 y).trans (J y)⟩
  ·exact qC skip r G h
theorem uh:∀(f:Nat)(G:Gr)(n skip:Int)(rest:List Int)(GE:Gr)(xe:Int),HI G.S.H->fX f G n skip rest=some (GE,xe)->∀y,y∈GE.S.H.items↔y∈G.S.H.items
 |0,G,n,skip,rest,GE,xe,hi,h=>by rw[kX]at h;cases h
 |f+1,G,n,skip,rest,GE,xe,hi,h=>by
  rw[me]at h;have hk:HI (eu G n skip).S.H/\∀y,y∈(eu G n skip).S.H.items↔y∈G.S.H.items:=by
   unfold eu;split
   ·exact qC skip _ { G with S:=G.S.iV n.toNat } hi
   ·exact⟨hi,fun y=>Iff.rfl⟩
  generalize eu G n skip=J at h hk;unfold eO at h;cases hq:rest.dropWhile (fun x=>decide (tv x∉J.seen))with
  |nil=>rw[hq]at h;cases h
  |cons x r=>
   rw[hq]at h;simp only at h;split at h
   ·simp only[Option.some.injEq,Prod.mk.injEq]at h;obtain⟨rfl,rfl⟩:=h;exact hk.2
   ·exact fun y=>(uh f { J with gO:=J.gO-1 } _ _ _ GE xe hk.1 h y).trans (hk.2 y)
theorem AZ{S:Sv}{m:Nat}(ok:S.Ok m){n:Nat}{S1:Sv}{l:List Int}{db:Int}(h:S.iN n=some (S1,l,db)):∀y,y∈S1.H.items↔y∈S.H.items:=by
 unfold iN at h;cases J:fX (S.T.lits.length+1) ⟨S,[],0,[0]⟩ n 0 S.T.lits.reverse with
 |none=>rw[J]at h;cases h
 |some p=>
  obtain⟨G,x⟩:=p;rw[J]at h;simp only[Option.some.injEq,Prod.mk.injEq]at h;obtain⟨rfl,_⟩:=h;exact uh _ _ _ _ _ G x ok.hi J
theorem RU(S:Sv){m:Nat}(ok:S.Ok m)(x r:Int):∀e∈S.R,e∈(S.put x r).R:=fun e he=>by
 by_cases J:S.T.ke x=true
 ·rw[sA ok J];exact av _ he
 ·rw[ew (show(S.put x r).T=S.T by unfold Sv.put;simp only;rw[qah J])];exact he
theorem OL{B:Sv}{m:Nat}(ok:B.Ok m)(l:List Int):(B.bQ l).cZ.H=B.H/\(B.bQ l).cZ.vars=B.vars/\∀e∈B.R,e∈(B.bQ l).cZ.R:=by
 by_cases J:l.length=1
 ·have e:(B.bQ l)=B.put l[0]! 0:=by unfold bQ;rw[qai J]
  rw[e];exact⟨rfl,rfl,RU B ok _ _⟩
 ·have e:(B.bQ l)={ ((B.attach l true).put l[0]! (B.list.length+1))with many:=B.many+1 }:=by unfold bQ;rw[qah J]
  have hT:(B.bQ l).cZ.T=(B.put l[0]! (B.list.length+1)).T:=by rw[e];show((B.attach l true).put l[0]! _).T=_;unfold Sv.put;simp only;rw[(du B l true).1]
  have hR:(B.bQ l).cZ.R=(B.put l[0]! (B.list.length+1)).R:=ew hT;refine⟨by rw[e];exact(du B l true).2.2.2.2.2,by rw[e];exact(du B l true).2.1,fun x hx=> ?_⟩;rw[hR];exact RU B ok _ _ x hx
theorem Hc.conflict{S:Sv}(hh:S.Hc)(h:S.Inv){n:Nat}(hc:S.Of n)(hn:(S.rc n).lits≠[])(hr:S.list.length<2199023255552)(Py:0<S.T.levels.length){S2:Sv}(he:S.conflict n=some (S2,true)):S2.Hc:=by
 obtain⟨S1,l,db,h1,h2,h3⟩:=lO h.ok h.wu h.dec hc Py hn;obtain⟨xB,eT,eV,eL,eU,f0,f1,f2,f3,f4⟩:=jI h.ok h1;have QZ:S2=((S1.back db.toNat).bQ l).cZ:=by unfold Sv.conflict at he;rw[qah (by omega),h1]at he;simp only[Option.some.injEq,Prod.mk.injEq]at he;exact he.1.symm
 have tq:S1.Hc:=hh.mono h.ok xB eV (AZ h.ok h1) (fun e he=>by rw[ew eT];exact he);have hb:=tq.back xB db.toNat;have J:=(xB.back db.toNat)
 have okl:=J.1.bQ f0 f1 (by rw[J.2.1,eV];exact f2) (by rw[J.2.2,eL];exact hr);obtain⟨k1,k2,k3⟩:=OL J.1 l;rw[QZ];exact hb.mono J.1 okl.cZ k2 (fun y=>by rw[k1]) k3
theorem Hc.rest{S S':Sv}(h:S.Hc){m m':Nat}(ok:S.Ok m)(J:S'.Ok m')(hm:Mo S S')(hr:S'.rest=S.rest):S'.Hc:=by have e1:S'.H=S.H:=aaa (fun x=>x.1) hr;have e2:S'.vars=S.vars:=aaa (fun x=>x.2.1) hr;obtain⟨Z,hZ,_⟩:=hm.pre;exact h.mono ok J e2 (fun y=>by rw[e1]) (fun e he=>by rw[hZ];exact av _ he)
end Sv
namespace Sv
structure Up(S S':Sv):Prop where
 R:∃Z,S'.R=S.R++Z/\∀e∈Z,1<=e.l
 list:S'.list=S.list
 bad:S'.bad=S.bad
 vars:S'.vars=S.vars
theorem Up.Za{S S':Sv}{F:(Nat->Bool)->Prop}(u:Up S S')(h:S.cX F):S'.cX F:=by
 obtain⟨Z,hZ,hz⟩:=u.R;have J:=o5 u.list;refine⟨fun a ha=> ?_,fun hb=>h.bad (u.bad▸hb),fun hb a ha=>h.full (u.bad▸hb) a ⟨fun n h1 h2=> ?_,fun e he h0=>ha.2 e (by rw[hZ];exact av _ he) h0⟩⟩
 ·have hg:=h.sound a ha;refine⟨fun n hn=>by rw[J]at hn⊢;exact hg.1 n hn,fun e he h0=> ?_⟩;rw[hZ]at he;rcases ah.1 he with h1 |h1
  ·exact hg.2 e h1 h0
  ·have :=hz e h1;omega
 ·have :=ha.1 n (by rw[J];exact h1) (by rw[J];exact h2);rw[J]at this;exact this
structure Ye(us:List Int)(S':Sv):Prop where
 set:∀v:Int,1<=v->v<=S'.vars->S'.val v≠0
 us:∀u∈us,∃e∈S'.R,e.x=u
 full:S'.head=S'.T.lits.length
 model:S'.model=(List.range (S'.vars+1)).map fun v:Nat=>decide (0<S'.val (v:Int))
 has:S'.has=true
structure X7(us:List Int)(S':Sv):Prop where
 no:∀a,S'.Good a->¬∀u∈S'.core,jD a u
 sub:∀u∈S'.core,u∈us
 ord:S'.core.Pairwise (fun x y=>us.idxOf x<us.idxOf y)
theorem OA(S:Sv){m:Nat}(ok:S.Ok m):S.pick.1.T=S.T/\S.pick.1.list=S.list/\S.pick.1.bad=S.bad/\S.pick.1.vars=S.vars/\S.pick.1.head=S.head:=by obtain⟨p1,J,p3,p4,p5,p6,p7⟩:=ok.pick;exact⟨J,p4,(sJ _ S).2.2.2.2,p3,p5⟩
theorem uD{us:List Int}{S:Sv}(h:S.Inv)(hf:S.head=S.T.lits.length)(hA:As us S)(hD:Dc us S)(hc:S.Hc)(hl:us.length<=S.T.levels.length):
  (S.choose.2=0\/S.choose.2=1)/\Up S S.choose.1/\(S.choose.2=0->As us S.choose.1/\Dc us S.choose.1)/\S.choose.1.Hc/\(S.choose.2=1->Ye us S.choose.1/\S.choose.1.T=S.T):=by
 obtain⟨s1,s2,s3,s4,s5⟩:=OA S h.ok;have hI:=(choose_spec h hf).1;obtain⟨c1,c2⟩:=Gg h.ok (S.H.items.length+1) S 0 h.ok rfl hc (by omega);have c0:S.pick.2=0->∀x∈S.pick.1.H.items,1<=x:=fun e=>(c1 e).1;have c1:S.pick.2=0->∀v:Int,1<=v->v<=S.vars->S.val v≠0:=fun e=>(c1 e).2;have c2:S.pick.2≠0->(∀x∈S.pick.1.H.items,1<=x)/\∀v:Int,1<=v->v<=S.vars->S.val v=0->v∈S.pick.1.H.items\/S.pick.2=v\/S.pick.2= -v:=c2;unfold choose at hI⊢;by_cases h0:S.pick.2=0
 ·rw[qai h0]at hI⊢;have hT:S.pick.1.keep.T=S.T:=s1;have hR:S.pick.1.keep.R=S.R:=ew hT;refine⟨.inr rfl,⟨⟨[],by rw[hR,cq],fun e he=>by cases he⟩,s2,s3,s4⟩,fun h=>(by cases h),⟨fun v v1 v2 v3=>absurd v3 (by
   have :S.pick.1.keep.val v=S.val v:=by unfold val;rw[hT]
   rw[this];exact c1 h0 v v1 (by rw[<-s4];exact v2)),c0 h0⟩,fun _=>⟨⟨fun v v1 v2=> ?_,fun u hu=> ?_,?_,rfl,rfl⟩,hT⟩⟩
  ·have v2:v<=S.pick.1.vars:=v2;have :S.pick.1.keep.val v=S.val v:=by unfold val;rw[hT]
   rw[this];exact c1 h0 v v1 (by rw[<-s4];exact v2)
  ·obtain⟨i,hi,hg⟩:=List.getElem_of_mem hu;obtain⟨e,he,hx,_⟩:=hA i (by omega) hi;exact⟨e,by rw[hR];exact he,by rw[hx,rV hi,hg]⟩
  ·show S.pick.1.head=_;rw[s5,hT];exact hf
 ·rw[qah h0]at hI⊢;obtain⟨k1,k2⟩:=c2 h0;have hv:=vt h.ok _ S rfl h0;have J:S.pick.1.Inv:=by
   obtain⟨p1,p2,p3,p4,p5,p6,p7⟩:=h.ok.pick;refine h.congr p1 p2 p5 (fun n=>by rw[o5 p4]) ?_;have :∀(f:Nat)(S:Sv),(dg f S).1.watch=S.watch:=by
    intro f;induction f with
    |zero=>intro S;rfl
    |succ f ih=>
     intro S;rw[dg];split
     ·rfl
     ·simp only;split
      ·exact ih _
      ·rfl
   exact this _ S
  obtain⟨p1,p2,p3,p4,p5,p6,p7⟩:=h.ok.pick;obtain⟨q1,q2⟩:=J.choice (by rw[s1,s5];exact hf) h0 (by rw[s4];exact p6) (by rw[s4];exact p7) (by unfold val;rw[s1];exact hv);rw[ew s1,s1]at q2;have ad:As us S.pick.1:=hA.congr s1;have aB:Dc us S.pick.1:=hD.congr s1;have ab:As us S.pick.1.deep:=fun i i1 i2=>by obtain⟨e,he,hx⟩:=ad i (by rw[s1];omega) i2;exact⟨e,by rw[te J.ok];exact he,hx⟩
  have ar:Dc us S.pick.1.deep:=fun e he=>aB e (by rw[te J.ok]at he;exact he);refine⟨.inl rfl,⟨⟨_,q2,fun e he=>by rw[ag.1 he];show(1:Int)<=((S.T.levels.length+1:Nat):Int);omega⟩,s2,s3,s4⟩,fun _=>⟨ab.put J.ok.deep _ _,ar.put J.ok.deep _ _ (fun _=> .inr (.inl (by rw[ep,s1];omega)))⟩,⟨fun v v1 v2 v3=> ?_,k1⟩,fun h=>by cases h⟩;have v2:v<=S.pick.1.vars:=v2;have hold:S.val v=0:=by
   rcases jE h.ok v with h4 |h4 |h4
   ·exact h4
   ·exfalso;obtain⟨e,he,hx⟩:=(gR h.ok v).1 (by omega);exact(jU q1.ok v3 e (by rw[q2];exact av _ he)).1 hx
   ·exfalso;obtain⟨e,he,hx⟩:=(val_neg h.ok).1 (by omega:S.val v<0);exact(jU q1.ok v3 e (by rw[q2];exact av _ he)).2 hx
  have AG:=jU q1.ok v3 ⟨S.pick.2,(S.T.levels.length+1:Nat),0⟩ (by rw[q2];simp);rcases k2 v v1 (by rw[<-s4];exact v2) hold with h5 |h5 |h5
  ·exact h5
  ·exact absurd h5 AG.1
  ·exact absurd h5 AG.2
end Sv
namespace Sv
theorem PY{us:List Int}{S:Sv}(h:S.Inv)(hD:Dc us S)(iT:S.core=[])(hd:S.T.levels.length<us.length){a:Int}(ha:a∈us)(ZE:a≠0)(hv:S.val a= -1):X7 us (S.Af a us):=by
 have SK:S.T.lits.reverse=S.R.reverse.map (·.x):=by rw[h.ok.rep.lits,List.map_reverse]
 obtain⟨b1,b2,b3⟩:=rH h S.R.reverse [] [tv a] [a] (by simp);rw[<-SK]at b1 b2 b3;have mO:∀m∈dY S S.T.lits.reverse [tv a] [a],m∈us:=fun m hm=>by
  rcases b2 m hm with h1 |⟨e,he,hr,hl,J⟩
  ·rw[ag.1 h1];exact ha
  ·have ar:=iE h.ok he;obtain⟨i,hi,ad⟩:=hD e he hr hl (by omega);rw[<-J,ad];exact get_mem hi
 obtain⟨c1,c2,c3⟩:=zZ (dY S S.T.lits.reverse [tv a] [a]) us [] [] (fun x J=>by cases J) (fun x J=>by cases J) List.Pairwise.nil;have hc:(S.Af a us).core=iU (dY S S.T.lits.reverse [tv a] [a]) us []:=by show iU _ us S.core=_;rw[iT]
 refine⟨fun a' hg gZ=> ?_,fun u hu=> ?_,?_⟩
 ·have hg:S.Good a':=hg;have ab:∀m∈dY S S.T.lits.reverse [tv a] [a],jD a' m:=fun m hm=>gZ m (by rw[hc];exact c2 m (mO m hm) hm);obtain⟨e,he,J⟩:=(val_neg h.ok).1 (by omega:S.val a<0);have ht:=(lx h.ok he J).1;have h1:=b3 a' hg ab e (dX.2 he) (by rw[<-ht];exact ag.2 rfl);rw[J]at h1;exact(jD.neg ZE).1 h1 (ab a (b1 a (ag.2 rfl)))
 ·rw[hc]at hu;exact(c1 u hu).1
 ·rw[hc];exact c3
theorem PU{us:List Int}{S:Sv}{m:Nat}(ok:S.Ok m)(J:As us S)(hD:Dc us S)(hv:S.T.levels.length<us.length->∃e∈S.R,e.x=us[S.T.levels.length]!):As us S.deep/\Dc us S.deep:=by
 refine⟨fun i i1 i2=> ?_,fun e he=>hD e (by rw[te ok]at he;exact he)⟩;rw[ep]at i1;rw[te ok];by_cases h:i<S.T.levels.length
 ·exact J i h i2
 ·have :i=S.T.levels.length:=by omega
  subst this;obtain⟨e,he,hx⟩:=hv i2;have :=(iE ok he).2.2.2;exact⟨e,he,hx,by omega⟩
theorem ss{us:List Int}:∀(f:Nat)(S:Sv),S.Inv->S.head=S.T.lits.length->(∀x∈us,x≠0/\ -(S.vars:Int)<=x/\x<=S.vars)->As us S->Dc us S->S.Hc->S.core=[]->us.length<=f+S.T.levels.length->
  ((bJ us f S).2=0\/(bJ us f S).2=1\/(bJ us f S).2=2)/\Up S (bJ us f S).1/\
  ((bJ us f S).2=0->As us (bJ us f S).1/\Dc us (bJ us f S).1)/\(bJ us f S).1.Hc/\
  ((bJ us f S).2=1->Ye us (bJ us f S).1)/\((bJ us f S).2=2->X7 us (bJ us f S).1)
 |0,S,h,hf,hu,hA,hD,hc,iT,hl=>by
  obtain⟨k1,k2,k3,k5,k4⟩:=uD h hf hA hD hc (by omega);have e:bJ us 0 S=S.choose:=rfl;rw[e];exact⟨k1.elim .inl (fun h=> .inr (.inl h)),k2,k3,k5,fun h=>(k4 h).1,fun h=>by rcases k1 with k1 |k1<;>omega⟩
 |f+1,S,h,hf,hu,hA,hD,hc,iT,hl=>by
  rw[bJ];by_cases hd:S.T.levels.length<us.length
  ·rw[qai hd];have hm:=get_mem (l:=us) hd;have ha:=hu _ hm;simp only;by_cases h1:S.val us[S.T.levels.length]! = -1
   ·rw[qai h1];exact⟨.inr (.inr rfl),⟨⟨[],by rw[cq];rfl,fun e he=>by cases he⟩,rfl,rfl,rfl⟩,fun h=>(by cases h),⟨hc.all,hc.pos⟩,fun h=>(by cases h),fun _=>PY h hD iT hd hm ha.1 h1⟩
   ·rw[qah h1];by_cases h2:S.val us[S.T.levels.length]! =0
    ·rw[qai h2];obtain⟨q1,q2⟩:=h.choice hf ha.1 ha.2.1 ha.2.2 h2;refine⟨.inl rfl,⟨⟨_,q2,fun e he=>by rw[ag.1 he];show(1:Int)<=((S.T.levels.length+1:Nat):Int);omega⟩,rfl,rfl,rfl⟩,fun _=>⟨fun i i1 i2=> ?_,fun e he h0 l1 l2=> ?_⟩,?_,fun h=>(by cases h),fun h=>(by cases h)⟩
     ·rw[ee,ep]at i1;by_cases hi:i<S.T.levels.length
      ·obtain⟨e,he,hx⟩:=hA i hi i2;exact⟨e,by rw[q2];exact av _ he,hx⟩
      ·have :i=S.T.levels.length:=(by omega)
       subst this;exact⟨⟨us[S.T.levels.length]!,(S.T.levels.length+1:Nat),0⟩,by rw[q2];simp,rfl,by show((S.T.levels.length+1:Nat):Int)<=_;omega⟩
     ·rw[q2]at he;rcases ah.1 he with J |J
      ·exact hD e J h0 l1 l2
      ·rw[ag.1 J];exact⟨_,hd,rfl⟩
     ·exact hc.mono h.ok q1.ok rfl (fun y=>Iff.rfl) (fun e he=>by rw[q2];exact av _ he)
    ·rw[qah h2];have ad:∃e∈S.R,e.x=us[S.T.levels.length]! :=by
      rcases jE h.ok us[S.T.levels.length]! with J |J |J
      ·exact absurd J h2
      ·exact(gR h.ok _).1 (by rw[J];decide)
      ·exact absurd J h1
     obtain⟨d1,d2⟩:=PU h.ok hA hD (fun _=>ad);have ab:=te h.ok;have ar:S.deep.Hc:=hc.mono h.ok h.ok.deep rfl (fun y=>Iff.rfl) (fun e he=>by rw[ab];exact he);obtain⟨i1,i2,i3,i4,i5,i6⟩:=ss f S.deep (h.deep hf) hf hu d1 d2 ar iT (by rw[ep];omega);obtain⟨Z,hZ,hz⟩:=i2.R;exact⟨i1,⟨⟨Z,by rw[hZ,ab],hz⟩,i2.list,i2.bad,i2.vars⟩,i3,i4,i5,i6⟩
  ·rw[qah hd];obtain⟨k1,k2,k3,k5,k4⟩:=uD h hf hA hD hc (by omega);exact⟨k1.elim .inl (fun h=> .inr (.inl h)),k2,k3,k5,fun h=>(k4 h).1,fun h=>by rcases k1 with k1 |k1<;>omega⟩
end Sv
theorem uC{xs:List Int}:∀k,k<=xs.length->∀j,j<k->xs[j]! ∈ix xs k
 |0,_,j,h=>absurd h (aD _)
 |k+1,hk,j,h=>by
  rw[ix];by_cases hc:k=0\/xs[k]! ≠xs[k-1]!
  ·rw[qai hc];by_cases e:j=k
   ·rw[e];simp
   ·exact av _ (uC k (by omega) j (by omega))
  ·rw[qah hc];by_cases e:j=k
   ·have J:k≠0:=fun e=>hc (.inl e);have h1:xs[k]! =xs[k-1]! :=Classical.byContradiction fun e=>hc (.inr e);rw[e,h1];exact uC k (by omega) (k-1) (by omega)
   ·exact uC k (by omega) j (by omega)
theorem Wj{l:List Int}{x:Int}(h:x∈l)(J:x≠0):x∈nrm l:=by have h1:x∈lE (l.filter fun x=> !(x==0)):=List.mem_mergeSort.2 (gh.2 ⟨h,by simpa using J⟩);obtain⟨i,hi,hg⟩:=List.getElem_of_mem h1;have :=uC (xs:=lE (l.filter fun x=> !(x==0))) _ (aq _) i hi;rw[rV hi,hg]at this;exact this
theorem Rn{J:List Int}{v:Nat}(hr:∀x∈J,x≠0/\ -(v:Int)<=x/\x<=v)(hv:v<=262143)(h:se J=true)(a:Nat->Bool):eX a J:=by
 unfold se at h;rw[cP]at h;obtain⟨j,hj,ht⟩:=h;rw[bl]at hj;unfold nE at ht;have m1:=get_mem (l:=J) (i:=j) (by omega);have m2:=get_mem (l:=J) (i:=j+1) (by omega);have r2:=hr _ m2;have :wrap64 (-(J[j+1]!))= -(J[j+1]!):=by unfold wrap64;omega
 rw[this]at ht;have ht:J[j]! = -(J[j+1]!):=by simpa using ht
 by_cases hc:jD a J[j+1]!
 ·exact⟨_,m2,hc⟩
 ·exact⟨_,m1,by rw[ht];exact(jD.neg r2.1).2 hc⟩
namespace Sv
theorem cX.new(vars:Int):(Sv.new vars).cX fun _=>True:=by have hR:(Sv.new vars).R=[]:=rfl;have J:∀n,(Sv.new vars).rc n=⟨[],false,0⟩:=fun n=>o6 (aU _);exact⟨fun a _=>⟨fun n hn=>absurd (by rw[J]) hn,fun e he=>by rw[hR]at he;cases he⟩,fun h=>(by cases h),fun _ a _=>trivial⟩
theorem cX.a7{S:Sv}{F:(Nat->Bool)->Prop}(h:S.cX F):S.a7.cX F:=h.congr rfl rfl rfl
theorem cX.cW{S:Sv}{F:(Nat->Bool)->Prop}(h:S.cX F):S.cW.cX F:=h.congr rfl rfl rfl
theorem cX.iD{S:Sv}{F:(Nat->Bool)->Prop}(h:S.cX F)(hi:S.Inv){out:List Int}(h1:out.length<=1048576)(hl:∀x∈out,x≠0/\ -(S.vars:Int)<=x/\x<=S.vars)(hd:(out.map tv).Nodup)(hv:∀x∈out,S.val x=0)(hr:S.list.length<2199023255552)(h0:S.T.levels.length=0)
  {G:(Nat->Bool)->Prop} (hG:∀a,F a->(G a↔eX a out)):(S.iD out).cX fun a=>F a/\G a:=by
 unfold Sv.iD;by_cases e0:out.length=0
 ·rw[qai e0];have hn:out=[]:=aX e0;have tk:∀a,¬(F a/\G a):=fun a ⟨hf,hg⟩=>by obtain⟨y,hy,_⟩:=(hG a hf).1 hg;rw[hn]at hy;cases hy
  exact⟨fun a J=>absurd J (tk a),fun _=>tk,fun h=>by cases h⟩
 ·rw[qah e0];have hm:=get_mem (l:=out) (i:=0) (by omega);by_cases e1:out.length=1
  ·rw[qai e1];obtain⟨y,hy⟩:∃y,out=[y]:=by
    match out,e1 with
    |[y],_=>exact⟨y,rfl⟩
   have ht:=tH (hl _ hm).1 (hl _ hm).2.1 (hl _ hm).2.2 hi.ok.vl;have hR:=sA (r:=0) hi.ok (lK hi.ok ht.1 ht.2 (hv _ hm));rw[h0]at hR;have lf:out[0]! =y:=by rw[hy];rfl
   rw[lf]at hR⊢;have hs:∀a,eX a out↔jD a y:=fun a=>by rw[hy];exact⟨fun⟨z,hz,ab⟩=>by rw[ag.1 hz]at ab;exact ab,fun h=>⟨y,ag.2 rfl,h⟩⟩
   refine⟨fun a ⟨J,hg⟩=> ?_,fun hb a J=>h.bad hb a J.1,fun hb a J=> ?_⟩
   ·have rA:=h.sound a J;refine⟨rA.1,fun e he uZ=> ?_⟩;rw[hR]at he;rcases ah.1 he with h3 |h3
    ·exact rA.2 e h3 uZ
    ·rw[ag.1 h3];exact(hs a).1 ((hG a J).1 hg)
   ·have hf:F a:=h.full hb a ⟨J.1,fun e he uZ=>J.2 e (by rw[hR];exact av _ he) uZ⟩;refine⟨hf,(hG a hf).2 ((hs a).2 ?_)⟩;exact J.2 ⟨y,((0:Nat):Int),0⟩ (by rw[hR];simp) rfl
  ·rw[qah e1];obtain⟨k1,k2,k3⟩:=hi.attach ⟨by omega,h1,hl⟩ hd false hr;have AE:=du S out false;have hR:(S.attach out false).R=S.R:=ew AE.1;have dV:out≠[]:=fun e=>e0 (by rw[e];rfl);have Ty:(S.attach out false).bad=S.bad:=rfl;refine⟨fun a ⟨J,hg⟩=> ?_,fun hb a J=>h.bad hb a J.1,fun hb a J=> ?_⟩
   ·have rA:=h.sound a J;refine⟨fun n hn=> ?_,fun e he uZ=>rA.2 e (hR▸he) uZ⟩;by_cases e:n=S.list.length
    ·rw[e,k2];exact(hG a J).1 hg
    ·rw[k3 n e]at hn⊢;exact rA.1 n hn
   ·have hf:F a:=h.full hb a ⟨fun n n1 n2=> ?_,fun e he uZ=>J.2 e (by rw[hR];exact he) uZ⟩
    ·refine⟨hf,(hG a hf).2 ?_⟩;have :=J.1 S.list.length (by rw[k2]) (by rw[k2];exact dV);rw[k2]at this;exact this
    ·have Bg:n≠S.list.length:=fun e=>by have :=ru n2;omega
     have :=J.1 n (by rw[k3 n Bg];exact n1) (by rw[k3 n Bg];exact n2);rw[k3 n Bg]at this;exact this
theorem cX.fD{S:Sv}{F:(Nat->Bool)->Prop}(h:S.cX F)(hi:S.Inv)(h0:S.T.levels.length=0){l:List Int}(kQ:Ra l)(hr:S.list.length<2199023255552)(hc:lX S.vars l=0):(S.fD l).1.cX fun a=>F a/\eX a l:=by
 have vM:=uE kQ hc;have ab:∀x∈nrm l,x≠0/\ -(S.vars:Int)<=x/\x<=S.vars:=fun x hx=>vM.2 x (o8 hx).1;have Nl:∀a,eX a (nrm l)↔eX a l:=fun a=>⟨fun⟨y,hy,ht⟩=>⟨y,(o8 hy).1,ht⟩,fun⟨y,hy,ht⟩=>⟨y,Wj hy (vM.2 y hy).1,ht⟩⟩
 unfold Sv.fD;rw[qai hc];by_cases hs:S.oe (nrm l)=true
 ·rw[qai hs];simp only;by_cases hb:S.bad=true
  ·exact⟨fun a J=>absurd J.1 (h.bad hb a),fun _ a J=>h.bad hb a J.1,fun kZ=>by have kZ:S.bad=false:=kZ;rw[hb]at kZ;cases kZ⟩
  ·have gZ:∀a,S.Vc a->eX a l:=fun a J=>by
    rw[<-Nl];unfold oe at hs;rw[dI]at hs;rcases hs with hs |hs
    ·exact Rn ab hi.ok.vl hs a
    ·rw[cP]at hs;obtain⟨x,hx,hp⟩:=hs;obtain⟨e,he,hex⟩:=(gR hi.ok x).1 (by simpa using hp);have ad:=iE hi.ok he;have :=J.2 e he (by omega);rw[hex]at this;exact⟨x,hx,this⟩
   exact⟨fun a J=>h.a7.sound a J.1,fun kZ=>absurd kZ hb,fun kZ a J=>⟨h.a7.full kZ a J,gZ a J⟩⟩
 ·rw[qah hs];simp only;obtain⟨g1,g2⟩:=qD (S:=S) kQ hc;have hs:S.oe (nrm l)=false:=by simpa using hs
  unfold oe at hs;rw[dw]at hs;have hd:=za (l:=l) (v:=S.vars) (fun x hx=>(ab x hx).2) hi.ok.vl hs.1;refine h.a7.iD hi.a7 (by omega) g2 ?_ (fun x hx=> ?_) hr h0 (fun a J=> ?_)
  ·unfold leftOf;exact hd.sublist (List.Sublist.map tv (List.filter_sublist))
  ·unfold leftOf at hx;rw[gh]at hx;have h3:¬S.val x<0:=by simpa using hx.2
   have h4:¬0<S.val x:=fun h5=>by have :(nrm l).any (fun x=>decide (0<S.val x))=true:=cP.2 ⟨x,hx.1,by simpa using h5⟩;rw[this]at hs;cases hs.2
   show S.val x=0;omega
  ·rw[<-Nl];constructor
   ·rintro⟨y,hy,ht⟩;refine⟨y,?_,ht⟩;unfold leftOf;rw[gh];refine⟨hy,?_⟩;have :¬S.val y<0:=fun zv=>by obtain⟨e,he,hx⟩:=(val_neg hi.ok).1 zv;have ad:=iE hi.ok he;have :=(h.sound a J).2 e he (by omega);rw[hx]at this;exact(jD.neg (ab y hy).1).1 this ht
    simpa using this
   ·rintro⟨y,hy,ht⟩;unfold leftOf at hy;exact⟨y,(gh.1 hy).1,ht⟩
end Sv
namespace Sv
theorem Inv.cU{S:Sv}(h:S.Inv){n:Nat}(hr:∀e∈S.R,e.r≠(n:Int)+1):(S.cU n).Inv:=by
 have ok:=h.ok.cU n;have fJ:∀j,j≠n->(S.cU n).rc j=S.rc j:=fun j J=>by rw[jb,qah (fun e=>J e.1.symm)]
 have dV:∀j,((S.cU n).rc j).lits≠[]->j≠n:=fun j J e=>by
  subst e;rw[jb]at J;split at J
  ·exact J rfl
  ·rename_i hh;have :¬j<S.list.length:=fun e=>hh ⟨rfl,e⟩;exact J (by rw[o6 (by omega)])
 refine⟨ok,fun j=> ?_,fun A e B h1 h2=> ?_,h.dec,h.hd,⟨h.wi.nd,fun c j J hl=> ?_,fun j hl=> ?_⟩,fun j hl e he=> ?_⟩
 ·by_cases e:j=n
  ·by_cases hl:((S.cU n).rc j).lits=[]
   ·rw[hl];exact List.nodup_nil
   ·exact absurd e (dV j hl)
  ·rw[fJ j e];exact h.lT j
 ·obtain⟨k,hk,ls,oP,gZ⟩:=h.wu A e B h1 h2;have iS:k≠n:=fun ek=>by have :=hr e (by rw[show S.R=A++e::B from h1];simp);rw[hk,ek]at this;exact this rfl
  exact⟨k,hk,ls,by rw[fJ k iS];exact oP,gZ⟩
 ·have :=dV j hl;rw[fJ j this]at hl⊢;exact h.wi.wd c j J hl
 ·have :=dV j hl;rw[fJ j this]at hl⊢;exact h.wi.wc j hl
 ·have :=dV j hl;rw[fJ j this]at hl⊢;exact h.wt j hl e he
theorem JS{S:Sv}(h:S.Inv){n:Nat}(hl:S.locked n=false):∀e∈S.R,e.r≠(n:Int)+1:=fun e he hr=>by
 obtain⟨A,B,hR⟩:=List.append_of_mem he;obtain⟨k,hk,ls,oP,_⟩:=h.wu A e B hR (by omega);have iS:k=n:=by omega
 subst iS;have J:(S.rc k).lits[0]! =e.x:=by rw[oP];rfl
 have :S.locked k=true:=by unfold locked;rw[J,(mB h.ok he).2,hr];simp only[decide_true,Bool.and_true,qam];exact(gR h.ok _).2 ⟨e,he,rfl⟩
 rw[this]at hl;cases hl
theorem zQ:∀(D:List Nat)(S:Sv),S.Inv->D.Nodup->(∀n∈D,(∀e∈S.R,e.r≠(n:Int)+1)/\(S.rc n).nI=true)->
  (D.foldl cU S).Inv/\(D.foldl cU S).T=S.T/\(D.foldl cU S).H=S.H/\(D.foldl cU S).head=S.head/\∀F:(Nat->Bool)->Prop,S.cX F->(D.foldl cU S).cX F
 |[],S,h,_,_=>⟨h,rfl,rfl,rfl,fun F hk=>hk⟩
 |n::r,S,h,J,hd=>by rw[kg]at J;obtain⟨h1,h2⟩:=hd n bM;obtain⟨i1,i2,i3,i4,i5⟩:=zQ r (S.cU n) (h.cU h1) J.2 (fun m hm=>by obtain⟨g1,g2⟩:=hd m (bU _ hm);refine⟨g1,?_⟩;have ab:¬(n=m/\n<S.list.length):=fun e=>J.1 (e.1▸hm);rw[jb,qah ab];exact g2);exact⟨i1,i2,i3,i4,fun F hk=>i5 F (hk.cU h2)⟩
theorem RL{S S':Sv}(h:S.Inv)(hr:Qc S S'):S'.Inv/\S'.T=S.T/\S'.H=S.H/\S'.head=S.head/\∀F:(Nat->Bool)->Prop,S.cX F->S'.cX F:=by obtain⟨D,h1,J,h3,rfl⟩:=hr;exact zQ D S h h1 (fun n hn=>by obtain⟨_,k2,_,k4⟩:=MB (J n hn);exact⟨JS h k4,k2⟩)
end Sv
namespace Sv
theorem qu:∀(f:Nat)(S:Sv),(dg f S).1.bump=S.bump/\(dg f S).1.has=S.has
 |0,S=>⟨rfl,rfl⟩
 |f+1,S=>by
  rw[dg];split
  ·exact⟨rfl,rfl⟩
  ·simp only;split
   ·exact qu f _
   ·exact⟨rfl,rfl⟩
theorem lW(S:Sv):S.choose.1.bump=S.bump/\S.choose.2≠2:=by
 unfold choose;split
 ·exact⟨(qu _ S).1,show(1:Int)≠2 by decide⟩
 ·exact⟨(qu _ S).1,show(0:Int)≠2 by decide⟩
theorem su(us:List Int):∀(f:Nat)(S:Sv),(bJ us f S).1.bump=S.bump/\((bJ us f S).2=2->(bJ us f S).1.has=S.has)/\((bJ us f S).2≠2->(bJ us f S).1.core=S.core)
 |0,S=>⟨(lW S).1,fun h=>absurd h (lW S).2,fun _=>(iz S).1⟩
 |f+1,S=>by
  rw[bJ];split
  ·simp only;split
   ·exact⟨rfl,fun _=>rfl,fun h=>absurd rfl h⟩
   ·split
    ·exact⟨rfl,fun h=>(by cases h),fun _=>rfl⟩
    ·exact su us f S.deep
  ·exact⟨(lW S).1,fun h=>absurd h (lW S).2,fun _=>(iz S).1⟩
theorem zP:∀(D:List Nat)(S:Sv),(D.foldl cU S).used=S.used/\(D.foldl cU S).bump=S.bump/\(D.foldl cU S).has=S.has/\(D.foldl cU S).bad=S.bad
 |[],S=>⟨rfl,rfl,rfl,rfl⟩
 |n::r,S=>zP r (S.cU n)
def Ans(us:List Int)(F:(Nat->Bool)->Prop)(vars:Nat)(S:Sv)(r:Int):Prop:=
 (r=1/\S.has=true/\S.core=[]/\S.model.length=vars+1/\∀a:Nat->Bool,(∀v,1<=v->v<=vars->a v=S.model[v]!)->F a/\∀u∈us,jD a u)\/
 (r=2/\S.has=false/\(∀a,F a->¬∀u∈S.core,jD a u)/\(∀u∈S.core,u∈us)/\S.core.Pairwise (fun x y=>us.idxOf x<us.idxOf y))
theorem JR{vars:Nat}{x:Int}(hv:vars<=262143)(J:x≠0)(h1: -(vars:Int)<=x)(h2:x<=vars):jW vars x=false:=by have :=tH J h1 h2 hv;unfold jW;simp only[dw,decide_eq_false_iff_not];omega
end Sv
namespace Sv
def Lw(u:Nat)(T:Tr):Prop:=(∀i:Nat,i<T.levels.length->(i:Int)<=u+T.levels[i]!)/\(T.levels.length:Int)<=u+T.lits.length
theorem Lw.mono{u:Nat}{T J:Tr}(h:Lw u T)(h1:J.levels=T.levels)(h2:T.lits.length<=J.lits.length):Lw u J:=⟨by rw[h1];exact h.1,by rw[h1];have :=h.2;omega⟩
theorem Lw.dz{u:Nat}{T:Tr}(h:Lw u T)(m:Nat):Lw u (T.dz m):=by
 unfold Tr.dz;split
 ·rename_i hm;have hl:(T.levels.take m).length=m:=by rw[bz];omega
  refine⟨fun i hi=> ?_,?_⟩
  ·have hi:i<(T.levels.take m).length:=hi;rw[hl]at hi;have :=h.1 i (by omega);have e:(T.levels.take m)[i]! =T.levels[i]! :=by simp only[aa,List.getElem?_take];rw[qai hi]
   show(i:Int)<=u+(T.levels.take m)[i]!;rw[e];exact this
  ·show((T.levels.take m).length:Int)<=u+((T.lits.take (T.levels[m]!).toNat).length:Nat);rw[hl,bz];have h1:=h.1 m hm;have J:=h.2;omega
 ·exact h
theorem Lw.back{u:Nat}{S:Sv}(h:Lw u S.T){m:Nat}(ok:S.Ok m)(level:Nat):Lw u (S.back level).T:=by
 unfold Sv.back;split
 ·exact h
 ·show Lw u ((eI level S.T.lits.reverse S).T.dz level);rw[(kJ (level:Int) S.T.lits.reverse S m ok).2.1];exact h.dz level
theorem NY(level:Int):∀(r:List Int)(S:Sv),(eI level r S).T=S.T
 |[],S=>rfl
 |l::r,S=>by
  rw[eI];split
  ·rfl
  ·exact NY level r _
theorem OK{u:Nat}{B:Sv}(h:Lw u B.T)(l:List Int):Lw u (B.bQ l).cZ.T:=by
 have key:(B.bQ l).cZ.T.levels=B.T.levels/\B.T.lits.length<=(B.bQ l).cZ.T.lits.length:=by
  unfold bQ;split
  ·exact⟨ee B _ _,yX B _ _⟩
  ·have hs:=(du B l true).1;refine⟨(ee (B.attach l true) _ _).trans (aaa (fun T:Tr=>T.levels) hs),?_⟩;have :=yX (B.attach l true) l[0]! ((B.list.length:Int)+1);have e:(B.attach l true).T.lits=B.T.lits:=aaa (fun T:Tr=>T.lits) hs;rw[e]at this;exact this
 exact h.mono key.1 key.2
theorem MY:∀(f:Nat)(S:Sv),(dg f S).1.T=S.T
 |0,S=>rfl
 |f+1,S=>by
  rw[dg];split
  ·rfl
  ·simp only;split
   ·exact MY f _
   ·rfl
theorem z8(S:Sv)(h:S.choose.2=0):S.choose.1.T.levels=S.T.levels++[(S.T.lits.length:Int)]:=by
 have hp:S.pick.1.T=S.T:=MY _ S;unfold choose at h⊢;by_cases J:S.pick.2=0
 ·rw[qai J]at h;cases h
 ·rw[qah J];show(S.pick.1.deep.put S.pick.2 0).T.levels=_;rw[ee];show S.pick.1.T.levels++[(S.pick.1.T.lits.length:Int)]=_;rw[hp]
theorem xb(us:List Int):∀(f:Nat)(S:Sv),(bJ us f S).2=0->∃k:Nat,(bJ us f S).1.T.levels=S.T.levels++List.replicate k (S.T.lits.length:Int)/\S.T.levels.length+k<=max us.length S.T.levels.length+1
 |0,S,h=>⟨1,z8 S h,by omega⟩
 |f+1,S,h=>by
  rw[bJ]at h⊢;split at h
  ·rename_i hd;rw[qai hd];simp only at h⊢;split at h
   ·cases h
   ·rename_i h1;rw[qah h1];split at h
    ·rename_i J;rw[qai J];refine⟨1,?_,by omega⟩;show(S.deep.put _ 0).T.levels=_;rw[ee];rfl
    ·rename_i J;rw[qah J];obtain⟨k,k1,k2⟩:=xb us f S.deep h;refine⟨k+1,?_,?_⟩
     ·rw[k1];show(S.T.levels++[(S.T.lits.length:Int)])++List.replicate k (S.T.lits.length:Int)=_;rw[dB];rfl
     ·rw[ep]at k2;omega
  ·rename_i hd;rw[qah hd];exact⟨1,z8 S h,by omega⟩
theorem PV{us:List Int}{S:Sv}(h:Lw us.length S.T)(hq:(S.aP us).2=0)(hl:(S.aP us).1.T.lits.length=S.T.lits.length+1):Lw us.length (S.aP us).1.T:=by
 obtain⟨k,J,k2⟩:=xb us (us.length+1) S hq
 change (S.aP us).1.T.levels=_ at J
 have h2:=h.2;refine⟨fun i hi=> ?_,?_⟩
 ·rw[J]at hi⊢;rw[an,a8]at hi;by_cases oQ:i<S.T.levels.length
  ·have e:(S.T.levels++List.replicate k (S.T.lits.length:Int))[i]! =S.T.levels[i]! :=by simp only[aa,cV oQ]
   rw[e];exact h.1 i oQ
  ·have e:(S.T.levels++List.replicate k (S.T.lits.length:Int))[i]! =(S.T.lits.length:Int):=by simp only[aa,bX (by omega:S.T.levels.length<=i),List.getElem?_replicate];rw[qai (by omega)];rfl
   rw[e];omega
 ·rw[J,an,a8,hl];omega
structure Gx(us:List Int)(F:(Nat->Bool)->Prop)(vars U V c:Nat)(S:Sv):Prop where
 inv:S.Inv
 hc:S.Hc
 kn:S.cX F
 as_:As us S
 dc:Dc us S
 mb: -(V:Int)<=S.many/\S.many+c<=V
 vars:S.vars=vars
 core:S.core=[]
 has:S.has=false
 used:S.used+c<=U
 list:S.list.length+c<=V
 bump:S.bump<=1073741824
 lim:S.cv<=401+V+V/16
 bad:S.bad=false
 lw:Lw us.length S.T
structure Tx(us:List Int)(F:(Nat->Bool)->Prop)(vars U V:Nat)(S:Sv)(r:Int):Prop where
 inv:S.Inv
 hc:S.Hc
 kn:S.cX F
 mb: -(V:Int)<=S.many/\S.many<=V
 vars:S.vars=vars
 used:S.used<=U
 list:S.list.length<=V
 bump:S.bump<=1073741824
 lim:S.cv<=401+V+V/16
 core:S.core.length<=us.length
 ans:(r=0/\S.has=false)\/(r=1/\Ye us S/\S.core=[]/\S.bad=false)\/(r=2/\S.has=false/\(X7 us S\/(S.core=[]/\∀a,¬F a)))
theorem Gx.small{us:List Int}{F:(Nat->Bool)->Prop}{vars U V c:Nat}{S:Sv}(h:Gx us F vars U V c S)(hU:U<=2199023255000)(hV:V<=1200000000000)(J:us.length<=1099511627776):S.Small:=by have h1:=h.used;have h2:=h.list;have h3:=h.mb;have h5:=h.lim;have h6:=h.lw.2;have h7:=Ea h.inv.ok;have h8:=h.inv.ok.vl;exact⟨by omega,by omega,h.bump,by omega,by omega,by omega,by omega,h.core⟩
theorem Gx.cW{us:List Int}{F:(Nat->Bool)->Prop}{vars U V c:Nat}{S:Sv}(h:Gx us F vars U V (c+1) S):Gx us F vars U V c S.cW:=
 ⟨h.inv.cW,⟨h.hc.all,h.hc.pos⟩,h.kn.cW,h.as_,h.dc,by have :=h.mb;show -(V:Int)<=S.many/\S.many+(c:Int)<=V;omega,h.vars,h.core,h.has,by have :=h.used;show S.used+1+c<=_;omega,by have :=h.list;show S.list.length+c<=_;omega,h.bump,h.lim,h.bad,h.lw⟩
theorem Gx.back{us:List Int}{F:(Nat->Bool)->Prop}{vars U V c:Nat}{S:Sv}(h:Gx us F vars U V c S)(level:Nat):Gx us F vars U V c (S.back level):=by have ok:=h.inv.ok;have J:=mh S level;have hk:=ok.back level;exact⟨h.inv.back level,h.hc.back ok level,h.kn.back h.inv level,h.as_.back ok level,h.dc.back ok level,by rw[J.2.2.1];exact h.mb,hk.2.1.trans h.vars,J.1.trans h.core,(Aj S level).1.trans h.has,by rw[J.2.1];exact h.used,by rw[hk.2.2];exact h.list,by rw[J.2.2.2.2.2.2];exact h.bump,by rw[J.2.2.2.1];exact h.lim,J.2.2.2.2.1.trans h.bad,h.lw.back ok level⟩
theorem Gx.follow{us:List Int}{F:(Nat->Bool)->Prop}{vars U V c:Nat}{S:Sv}(h:Gx us F vars U V c S):Gx us F vars U V c S.follow.1:=by
 obtain⟨f1,f2,f3,f4⟩:=xa h.inv;have Zp:=(Ok.follow h.inv.ok).2.1;have pP:=Zp;unfold Sv.rest at pP;simp only[Prod.mk.injEq]at pP;obtain⟨r1,r2,r3,r4,r5,r6,r7,r8,r9,J,ad,ab,ar⟩:=pP;obtain⟨Z,hZ,_⟩:=f2.pre;have Ct:S.T.lits.length<=S.follow.1.T.lits.length:=by rw[<-ko,<-ko,hZ];simp
 exact⟨f1,h.hc.rest h.inv.ok f1.ok f2 Zp,h.kn.mo f2 f1 J,h.as_.mo f2 (by rw[ab]),h.dc.mo f2,by rw[r8];exact h.mb,r2.trans h.vars,r5.trans h.core,ad.trans h.has,by rw[r6];exact h.used,by rw[ar];exact h.list,by rw[r7];exact h.bump,by rw[r9];exact h.lim,J.trans h.bad,h.lw.mono ab Ct⟩
theorem Gx.conflict{us:List Int}{F:(Nat->Bool)->Prop}{vars U V c:Nat}{S:Sv}(h:Gx us F vars U V (c+1) S)(hV:V<=1200000000000){n:Nat}(hc:S.Of n)(hn:(S.rc n).lits≠[])(hd:0<S.T.levels.length):
  ∃S2,S.cW.conflict n=some (S2,true)/\Gx us F vars U V c S2:=by
 have h1:=h.cW;have hl:S.cW.list.length<2199023255552:=by have :=h1.list;omega
 obtain⟨S2,l,db,c1,c2,c3,J,S1,c5,c6⟩:=Bw h1.inv (n:=n) hc hn hl hd;obtain⟨a1,a2⟩:=Bx h1.inv h1.as_ h1.dc (n:=n) hc hn hd c2;have ad:S2.has=false:=by rw[c6,J5,(Aj S1 db.toNat).1];have :S1.has=S.cW.has:=aaa (fun x=>x.2.2.2.2.2.2.2.2.2.2.2.2.1) c5;rw[this];exact h.has
 have ab:S1.T=S.T:=aaa (fun x=>x.1) c5;have ar:Lw us.length S2.T:=by
  rw[c6];refine OK ?_ l;unfold Sv.back;split
  ·rw[ab];exact h.lw
  ·show Lw us.length ((eI db.toNat S1.T.lits.reverse S1).T.dz db.toNat);rw[NY,ab];exact h.lw.dz _
 refine⟨S2,c2,⟨c3,h1.hc.conflict h1.inv (n:=n) hc hn hl hd c2,h1.kn.conflict h1.inv (n:=n) hc hn hl hd c2,a1,a2,by have :=h.mb;have e1:=J.M5;have e2:=J.many1;have e:S.cW.many=S.many:=rfl;omega,J.vars.trans h.vars,J.core.trans h.core,ad,?_,?_,J.bump,by rw[J.cv];exact h.lim,J.bad.trans h.bad,ar⟩⟩
 ·have :=h.used;rw[J.used];show S.used+1+c<=U;omega
 ·have :=h.list;have :=J.Y9;have e:S.cW.list.length=S.list.length:=rfl;omega
theorem Gx.aan{us:List Int}{F:(Nat->Bool)->Prop}{vars U V c:Nat}{S:Sv}(h:Gx us F vars U V (c+1) S){n:Nat}(hc:S.Of n)(J:(S.rc n).lits≠[])(hd:S.T.levels.length=0):
  S.cW.conflict n=some ({ S.cW with bad:=true },false)/\Tx us F vars U V { S.cW with bad:=true } 2:=by
 have h1:=h.cW;refine⟨by unfold Sv.conflict;rw[qai (show S.cW.T.levels.length=0 from hd)],⟨h1.inv.congr (h1.inv.ok.DE true) rfl rfl (fun _=>rfl) rfl,⟨h.hc.all,h.hc.pos⟩,h1.kn.zero h1.inv (n:=n) hc J hd,by have :=h.mb;show -(V:Int)<=S.many/\S.many<=V;omega,h.vars,by have :=h1.used;show S.used+1<=U;have e:S.cW.used=S.used+1:=rfl;omega,by have :=h.list;show S.list.length<=V;omega,h.bump,h.lim,by show S.core.length<=_;rw[h.core];exact aU _, .inr (.inr ⟨rfl,h.has, .inr ⟨h.core,fun a ha=>(h.kn.sound a ha).IE h.inv hc J hd⟩⟩)⟩⟩
theorem Gx.stop{us:List Int}{F:(Nat->Bool)->Prop}{vars U V c:Nat}{S:Sv}(h:Gx us F vars U V c S):Tx us F vars U V S 0:=
 ⟨h.inv,h.hc,h.kn,by have :=h.mb;omega,h.vars,by have :=h.used;omega,by have :=h.list;omega,h.bump,h.lim,by rw[h.core];exact aU _, .inl ⟨rfl,h.has⟩⟩
theorem Gx.red{us:List Int}{F:(Nat->Bool)->Prop}{vars U V c:Nat}{S:Sv}(h:Gx us F vars U V c S)(rQ:(S.cv:Int)<S.many){S':Sv}(hr:Qc S S'):Gx us F vars U V c S'.gT/\S'.gT.T=S.T/\S'.gT.head=S.head:=by
 obtain⟨k1,J,k3,k4,k5⟩:=RL h.inv hr;obtain⟨D,d1,d2,d3,rfl⟩:=hr;have hs:=mL D S;have hm:=zP D S;have hI:(D.foldl cU S).gT.Inv:=k1.congr k1.ok.gT rfl rfl (fun _=>rfl) rfl;have pI:=h.mb;have ab:=h.list;have hD:D.length<=S.list.length:=by have h1:=List.length_filter_le (fun n=>(S.rc n).nI&&decide (2<(S.rc n).lits.length)&& !S.locked n) (List.range S.list.length);rw[de]at h1;have h2:S.De.length<=S.list.length:=h1;have h3:=d3;omega
 refine⟨⟨hI,h.hc.mono h.inv.ok hI.ok hs.2.1 (fun y=>by show y∈(D.foldl cU S).H.items↔_;rw[k3]) (fun e he=>by rw[ew (show(D.foldl cU S).gT.T=S.T from J)];exact he),(k5 F h.kn).congr rfl rfl rfl,h.as_.congr J,h.dc.congr J,by show _<=(D.foldl cU S).many/\(D.foldl cU S).many+_<=_;rw[hs.2.2.2.2.2];omega,hs.2.1.trans h.vars,hs.2.2.2.1.trans h.core,hm.2.2.1.trans h.has,?_,?_,?_,?_,hm.2.2.2.trans h.bad,by show Lw us.length (D.foldl cU S).T;rw[J];exact h.lw⟩,J,k4⟩
 ·show(D.foldl cU S).used+_<=U;rw[hm.1];exact h.used
 ·show(D.foldl cU S).list.length+_<=V;rw[hs.2.2.1];exact h.list
 ·show(D.foldl cU S).bump<=_;rw[hm.2.1];exact h.bump
 ·show(D.foldl cU S).cv+((D.foldl cU S).cv/16+1)<=_;rw[hs.2.2.2.2.1];omega
theorem Gx.decide{us:List Int}{F:(Nat->Bool)->Prop}{vars U V c:Nat}{S:Sv}(h:Gx us F vars U V c S)(hf:S.head=S.T.lits.length)(hu:∀y∈us,y≠0/\ -(vars:Int)<=y/\y<=vars):
  ((S.aP us).2=0->Gx us F vars U V c (S.aP us).1/\(S.aP us).1.T.lits.length=S.T.lits.length+1)/\
  ((S.aP us).2≠0->Tx us F vars U V (S.aP us).1 (S.aP us).2):=by
 have Jb:∀y∈us,y≠0/\ -(S.vars:Int)<=y/\y<=S.vars:=by rw[h.vars];exact hu
 obtain⟨d1,d2⟩:=Il h.inv hf Jb;obtain⟨e1,e2⟩:=xc (us.length+1) S h.inv hf Jb h.has h.core;obtain⟨t1,t2,t3,t4,t5,t6⟩:=ss (us.length+1) S h.inv hf Jb h.as_ h.dc h.hc h.core (by omega);have dk:=Ok.aP h.inv.ok us;have dm:=uB us (us.length+1) S;have J:=su us (us.length+1) S;have dl:(S.aP us).2=0->Lw us.length (S.aP us).1.T:=fun hq=>PV h.lw hq (d2 hq)
 change Fin us (S.aP us).1 at e1
 change (S.aP us).2=0->(S.aP us).1.has=false at e2
 change (S.aP us).2=0\/(S.aP us).2=1\/(S.aP us).2=2 at t1
 change Up S (S.aP us).1 at t2
 change (S.aP us).2=0->As us (S.aP us).1/\Dc us (S.aP us).1 at t3
 change (S.aP us).1.Hc at t4
 change (S.aP us).2=1->Ye us (S.aP us).1 at t5
 change (S.aP us).2=2->X7 us (S.aP us).1 at t6
 change ((S.aP us).2=0->(S.aP us).1.core=S.core)/\(S.aP us).1.used=S.used/\(S.aP us).1.many=S.many/\(S.aP us).1.cv=S.cv/\(S.aP us).1.bad=S.bad at dm
 change (S.aP us).1.bump=S.bump/\((S.aP us).2=2->(S.aP us).1.has=S.has)/\((S.aP us).2≠2->(S.aP us).1.core=S.core)at J
 generalize S.aP us=q at *;have fJ:=o5 t2.list;have QX:=h.mb;rw[<-dm.2.2.1]at QX;have ab:=h.used;have oP:=h.list;refine⟨fun hq=>⟨⟨d1,t4,t2.Za h.kn,(t3 hq).1,(t3 hq).2,QX,t2.vars.trans h.vars,(dm.1 hq).trans h.core,e2 hq,by rw[dm.2.1];omega,by rw[t2.list];omega,by rw[J.1];exact h.bump,by rw[dm.2.2.2.1];exact h.lim,dm.2.2.2.2.trans h.bad,dl hq⟩,d2 hq⟩,fun hq=>⟨d1,t4,t2.Za h.kn,by omega,t2.vars.trans h.vars,by rw[dm.2.1];omega,by rw[t2.list];omega,by rw[J.1];exact h.bump,by rw[dm.2.2.2.1];exact h.lim,e1.core,?_⟩⟩;rcases t1 with h0 |h0 |h0
 ·exact absurd h0 hq
 ·exact .inr (.inl ⟨h0,t5 h0,(J.2.2 (by omega)).trans h.core,dm.2.2.2.2.trans h.bad⟩)
 ·exact .inr (.inr ⟨h0,(J.2.1 h0).trans h.has, .inl (t6 h0)⟩)
end Sv
end Go.Proofs.YtpjbaobgnhjgoaaGreat
