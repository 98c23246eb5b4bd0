/- Parts of a proof. -/
import Derived.Test.YtpjbaobgnhjgoaaGreatGAT
import Derived.RangeFuncNested
import Derived.RangeFuncBound
import Derived.OwnWalkIn
import Derived.TacticsInMore
import Derived.LoopNIn
import Derived.LoopIn
set_option linter.unusedVariables false
set_option linter.unusedSimpArgs false
set_option maxHeartbeats 8000000
set_option maxRecDepth 100000
namespace Go.Proofs.YtpjbaobgnhjgoaaGreat
section
open Go.RowKit
abbrev Pf:=Fin 81×Fin 81
abbrev ahi(x:Pf):Array Value:=#[.int .i64 ((x.1.val:Nat):Int), .int .i64 ((x.2.val:Nat):Int)]
def PJ(a:Nat):Fin 81:=Fin.ofNat 81 a
theorem EH{a:Nat}(h:a<=80):(PJ a).val=a:=by show a%81=a;omega
def nT(b a:Nat):List Pf:=((List.range b).flatMap fun y=>(List.range y).map fun x=>(PJ x,PJ y))++(List.range a).map fun x=>(PJ x,PJ b)
theorem RV(b a:Nat):nT b (a+1)=nT b a++[(PJ a,PJ b)]:=by unfold nT;rw[ju,bE,dB];rfl
theorem Gd(b:Nat):nT (b+1) 0=nT b b:=by unfold nT;rw[ju,List.flatMap_append];simp
theorem DA(b:Nat):(b+1)*(b+1)=b*b+b+b+1:=by rw[Nat.add_mul (b) 1 (b+1),Nat.mul_add b b 1,Nat.one_mul,j9];omega
theorem tZ:∀b a,2*(nT b a).length+b=b*b+2*a
 |0,a=>by simp[nT]
 |b+1,a=>by
  have h1:=tZ b b;have J:(nT (b+1) a).length=(nT (b+1) 0).length+a:=by simp[nT]
  rw[J,Gd,DA];omega
theorem aaz{k b a:Nat}(J:b<=k)(ha:a<b):(nT b a).length<(nT (k+1) 0).length:=by have h1:=tZ b a;have h2:=tZ (k+1) 0;have h3:b*b<=k*b:=Nat.mul_le_mul_right _ J;have h4:k*b<=k*k:=Nat.mul_le_mul_left _ J;rw[DA]at h2;omega
theorem Gi(w:World)(k:Nat):Calls Tryz.prog 93 #[.int .i64 k] w fun e w'=>e= .returned (.func (.func 123) #[] #[.pointer (some ⟨w.heap.size,0,none⟩)])/\w'=w.alloc (.cells #[.int .i64 k] 3):=by go_enter Tryz.func93,Tryz.ntmps93;go_wp2;go_ret;exact⟨rfl,rfl⟩
attribute [local go_sem] Oper.semAt_some
theorem Gh(n:Nat)(hn:1<=n)(Bs k:Nat)(hk:k<=79)(w:World)(ar:Bs<w.heap.size)(hc:w.cell? ⟨Bs,0,none⟩=some (.int .i64 k)):
  SeqStopsA Fence.wide n Tryz.prog 123 #[.pointer (some ⟨Bs,0,none⟩)] ahi (fun xs=>xs=nT (k+1) 0) (fun _=>True) (nT (k+1) 0).length w:=fun l J Jx W hW _ _ hY h0=>by
 have aK:=(hW.cell (p:=⟨Bs,0,none⟩) ar).trans hc;refine callsIn_of_wp Tryz.func123 rfl trivial ?_ rfl;simp only[Tryz.ntmps123,List.size_toArray,b8,List.length_nil,Nat.reduceAdd,Nat.reduceSub,Array.replicate_succ,Array.replicate_zero,List.push_toArray,List.append_toArray,List.nil_append,List.cons_append]
 gi_wp2
 gi_loopw [7] (fun x7 wr=>∃b:Nat,b<=k+1/\x7= .int .i64 b/\J (nT b 0) wr) (fun x7 _=>k+1-(intOf x7).toNat)
 case atStart=>exact⟨0,aU _,rfl,h0⟩
 case round=>
  obtain⟨b,hb,rfl,hJ⟩:=hrel;by_cases bt:b<k+1
  ·have Fs:decide ((b:Int)<(k:Int)+1)=true:=qak (by omega)
   gi_wp2
   gi_loopw [11] (fun uU wq=>∃a:Nat,a<=b/\uU= .int .i64 a/\J (nT b a) wq) (fun uU _=>b-(intOf uU).toNat)
   case atStart=>exact⟨0,aU _,rfl,hJ⟩
   case round=>
    obtain⟨a,ha,rfl,ab⟩:=hrel;by_cases Np:a<b
    ·obtain⟨fn,tmps,assign,body,hy,hR⟩:=hY _ (PJ a,PJ b) _ ab (aaz (by omega) Np);rw[ahi,EH (by omega),EH (by omega)]at hy;have xM:(a:Int)<(b:Int):=by omega
     gi_wp2
     refine hR.mono ?_;rintro e W3 (⟨rfl,aB,-⟩ |⟨rfl,ad⟩)
     ·gi_wp2
      go_roundw
      case rel=>exact⟨a+1,by omega,by simp,by rw[RV];exact aB⟩
      case measure=>simp[intOf];omega
     ·gi_wp2
      refine bodyPost_ret (results_none rfl _ _ _) rfl ?_;exact⟨⟨_,rfl⟩, .inr ⟨_,trivial,ad⟩⟩
    ·obtain rfl :a=b:=by omega
     gi_wp2
     go_roundw
     case rel=>exact⟨a+1,by omega,by simp,by rw[Gd];exact ab⟩
     case measure=>simp[intOf];omega
  ·obtain rfl :b=k+1:=by omega
   gi_wp2
   go_end0;exact⟨⟨_,rfl⟩, .inl ⟨_,rfl,hJ⟩⟩
end
section
open Go.RowKit
def Ka(w:World)(k:Nat):Bool:=match w.heap[k]? with
 |some o=>o.isCells
 |none=>false
theorem ot{w:World}{k:Nat}{o:Obj}(h:w.heap[k]? =some o):Ka w k=o.isCells:=by unfold Ka;rw[h]
theorem iK{w:World}{b:Nat}{e:TypeId}{size n m c:Nat}{A:Option Addr}{vs:List Value}(h:w.ownsRow b e size (.slice A m c) n vs):∀k,k∈ao A->Ka w k=true:=by
 intro k hk;rcases h.2 with⟨h1,_⟩ |⟨g,cap,cur,J,_,hg,_⟩
 ·simp only[Value.slice.injEq]at h1;rw[h1.1]at hk;simp[ao]at hk
 ·simp only[Value.slice.injEq]at J;obtain⟨rfl,_⟩:=J;simp[ao]at hk;subst hk;exact ot hg
theorem At.Ka{w:World}{g:Nat}{t:TypeId}{cs:Array Value}(h:At w g t cs):Ka w g=true:=ot h
def aO.tidy(L:aO)(w:World):aO:={ L with dh:=fun k=>if Ka w k=true then L.dh k else(L.id+1,0,0) }
theorem aO.ig{L:aO}{w:World}{k:Nat}(h:Ka w k=true):(L.tidy w).dh k=L.dh k:=qai h
theorem aO.qf{L:aO}{w:World}{k:Nat}(h:((L.tidy w).dh k).1=(L.tidy w).id):Ka w k=true/\(L.dh k).1=L.id:=by
 by_cases e:Ka w k=true
 ·rw[aO.ig e]at h;exact⟨e,h⟩
 ·have :(L.tidy w).dh k=(L.id+1,0,0):=qah e;rw[this]at h;have J:L.id+1=L.id:=h;omega
theorem bh.tidy{w:World}{L:aO}{S:Sv}(h:bh w L S):bh w (L.tidy w) S:=
 ⟨h.obj,h.tr,h.hp,h.jf,h.CJ,h.CI,h.wD,h.rws,h.wv,h.yd,h.vm,h.qM,h.sV,
  (aO.ig h.obj.Ka).trans h.t0,
  fun k hk=>(aO.ig (by
   rcases ay.1 hk with rfl |J
   ·exact h.tr.obj.Ka
   ·rcases ah.1 J with J |J
    ·exact iK h.tr.cells k J
    ·rcases ah.1 J with J |J
     ·exact iK h.tr.lits k J
     ·exact iK h.tr.levels k J)).trans (h.t1 k hk),
  fun k hk=>(aO.ig (by
   rcases ay.1 hk with rfl |J
   ·exact h.hp.obj.Ka
   ·rcases ah.1 J with J |J
    ·exact iK h.hp.items k J
    ·rcases ah.1 J with J |J
     ·exact iK h.hp.at_ k J
     ·exact iK h.hp.score k J)).trans (h.t2 k hk),
  fun k hk=>(aO.ig (iK h.wD k hk)).trans (h.t3 k hk),fun k hk=>(aO.ig (iK h.rws k hk)).trans (h.t4 k hk),
  fun k hk=>(aO.ig (iK h.wv k hk)).trans (h.t5 k hk),fun k hk=>(aO.ig (iK h.yd k hk)).trans (h.t6 k hk),
  fun k hk=>(aO.ig (iK h.vm k hk)).trans (h.t7 k hk),fun n hn k hk=>(aO.ig (iK (h.qM n hn) k hk)).trans (h.t8 n hn k hk),
  fun c hc k hk=>(aO.ig (iK (h.sV c hc) k hk)).trans (h.t9 c hc k hk)⟩
def Y1(w:World):List Nat:=(List.range w.heap.size).filter fun k=> !Ka w k
theorem uc{w:World}{k:Nat}:k∈Y1 w↔k<w.heap.size/\Ka w k=false:=by simp[Y1]
theorem Own.tidy{w0 w:World}{L:aO}{S:Sv}(h:Own w0 w L S):OwnX (Y1 w) w0 w (L.tidy w) S:=
 ⟨⟨h.sv.tidy,fun k hk e=>h.nw k hk (aO.qf e).2,h.fr⟩,fun k hk=>⟨(uc.1 hk).1,fun e=>by have h1:=(aO.qf e).1;rw[(uc.1 hk).2]at h1;cases h1⟩⟩
theorem OwnX.tidy{X:List Nat}{w0 w:World}{L:aO}{S:Sv}(h:OwnX X w0 w L S):OwnX (X++Y1 w) w0 w (L.tidy w) S:=
 ⟨h.own.tidy.own,fun k hk=>by
  rcases ah.1 hk with h1 |h1
  ·exact⟨(h.fx k h1).1,fun e=>(h.fx k h1).2 (aO.qf e).2⟩
  ·exact h.own.tidy.fx k h1⟩
theorem Ib{w w':World}{row:Option Nat}(h:w.grownBy w' row):Fr row.toList w w':=
 ⟨h.os,h.tape,h.output,h.size,fun k hk hm=>h.block k hk (fun e=>hm (by rw[<-e];simp))⟩
theorem Own.grown{w0 w w':World}{L:aO}{S:Sv}(h:Own w0 w L S){row:Option Nat}(hg:w.grownBy w' row)(hr:∀r,row=some r->w0.heap.size<=r/\∃o:Obj,w.heap[r]? =some o/\o.isCells=false):Own w0 w' (L.tidy w) S:=by
 have h1:=h.tidy;have hf:=Ib hg;have hm:∀k,k∈row.toList->row=some k:=fun k hk=>by
  cases row with
  |none=>cases hk
  |some r=>simp at hk;rw[hk]
 refine⟨h1.own.sv.fr hf (fun k hk bt e=> ?_),h1.own.nw,h1.own.fr.trans hf (fun k hk=> .inr (hr k (hm k hk)).1)⟩;obtain⟨o,ho,hc⟩:=(hr k (hm k hk)).2;have J:=(aO.qf e).1;rw[ot ho,hc]at J;cases J
theorem OwnX.grown{X:List Nat}{w0 w w':World}{L:aO}{S:Sv}(h:OwnX X w0 w L S){row:Option Nat}(J:w.grownBy w' row)(hr:∀r,row=some r->w0.heap.size<=r/\∃o:Obj,w.heap[r]? =some o/\o.isCells=false):OwnX X w0 w' (L.tidy w) S:=
 ⟨h.own.grown J hr,fun k hk=>⟨aS (h.fx k hk).1 J.size,fun e=>(h.fx k hk).2 (aO.qf e).2⟩⟩
theorem At.EE{w w':World}{g:Nat}{t:TypeId}{cs:Array Value}(h:At w g t cs){row:Option Nat}(hg:w.grownBy w' row)(hr:∀r,row=some r->∃o:Obj,w.heap[r]? =some o/\o.isCells=false):At w' g t cs:=by have h1:=hg.block g h.lt (fun e=>by obtain⟨o,ho,hc⟩:=hr g e.symm;have J:=h.Ka;rw[ot ho,hc]at J;cases J);exact h1.trans h
theorem Stay.others{w w':World}{X:List Nat}(h:Stay X w w')(hX:∀k∈Y1 w,k∈X):KeepsOthers w w':=by obtain⟨T,h1,h2⟩:=h;refine⟨h1.size,fun k o hk ho=> ?_⟩;have J:k<w.heap.size:=(Array.getElem?_eq_some_iff.1 hk).1;rw[h1.block k J (h2 k (hX k (uc.2 ⟨J,by rw[ot hk,ho]⟩)))];exact hk
theorem At.yQ{w:World}{g:Nat}{t:TypeId}{cs:Array Value}(h:At w g t cs)(i:Nat)(v:Value):At (w.setCell ⟨g,i,none⟩ v) g t (cs.setIfInBounds i v):=by show(w.heap.modify _ _)[g]? =_;have h1:w.heap[g]? =some (.cells cs t (0,0)):=h;simp only[Array.getElem?_modify,if_true,h1];rfl
theorem At.other{w:World}{g:Nat}{t:TypeId}{cs:Array Value}(h:At w g t cs){p:Addr}(J:p.block≠g)(u:Value):At (w.setCell p u) g t cs:=
 ((Fr.refl [p.block] w).setCell (.inl (by simp)) u).at_ h (by simpa using fun e=>J e.symm)
def xz(C:Pc)(S:Sv)(l:List Pf):Sv:=l.foldl (fun S x=>(S.a7.grow C.az.length).cF (E4 C x.1.val x.2.val S.vars)) S
theorem yP(C:Pc)(S:Sv)(l:List Pf)(x:Pf):xz C S (l++[x])=((xz C S l).a7.grow C.az.length).cF (E4 C x.1.val x.2.val (xz C S l).vars):=by unfold xz;rw[List.foldl_append];rfl
theorem uI(C:Pc)(a b:Nat)(aux:Int):(E4 C a b aux).length=2*C.az.length+1:=by
 have h:∀n,((List.range n).flatMap (Ui C a b aux)).length=2*n:=fun n=>by
  induction n with
  |zero=>rfl
  |succ n J=>
   rw[ju,List.flatMap_append,an,J];simp[Ui];omega
 unfold E4;rw[an,h];rfl
theorem ack{C:Pc}(J:Valid C){a b:Nat}{aux:Int}(ha:a<=80)(hb:b<=80)(hx:0<=aux/\aux<=262144):∀c∈E4 C a b aux,Ra c:=fun c hc=>by
 have hl:=J.l;rcases ah.1 hc with hc |hc
 ·obtain⟨i,hi,hc⟩:=cH.1 hc;have hi:=bl.1 hi;have h1:=yf J (f:=(a:Int)) (n:=(i:Int)+1) (by omega) (by omega);have h2:=yf J (f:=(b:Int)) (n:=(i:Int)+1) (by omega) (by omega);simp only[Ui,ay,bi,or_false]at hc;rcases hc with rfl |rfl
  ·exact RQ ⟨by omega,by omega⟩ ⟨by omega,by omega⟩ ⟨by omega,by omega⟩
  ·exact RQ ⟨by omega,by omega⟩ ⟨by omega,by omega⟩ ⟨by omega,by omega⟩
 ·rw[ag.1 hc];intro j hj;have Te:j<C.az.length:=by simpa using hj
  rw[aa,aZ,List.getElem?_range Te];show eJ (aux+(j:Int)+1);exact⟨by omega,by omega⟩
theorem Sv.Fit.grow{vars V:Nat}{S:Sv}(h:S.Fit vars V)(n:Nat)(hb:vars+n<=262143):(S.a7.grow n).Fit (vars+n) V:=by have hv:=h.vars;have J:S.a7.Ok 0:=h.ok.a7;exact⟨J.grow n (by show S.vars+n<=_;omega),by show S.vars+n=_;omega,h.list,h.used⟩
theorem MJ{C:Pc}(hv:Valid C){S:Sv}{v V:Nat}(h:S.Fit v V):∀l:List Pf,v+l.length*C.az.length<=262143->V+l.length*(2*C.az.length+1)<=8388608->(xz C S l).Fit (v+l.length*C.az.length) (V+l.length*(2*C.az.length+1)):=fun l=>by
 obtain⟨r,rfl⟩:∃r:List Pf,l=r.reverse:=⟨l.reverse,by simp⟩
 induction r with
 |nil=>
  intro _ _;simpa[xz]using h
 |cons x r ih=>
  rw[List.reverse_cons];intro h1 h2;rw[an,aV,Nat.add_mul,Nat.one_mul]at h1 h2;have J:=ih (by omega) (by omega);rw[yP,an,aV,Nat.add_mul,Nat.one_mul,Nat.add_mul,Nat.one_mul,<-Nat.add_assoc,<-Nat.add_assoc];have h4:=(J.grow C.az.length (by omega)).cF (ls:=E4 C x.1.val x.2.val (xz C S r.reverse).vars) (by rw[uI];omega) (ack hv (by omega) (by omega) ⟨by omega,by rw[J.vars];omega⟩);rw[uI]at h4;exact h4
theorem tri(k:Nat):k*(k+1)=(nT (k+1) 0).length*2:=by
 have J:=tZ (k+1) 0;rw[DA]at J;have h5:k*(k+1)=k*k+k:=by rw[Nat.mul_add,j9]
 omega
theorem MX{k:Nat}(hk:k<=79):(nT (k+1) 0).length<=3160:=by have h1:=tri k;have J:k*(k+1)<=79*80:=Nat.mul_le_mul hk (by omega);omega
theorem B0{b:Int}{L k:Nat}(h0:0<=b)(h:b+((L*k*(k+1)/2:Nat):Int)<=262143):(∀n,n<(nT (k+1) 0).length->b.toNat+n*L+L<=262143)/\∀n,n<=(nT (k+1) 0).length->b.toNat+n*L<=262143:=by
 have h6:L*k*(k+1)/2=(nT (k+1) 0).length*L:=by
  have h7:L*k*(k+1)=((nT (k+1) 0).length*L)*2:=by rw[Nat.mul_assoc,tri k,<-Nat.mul_assoc,Nat.mul_comm L]
  rw[h7,Nat.mul_div_cancel _ (by decide)]
 rw[h6]at h;generalize (nT (k+1) 0).length=N at h;refine⟨fun n hn=> ?_,fun n hn=> ?_⟩
 ·have J:(n+1)*L<=N*L:=Nat.mul_le_mul_right _ hn;rw[Nat.add_mul,Nat.one_mul]at J;generalize N*L=P at h J;generalize n*L=Q at J;omega
 ·have J:n*L<=N*L:=Nat.mul_le_mul_right _ hn;generalize N*L=P at h J;generalize n*L=Q at J;omega
namespace OwnX
variable {X:List Nat} {w0 w W:World} {L:aO} {S:Sv}
theorem YZ(h:OwnX X w0 w L S)(J:Fr [] w W):OwnX X w0 W (L.shut w) S:=by have :=h.more J (Y:=[]) (fun k hk=>by cases hk);rwa[cq]at this
theorem X3(h:OwnX X w0 w L S){v V:Nat}(hk:S.Fit v V)(hV:V<=8388608)(hW:Fr [] w W){A:Option Addr}{c:Nat}{l:List Int}(hi:Ints W A c l)(jC:∀k∈ao A,w.heap.size<=k)(kQ:Ra l):
  Calls Tryz.prog 96 #[.pointer (some ⟨L.a,0,none⟩), .slice A l.length c] W (Yd X (.int .i64 (S.fD l).2) (S.fD l).1 L.a w0 W):=
 (h.YZ hW).add hk.ok A c l ⟨hi.rd,fun _ k hk=>aO.ja (jC k hk)⟩ kQ (fun e=>by
  rcases hi.form with⟨_,J,_⟩ |⟨g,h1,_⟩
  ·exact J
  ·rw[e]at h1;cases h1) (by have :=hk.list;omega) (by have :=hk.used;omega)
theorem BY(h:OwnX X w0 w L S)(ok:S.Ok 0)(hu:S.used<=2199023255552)(hW:Fr [] w W){A:Option Addr}{c:Nat}{us:List Int}(hi:Ints W A c us)(jC:∀k∈ao A,w.heap.size<=k)(kQ:Ra us)(Be:us.length<=1099511627776)
  {budget:Int} {red:Bool} (rO:red=true->IM) {D C:Nat} {Q:Sv->Int->Prop} (hQ:S.fE red budget us D C Q):
  Calls Tryz.prog 39 #[.pointer (some ⟨L.a,0,none⟩), .int .i64 budget, .slice A us.length c] W fun e w'=>∃(S':Sv)(r:Int),Q S' r/\S'.Ok 0/\Yd X (.int .i64 r) S' L.a w0 W e w':=by
 have vK:us.length<=c:=by
  rcases hi.form with⟨_,h1,J⟩ |⟨g,_,_,J,_⟩
  ·rw[J];exact aU _
  ·exact J
 exact(h.YZ hW).solve red rO ok A c us ⟨hi.rd,fun _ k hk=>aO.ja (jC k hk)⟩ kQ vK Be budget D C Q (by omega) hQ
end OwnX
attribute [local go_sem] Oper.semAt_some
theorem GD{q:Qn}(hv:Valid q.C){k:Nat}(hk:k<=79):q.C.az.length*k*(k+1)<=500000:=by have h1:=hv.l;have J:q.C.az.length*k<=64*79:=Nat.mul_le_mul h1 hk;have h3:q.C.az.length*k*(k+1)<=64*79*80:=Nat.mul_le_mul J (by omega);omega
theorem GC(w:World)(H:Qh)(q:Qn)(h:uO w H q)(hu:uV q=0)(jN:sa q.C.mx (q.am.map (·.l)++q.ls.map (·.l)))(Pp:q.ks=[])(k:Nat)(hk:k<=79)(budget:Int)
  (je:cu q.C ((k+1:Nat):Int)+((q.C.az.length*k*(k+1)/2:Nat):Int)<=262143)
  {red:Bool} (rO:red=true->IM) {Dd Cc:Nat} {Q:Sv->Int->Prop} (hQ:((xz q.C (uv q.C (q.am.map (·.l)++q.ls.map (·.l)) false (k+1) (k+1)) (nT (k+1) 0)).cF ((List.range k).map fun a:Nat=>[-(bV (cu q.C a) (sY q))])).fE red budget [bV (cu q.C k) (sY q)] Dd Cc Q):
  Calls Tryz.prog 66 #[mv H q, .int .i64 k, .int .i64 budget] w fun e w'=>∃S1 r,Q S1 r/\e= .returned (.tuple #[.int .i64 r, .int .i64 S1.used, .int .i64 0])/\Fr [] w w':=by
 have dU:=ae hQ;clear hQ;obtain⟨hv,mT,-⟩:=sE hu;obtain⟨w1,eo⟩:∃W,w.alloc (.cells (pH H q) 40)=W:=⟨_,rfl⟩
 obtain⟨w2,kE⟩:∃W,w1.alloc (.cells #[.int .i64 0] 3)=W:=⟨_,rfl⟩
 obtain⟨w3,ow⟩:∃W,w2.alloc (.cells #[.int .i64 0] 3)=W:=⟨_,rfl⟩
 obtain⟨w4,vE⟩:∃W,w3.alloc (.cells #[.int .i64 0] 36)=W:=⟨_,rfl⟩
 have f1:Fr [] w w1:=eo▸aR _ _;have f2:Fr [] w1 w2:=kE▸aR _ _;have f3:Fr [] w2 w3:=ow▸aR _ _;have f4:Fr [] w3 w4:=vE▸aR _ _;have s1:w1.heap.size=w.heap.size+1:=by rw[<-eo];simp
 have s2:w2.heap.size=w.heap.size+2:=by rw[<-kE];simp[s1]
 have s3:w3.heap.size=w.heap.size+3:=by rw[<-ow];simp[s2]
 have s4:w4.heap.size=w.heap.size+4:=by rw[<-vE];simp[s3]
 obtain⟨g,hg⟩:∃g,w.heap.size=g:=⟨_,rfl⟩
 have Q5:aj (Fr [] w w4):=((f1.ak f2).ak f3).ak f4;have dR:aj (At w4 g 40 (pH H q)):=hg▸((((eo▸At.new _ _ _:At w1 w.heap.size 40 (pH H q)).keep f2).keep f3).keep f4);have nq:At w4 (g+1) 3 #[.int .i64 0]:=by
  have :=(kE▸At.new _ _ _:At w2 w1.heap.size 3 #[.int .i64 0])
  rw[s1,hg]at this;exact(this.keep f3).keep f4
 have kZ:At w4 (g+2) 3 #[.int .i64 0]:=by
  have :=(ow▸At.new _ _ _:At w3 w2.heap.size 3 #[.int .i64 0])
  rw[s2,hg]at this;exact this.keep f4
 have Tz:At w4 (g+3) 36 #[.int .i64 0]:=by
  have :=(vE▸At.new _ _ _:At w4 w3.heap.size 36 #[.int .i64 0])
  rw[s3,hg]at this;exact this
 have di:=ae nq;have Az:=ae kZ;have U9:=ae Tz;rw[hg]at s1 s2 s3 s4;have N7:=ae s4;have HG:=ae hg;have HH:=ae h;have CV:=ae Pp;have b1:=ae jN;have KU:=ae (lH w4 H q (h.keep Q5.o));have KR:=ae (fun W (hW:Fr [] w W)=>wN W H q (h.keep hW) hv k hk (GD hv hk));have KS:=ae (fun W (hW:Fr [] w W) hb=>qz W H q (h.keep hW) hu jN Pp false (k+1) ⟨by omega,by omega⟩ hb);have dm:=ae (jp hv.m0 hv.m1 (f:=((k+1:Nat):Int)) (by omega));have Fy:=ae (fun W (hW:Fr [] w4 W)=>ku (dR.o.keep hW));have HU:=ae hu;have HV:=ae hv;have ez:decide (80<=(k:Int))=false:=qaj (by omega);have He:decide ((k:Int)<0)=false:=qaj (by omega);obtain⟨RM,bI⟩:∃RM,cu q.C ((k+1:Nat):Int)+((q.C.az.length*k*(k+1)/2:Nat):Int)=RM:=⟨_,rfl⟩
 rw[bI]at je;simp only[bI]at KR;have bg:=ae bI;have eV:decide (262144<=RM)=false:=qaj (by omega);clear f1 f2 f3 f4 nq kZ Tz h Pp jN hu hv bI;refine callsIn_wide.1 (callsIn_of_wp_marks (n:=8) Tryz.func66 rfl trivial ?_ rfl);simp only[Tryz.ntmps66,List.size_toArray,b8,List.length_nil,Nat.reduceAdd,Nat.reduceSub,Array.replicate_succ,Array.replicate_zero,List.push_toArray,List.append_toArray,List.nil_append,List.cons_append];refine wpIn_wide.2 ?_;simp only[mv,pH]at eo KU KR KS⊢;obtain⟨q0,q1,q2,q3,q4,q5,q6,q7,q8,q9,jG,jF,jL,jR⟩:=Fy.o w4 (Fr.refl _ _);go_upto_region 1 with fail;go_wp2_with fail;refine KU.o.mono ?_;rintro e w5 ⟨rfl,fT⟩;rw[HU.o];have js:=ae fT;clear q0 q1 q2 q3 q4 q5 q6 q7 q8 q9 jG jF jL jR fT;obtain⟨q0,q1,q2,q3,q4,q5,q6,q7,q8,q9,jG,jF,jL,jR⟩:=Fy.o w5 js.o;go_upto_region 6 with fail;go_wp2_with fail;refine(KR.o w5 (Q5.o.ak js.o)).mono ?_;rintro e w6 ⟨rfl,gQ⟩;have fC:=ae (js.o.ak gQ);clear q0 q1 q2 q3 q4 q5 q6 q7 q8 q9 jG jF jL jR gQ;obtain⟨q0,q1,q2,q3,q4,q5,q6,q7,q8,q9,jG,jF,jL,jR⟩:=Fy.o w6 fC.o;have bo:=ae (KS.o w6 (Q5.o.ak fC.o) (by have h1:=bg.o;have h2:=Int.natCast_nonneg (q.C.az.length*k*(k+1)/2);omega));have Er:((k+1:Nat):Int)=(k:Int)+1:=by omega
 rw[Er]at bo;obtain⟨S0,cc⟩:∃S0,uv q.C (q.am.map (·.l)++q.ls.map (·.l)) false (k+1) (k+1)=S0:=⟨_,rfl⟩
 rw[cc]at bo;have b4:=ae cc;clear cc Er;go_wp2_with fail;refine bo.o.mono ?_;rintro e w7 ⟨L7,rfl,cp⟩;have xY:=ae cp;have mP:=ae (fC.o.ak cp.fr);clear cp bo q0 q1 q2 q3 q4 q5 q6 q7 q8 q9 jG jF jL jR;obtain⟨la,Np⟩:∃la,L7.a=la:=⟨_,rfl⟩
 have Fc:=ae Np;rw[Np];clear Np;obtain⟨w8,Fl⟩:∃W,w7.alloc (.cells #[.pointer none] 78)=W:=⟨_,rfl⟩
 have kc:Fr [] w7 w8:=Fl▸aR _ _;have tt:At w8 w7.heap.size 78 #[.pointer none]:=Fl▸At.new _ _ _;have pV:=ae (kc.setCell (p:=⟨w7.heap.size,0,none⟩) (.inr (aq _)) (.pointer (some ⟨la,0,none⟩)));have Jw:aj (At (w8.setCell ⟨w7.heap.size,0,none⟩ (.pointer (some ⟨la,0,none⟩))) w7.heap.size 78 #[.pointer (some ⟨la,0,none⟩)]):=tt.yQ 0 _;have cI:=tt.cell 0;simp at cI;have z80:=tt.frozen 0;clear kc tt;obtain⟨w9,xG⟩:∃W,w8.setCell ⟨w7.heap.size,0,none⟩ (.pointer (some ⟨la,0,none⟩))=W:=⟨_,rfl⟩
 rw[xG]at pV Jw;go_wp2_with fail;obtain⟨bs,cn⟩:∃bs,w7.heap.size=bs:=⟨_,rfl⟩
 rw[cn]at Jw⊢;have cy:=ae cn;clear Fl xG cI z80 cn;refine(Gi w9 k).mono ?_;rintro e QE ⟨rfl,WJ⟩;obtain⟨pb,ba⟩:∃pb,w9.heap.size=pb:=⟨_,rfl⟩
 have BN:aj (Fr [] w9 QE):=WJ▸aR _ _;have ei:aj (QE.cell? ⟨pb,0,none⟩=some (.int .i64 k)):=by have h1:At QE w9.heap.size 3 #[.int .i64 k]:=WJ▸At.new _ _ _;rw[ba]at h1;exact h1.cell 0
 have dG:aj (pb<QE.heap.size):=by show _<_;rw[WJ,<-ba];simp
 rw[ba];clear WJ;have ey:=ae ba;clear ba;go_wp2_with fail;refine(wpIn_wide (n:=6)).1 ?_;have b9:aj (OwnX [bs] w6 QE (L7.shut w7) S0):=(xY.o.mark pV.o (Y:=[bs]) (fun j hj=>by rw[ag.1 hj,<-cy.o];exact⟨aq _,by have :=Jw.o.lt;rw[<-cy.o]at this;exact this⟩)).keep BN.o;have ej:aj (At QE bs 78 #[.pointer (some ⟨la,0,none⟩)]):=Jw.o.keep BN.o;have eh:aj ((L7.shut w7).a=la):=Fc.o;have b3:=ae (B0 dm.o.1 (by have :=bg.o;omega:cu q.C ((k+1:Nat):Int)+((q.C.az.length*k*(k+1)/2:Nat):Int)<=262143));have bb:aj (∀n,n<=(nT (k+1) 0).length->(jQ q.C (q.am.map (·.l)++q.ls.map (·.l)) false (k+1)).length+n*(2*q.C.az.length+1)<=8000000):=fun n hn=>by have h1:=mK HV.o b1.o.1 false (k+1);have h2:=HV.o.l;have h3:=MX hk;have h4:n*(2*q.C.az.length+1)<=3160*129:=Nat.mul_le_mul (by omega) (by omega);omega
 refine wpIn_rangeFunc_ownG rfl (by decide) (gf:=123) (lb:=#[.pointer (some ⟨pb,0,none⟩)]) rfl trivial (enters_of Tryz.func123 (by kernel_rfl) rfl)
  (seqStopsA_iff.1 (Gh 5 (by decide) pb k hk QE dG.o ei.o)) walksK_t walksK_b (Below.refl _ _) (fun _=>rfl)
  (fun pre W=>∃L,L.a=la/\OwnX [bs] w6 W L (xz q.C S0 pre)/\At W bs 78 #[.pointer (some ⟨la,0,none⟩)]) (fun _ _ _=>False)
  (fun s A B row hs hg hr=>by obtain⟨L,h1,h2,h3⟩:=hs;exact⟨L.tidy A,h1,h2.grown hg (fun r e=>⟨aE b9.o.own.fr.size (hr r e).1,(hr r e).2⟩),h3.EE hg (fun r e=>(hr r e).2)⟩)
  (fun _ _ _ _ _ hs _ _=>hs) ⟨_,eh.o,b9.o,ej.o⟩ ?a1 ?assign ?body ?done ?stop
 case assign=>
  intro l x W K hK
  gi_wp2
  exact hK
 case stop=>
  rintro D c pre W _ _ hf _;exact hf.elim
 case body=>
  rintro l pre x W ⟨L,hL,hO,hA⟩ hlen;have et:aj (Fr [] w W):=(Q5.o.ak fC.o).ak hO.own.fr;obtain⟨S,hS⟩:∃S,xz q.C S0 pre=S:=⟨_,rfl⟩
  have pS:=MJ HV.o (b4.o▸yu HV.o b1.o (fst:=false) (aq (k+1)) ⟨by omega,by omega⟩ (by have h1:=bg.o;have h2:=Int.natCast_nonneg (q.C.az.length*k*(k+1)/2);omega)) pre (b3.o.2 _ (Nat.le_of_lt hlen)) (aE (bb.o _ (Nat.le_of_lt hlen)) (by decide));rw[hS]at pS;have ZG:aj (xz q.C S0 (pre++[x])=(S.a7.grow q.C.az.length).cF (E4 q.C x.1.val x.2.val S.vars)):=hS▸yP q.C S0 pre x;have yh:S.vars+q.C.az.length<=262143:=by have h1:=b3.o.1 _ hlen;rw[pS.vars];exact h1
  have Tj:S.qL (q.C.az.length:Int)=(S.a7.grow q.C.az.length,(S.vars:Int),0):=by unfold Sv.qL;rw[qah (by omega)];rfl
  rw[hS]at hO;obtain⟨X,hX⟩:∃X,[bs]++Y1 W=X:=⟨_,rfl⟩
  have KG:=hO.tidy.grow pS.ok (q.C.az.length:Int);rw[Tj,hX]at KG;rw[show(L.tidy W).a=la from hL]at KG;have KG:=ae (fun n=>(callsIn_wide (n:=n)).2 KG);have tw:aj (bs∈X):=by show _∈_;rw[<-hX];simp
  have dV:aj (∀j∈Y1 W,j∈X):=fun j hj=>by rw[<-hX];exact bP _ hj
  have ZU:aj (∀j∈X,j<W.heap.size):=fun j hj=>by
   rw[<-hX]at hj;rcases ah.1 hj with h1 |h1
   ·rw[ag.1 h1];exact hA.lt
   ·exact(uc.1 h1).1
  have HA:=ae hA;have Jc:W.cell? ⟨bs,0,none⟩=some (.pointer (some ⟨la,0,none⟩)):=hA.cell 0;obtain⟨q0,q1,q2,q3,q4,q5,q6,q7,q8,q9,jG,jF,jL,jR⟩:=Fy.o W (fC.o.ak hO.own.fr);have Jr:=ae (pS.grow q.C.az.length (by rw[pS.vars]at yh;exact yh));clear hO hA pS hL hS hX Tj
  gi_wp2_with fail
  refine⟨trivial,(CallsIn.inRound l (KG.o _)).mono ?_⟩;clear KG q0 q1 q2 q3 q4 q5 q6 q7 q8 q9 jG jF jL jR Jc;rintro e W1 ⟨rfl,L1,xP,bG,cf⟩;have cz:=ae cf;have lZ:=ae bG;have nv:=ae xP;have Jc:W1.cell? ⟨bs,0,none⟩=some (.pointer (some ⟨la,0,none⟩)):=(cf.at_ HA.o tw.o).cell 0;obtain⟨q0,q1,q2,q3,q4,q5,q6,q7,q8,q9,jG,jF,jL,jR⟩:=Fy.o W1 (fC.o.ak bG.own.fr);have KA:=Dl W1 H.H q.C (HH.o.c.keep ((Q5.o.ak fC.o).ak bG.own.fr)) HV.o x.1.val x.2.val (by omega) (by omega) (S.vars:Int) ⟨by omega,by omega⟩;have KA:=ae (fun n=>(callsIn_wide (n:=n)).2 KA);simp only[bY,fv]at KA;clear bG cf xP
  gi_wp2_with fail
  refine⟨trivial,(CallsIn.inRound l (KA.o _)).mono ?_⟩;clear KA q0 q1 q2 q3 q4 q5 q6 q7 q8 q9 jG jF jL jR Jc;rintro e W2 ⟨A,c,hs,rfl,hN,hE,zC⟩;have Ha:hs.length=2*q.C.az.length+1:=by rw[<-uI q.C x.1.val x.2.val (S.vars:Int),<-hE,aG]
  have AQ:=ae Ha;have HN:=ae hN;have HE:=ae hE;have df:=ae zC;obtain⟨eH,eB⟩:∃eH,xz q.C S0 (pre++[x])=eH:=⟨_,rfl⟩
  have nY:aj ((S.a7.grow q.C.az.length).cF (hs.map (·.l))=eH):=by show _=_;rw[hE,<-eB];exact ZG.o.symm
  have gd:=ae eB;obtain⟨v2,V2,ca⟩:∃v2 V2,(S.a7.grow q.C.az.length).Fit v2 V2/\V2<=8000000:=⟨_,_,Jr.o,bb.o _ (Nat.le_of_lt hlen)⟩
  have Jr:=ae ca.1;have eL:=ca.2;obtain⟨Y,hY⟩:∃Y,X++ybl A hs=Y:=⟨_,rfl⟩
  have qR:aj (OwnX Y w6 W2 (L1.shut W1) (S.a7.grow q.C.az.length)):=hY▸lZ.o.more zC hN.marks;have bB:aj (∀j∈X,j∈Y):=fun j hj=>by rw[<-hY];exact av _ hj
  have dZ:aj (∀j∈ao A,j∈Y):=fun j hj=>by rw[<-hY];exact bP _ (av _ hj)
  have cE:aj (∀y∈hs,∀j∈ao y.A,j∈Y):=fun y hy j hj=>by rw[<-hY];exact bP _ (bP _ (cH.2 ⟨y,hy,hj⟩))
  have ea:aj (∀j∈Y,j<W2.heap.size):=fun j hj=>(qR.o.fx j hj).1;have VA:=ae hN.rdl;have n8:aj ((L1.shut W1).a=la):=nv.o;have cO:At W2 bs 78 #[.pointer (some ⟨la,0,none⟩)]:=(cz.o.at_ HA.o tw.o).keep zC;have ct:=ae cO;clear hN hE zC eB ZG ca hY cO Ha;obtain⟨LN,ab⟩:∃LN,hs.length=LN:=⟨_,rfl⟩
  rw[ab]at AQ;have eC:=ae ab;rw[ab];have Ep:=HV.o.l;have eA:LN<=129:=by have :=AQ.o;omega
  gi_wp2_with fail
  gi_loopw [70] (fun cr wr=>∃(j:Nat)(Lj:aO)(Sj:Sv),j<=LN/\cr= .int .i64 j/\aj (Lj.a=la)/\aj (OwnX Y w6 wr Lj Sj)/\aj (Stay Y W2 wr)/\aj (Sj.Fit v2 (V2+j))/\aj (Sj.cF ((hs.map (·.l)).drop j)=eH)) (fun cr _=>LN-(intOf cr).toNat)
  case atStart=>exact⟨0,_,_,aU _,rfl,n8,qR,Stay.of (Fr.refl _ _),Jr,nY⟩
  case round=>
   obtain⟨j,Lj,Sj,hj,rfl,aB,Q8,UB,ar,aK⟩:=hrel;by_cases bt:j<LN
   ·obtain⟨b,o,B,d,ll,cS,hx,cx,ok⟩:=VA.o.one (by rw[ab];exact bt);have GO:(⟨B,d,ll⟩:Ls)∈hs:=by rw[<-hx.o];exact bk (by rw[ab];exact bt)
    have e2:=UB.o.cell cx (dZ.o b (by rw[cS];simp[ao]));subst cS;have Bi:=ar.o;have KA:=Q8.o.add Bi.ok B d ll (Q8.o.NG (UB.o.rd ok.1 (cE.o _ GO)) (cE.o _ GO)) ok.2.1 (fun h=>(ok.2.2.2 h).2) (by have :=Bi.list;omega) (by have :=Bi.used;omega);rw[aB.o]at KA;have KA:=ae (fun n=>(callsIn_wide (n:=n)).2 KA);have sT:=zf (hs:=hs) (by rw[ab];exact bt);rw[hx.o]at sT;have gz:=aK.o;rw[sT,Sv.cF]at gz;have Mb:=ae gz;have Fd:=ae (Bi.add (by omega) ok.2.1);have Jc:wr.cell? ⟨bs,0,none⟩=some (.pointer (some ⟨la,0,none⟩)):=(UB.o.at_ ct.o (bB.o _ tw.o)).cell 0;have K1:(j:Int)<(LN:Int):=(by omega)
    clear Bi gz sT ok cx GO hx
    gi_wp2_with fail
    refine⟨trivial,(CallsIn.inRound l (KA.o _)).mono ?_⟩;clear KA;rintro e W4 ⟨rfl,L4,Nz,h4,s4⟩;have YG:=ae Nz;have H4:=ae h4;have N7:=ae (UB.o.ak s4 ea.o);clear h4 Nz s4 e2 Jc
    gi_wp2_with fail
    go_roundw
    case rel=>exact⟨j+1,L4,_,by omega,by go_num,YG,H4,N7,Fd,Mb⟩
    case measure=>simp[intOf];omega
   ·obtain rfl :j=LN:=by omega
    have Cz:Sj=xz q.C S0 (pre++[x]):=by have :=aK.o;rw[List.drop_of_length_le (by rw[aG,ab];exact aq _)]at this;exact this.trans gd.o.symm
    have c7:Stay X W wr:=(cz.o.ak (Stay.of df.o) ZU.o).ak (UB.o.less bB.o) ZU.o;have cb:=c7.others dV.o;have Mq:aj (KeepsFrom QE.heap.size W wr/\KeepsWalks W wr/\∃L,L.a=la/\OwnX [bs] w6 wr L (xz q.C S0 (pre++[x]))/\At wr bs 78 #[.pointer (some ⟨la,0,none⟩)]):=
     ⟨cb.from _,cb.walks,Lj,aB.o,Cz▸Q8.o.less (fun i hi=>by rw[ag.1 hi];exact bB.o _ tw.o),UB.o.at_ ct.o (bB.o _ tw.o)⟩
    clear c7 cb Cz
    gi_wp2_with fail
    exact Mq.o
 case done=>
  rintro D xs W hD rfl ⟨L,hL,hO,hA⟩ hK;obtain⟨X,hX⟩:∃X,[bs]++Y1 W=X:=⟨_,rfl⟩
  obtain⟨SP,bO⟩:∃SP,xz q.C S0 (nT (k+1) 0)=SP:=⟨_,rfl⟩
  have c0:D<W.heap.size:=(Array.getElem?_eq_some_iff.1 hK).1;have Yu:aj (OwnX X w6 W (L.tidy W) SP):=by show OwnX _ _ _ _ _;rw[<-hX,<-bO];exact hO.tidy
  have xr:aj ((L.tidy W).a=la):=hL;have tw:aj (bs∈X):=by show _∈_;rw[<-hX];simp
  have cB:aj (D∈X):=by show _∈_;rw[<-hX];exact bP _ (uc.2 ⟨c0,by rw[ot hK];rfl⟩)
  have ZU:aj (∀j∈X,j<W.heap.size):=fun j hj=>(Yu.o.fx j hj).1;have HA:=ae hA;have HK:=ae hK;have dn:aj (∃v V,SP.Fit v V/\V<=8000000):=by have h1:=MJ HV.o (b4.o▸yu HV.o b1.o (fst:=false) (aq (k+1)) ⟨by omega,by omega⟩ (by have h1:=bg.o;have h2:=Int.natCast_nonneg (q.C.az.length*k*(k+1)/2);omega)) (nT (k+1) 0) (b3.o.2 _ (aq _)) (aE (bb.o _ (aq _)) (by decide));rw[bO]at h1;exact⟨_,_,h1,bb.o _ (aq _)⟩
  obtain⟨v,V,c9,eT⟩:=dn.o;have dq:=ae c9;have b6:=ae (fun W (hW:Fr [] w W) (j:Nat) (hj:j<=79)=>zn W H q (HH.o.keep hW) HV.o ⟨mT.1,mT.2.1⟩ j hj);have Ju:=ae (fun(j:Nat)(hj:j<=79)=>by have h1:=yy HV.o ⟨mT.1,mT.2.1⟩;have h2:=HV.o.m1;exact mz (b:=cu q.C (j:Int)) (l:=sY q) (by have :=jp HV.o.m0 HV.o.m1 (f:=(j:Int)) (by omega);omega) (by omega):∀(j:Nat)(hj:j<=79),-1000000<=bV (cu q.C (j:Int)) (sY q)/\bV (cu q.C (j:Int)) (sY q)<=1000000);obtain⟨BF,ek⟩:∃BF:Nat->Int,(fun j:Nat=>bV (cu q.C (j:Int)) (sY q))=BF:=⟨_,rfl⟩
  have ec:∀j:Nat,bV (cu q.C (j:Int)) (sY q)=BF j:=fun j=>congrFun ek j;have vW:=dU.o;rw[b4.o,bO]at vW;simp only[ec,mv,pH]at b6 Ju vW;obtain⟨eH,eB⟩:∃eH,SP.cF ((List.range k).map fun a=>[-(BF a)])=eH:=⟨_,rfl⟩
  rw[eB]at vW;have vW:=ae vW;have gd:=ae eB;have HD:=ae hD;clear hX bO hO hL hA hK c0 c9 eB hD;go_wp2_with fail;go_loopg [79] k (fun gk er wr=>∃(j:Nat)(Lj:aO)(Sj:Sv),j+gk=k/\er= .int .i64 j/\aj (Lj.a=la)/\aj (OwnX X w6 wr Lj Sj)/\aj (Stay X W wr)/\aj (Sj.Fit v (V+j))/\aj (Sj.cF (((List.range k).map fun a=>[-(BF a)]).drop j)=eH));case atStart=>exact⟨0,_,_,by omega,rfl,xr,Yu,Stay.of (Fr.refl _ _),dq,gd⟩
  case round=>
   obtain⟨j,Lj,Sj,hj,rfl,aB,Q8,UB,ar,aK⟩:=hrel;have HJ:=ae hj;have eU:j<=k:=by omega
   clear hj;by_cases bt:j<k
   ·have K1:(j:Int)<(k:Int):=by omega
    have sT:((List.range k).map fun a=>[-(BF a)]).drop j=[-(BF j)]::((List.range k).map fun a=>[-(BF a)]).drop (j+1):=(by rw[List.drop_eq_getElem_cons (by simpa using bt),List.getElem_map,List.getElem_range])
    have gz:=aK.o;rw[sT,Sv.cF]at gz;have Mb:=ae gz;have Fd:=ae (ar.o.add (by omega) (c:=[-(BF j)]) (F9 ⟨by have :=Ju.o j (by omega);omega,by have :=Ju.o j (by omega);omega⟩));clear sT gz;have aT:=ae (fun W (hW:Fr [] w W)=>b6.o W hW j (by omega));have PB:=Ju.o j (by omega);obtain⟨bj,QY⟩:∃bj,BF j=bj:=⟨_,rfl⟩
    rw[QY]at aT PB Fd Mb;have zv:IntKind.i64.wrap (-bj)= -bj:=IntWalk.i64_in _ (by omega);have cG:aj (∀W,Fr [] wr W->∀A c,Ints W A c [-bj]->(∀i∈ao A,wr.heap.size<=i)->Calls Tryz.prog 96 #[.pointer (some ⟨la,0,none⟩), .slice A 1 c] W (Yd X (.int .i64 (Sj.fD [-bj]).2) (Sj.fD [-bj]).1 la w6 W)):=fun W hW A c hi hn=>by have :=Q8.o.X3 ar.o (by omega) hW hi hn (F9 ⟨by omega,by omega⟩);rw[aB.o]at this;exact this
    obtain⟨SA,c6⟩:∃SA,Sj.fD [-bj]=SA:=⟨_,rfl⟩
    rw[c6]at cG Mb Fd;have rL:aj (Fr [] w wr):=(Q5.o.ak fC.o).ak Q8.o.own.fr;have Jc:wr.cell? ⟨bs,0,none⟩=some (.pointer (some ⟨la,0,none⟩)):=(UB.o.at_ HA.o tw.o).cell 0;have uS:=ae Jc;have b2:=Fy.o wr (fC.o.ak Q8.o.own.fr);obtain⟨q0,q1,q2,q3,q4,q5,q6,q7,q8,q9,jG,jF,jL,jR⟩:=b2;have C0:=ae q0;have C1:=ae q1;have C2:=ae q2;have C3:=ae q3;have C4:=ae q4;have C5:=ae q5;have C6:=ae q6;have C7:=ae q7;have C8:=ae q8;have C9:=ae q9;have bS:=ae jG;have VN:=ae jF;have b0:=ae jL;have VM:=ae jR;clear QY c6 Jc q0 q1 q2 q3 q4 q5 q6 q7 q8 q9 jG jF jL jR;go_upto_region 25 with fail;refine qan ?_;refine bw (fun w':World=>Fr [] wr w') 6 (by kernel_rfl) ((Fr.refl _ wr).drew) (fun dy=> ?_);refine oI 3 [(0,[0,6]),(1,[1,3,6]),(2,[])] dy (fun w J=>And.intro (J.aF C0.o) (And.intro (J.aF C1.o) (And.intro (J.aF C2.o) (And.intro (J.aF C3.o) (And.intro (J.aF C4.o) (And.intro (J.aF C5.o) (And.intro (J.aF C6.o) (And.intro (J.aF C7.o) (And.intro (J.aF C8.o) (And.intro (J.aF C9.o) (And.intro (J.aF bS.o) (And.intro (J.aF VN.o) (And.intro (J.aF b0.o) (And.intro (J.aF VM.o) (J.aF uS.o))))))))))))))) ?_;intro dy;refine R2 3 dy fun K hK aM=> ?_
    (go_simp;refine(aT.o _ (rL.o.ak aM)).mono ?_;rintro e w3 ⟨rfl,dN⟩;dsimp only)
    refine hK.out _ _ (.inr ?_) (fun ch=> ?_)
    ·first |exact aM.ak dN |exact aM.alloc _ |exact aM
    clear hK K;try simp only[Act.put,q5,q6,q7]
    refine TB 1 [(4,[])] ch ?_;intro ch;refine R2 5 ch fun K hK aM=> ?_
    (have UC:=ae aM.size;go_simp)
    refine hK.out _ _ (.inr ?_) (fun Vr=> ?_)
    ·first |exact aM.ak dN |exact aM.alloc _ |exact aM
    clear hK K;try simp only[Act.put,q5,q6,q7]
    refine R2 6 Vr fun K hK aM=> ?_
    (go_simp;refine(cG.o _ aM _ _ (gS _ [-bj] (by simp[maxLen])) (fun i hi=>by simp[ao]at hi;subst hi;exact UC.o)).mono ?_;rintro e e4 ⟨rfl,L4,Nz,h4,s4⟩;dsimp only)
    refine hK.out _ _ (.inl rfl) (fun Vq=> ?_);clear hK K;try simp only[Act.put,q5,q6,q7]
    refine fO ?_;have YG:=ae Nz;have H4:=ae h4;have N7:=ae (UB.o.ak ((Stay.of aM).ak s4 (fun i hi=>(Q8.o.fx i hi).1)) ZU.o);clear Nz h4 s4 aM;go_wp2;go_roundg (gk-1);case measure=>have :=HJ.o;omega
    case rel=>exact⟨j+1,L4,_,by have :=HJ.o;omega,by go_num,YG,H4,N7,Fd,Mb⟩
   ·obtain rfl :j=k:=by omega
    have Cz:Sj=eH:=by have :=aK.o;rw[List.drop_of_length_le (by simp)]at this;exact this
    subst Cz;have aT:=ae (fun W (hW:Fr [] w W)=>b6.o W hW j hk);have PB:=Ju.o j hk;have Je:=vW.o;obtain⟨bj,QY⟩:∃bj,BF j=bj:=⟨_,rfl⟩
    rw[QY]at aT PB Je;have eb:aj (∀W,Fr [] wr W->∀A c,Ints W A c [bj]->(∀i∈ao A,wr.heap.size<=i)->Calls Tryz.prog 39 #[.pointer (some ⟨la,0,none⟩), .int .i64 budget, .slice A 1 c] W fun e w'=>∃(S':Sv)(r:Int),Q S' r/\S'.Ok 0/\Yd X (.int .i64 r) S' la w6 W e w'):=fun W hW A c hi hn=>by have :=Q8.o.BY ar.o.ok ar.o.used hW hi hn (F9 ⟨by omega,by omega⟩) (by simp) rO Je;rw[aB.o]at this;exact this
    have rL:aj (Fr [] w wr):=(Q5.o.ak fC.o).ak Q8.o.own.fr;have Jc:wr.cell? ⟨bs,0,none⟩=some (.pointer (some ⟨la,0,none⟩)):=(UB.o.at_ HA.o tw.o).cell 0;have uS:=ae Jc;have b2:=Fy.o wr (fC.o.ak Q8.o.own.fr);obtain⟨q0,q1,q2,q3,q4,q5,q6,q7,q8,q9,jG,jF,jL,jR⟩:=b2;have C0:=ae q0;have C1:=ae q1;have C2:=ae q2;have C3:=ae q3;have C4:=ae q4;have C5:=ae q5;have C6:=ae q6;have C7:=ae q7;have C8:=ae q8;have C9:=ae q9;have bS:=ae jG;have VN:=ae jF;have b0:=ae jL;have VM:=ae jR;clear QY Jc q0 q1 q2 q3 q4 q5 q6 q7 q8 q9 jG jF jL jR Je;go_upto_region 27 with fail;refine qan ?_;refine bw (fun w':World=>Fr [] wr w') 6 (by kernel_rfl) ((Fr.refl _ wr).drew) (fun dy=> ?_);refine oI 4 [(0,[0,6]),(1,[]),(2,[2,4,6]),(3,[])] dy (fun w J=>And.intro (J.aF C0.o) (And.intro (J.aF C1.o) (And.intro (J.aF C2.o) (And.intro (J.aF C3.o) (And.intro (J.aF C4.o) (And.intro (J.aF C5.o) (And.intro (J.aF C6.o) (And.intro (J.aF C7.o) (And.intro (J.aF C8.o) (And.intro (J.aF C9.o) (And.intro (J.aF bS.o) (And.intro (J.aF VN.o) (And.intro (J.aF b0.o) (And.intro (J.aF VM.o) (J.aF uS.o))))))))))))))) ?_;intro dy;refine R2 4 dy fun K hK aM=> ?_
    (go_simp;refine(aT.o _ (rL.o.ak aM)).mono ?_;rintro e w3 ⟨rfl,dN⟩;dsimp only)
    refine hK.out _ _ (.inr ?_) (fun en=> ?_)
    ·first |exact aM.ak dN |exact aM.alloc _ |exact aM
    clear hK K;try simp only[Act.put,q5,q6,q7]
    refine R2 5 en fun K hK aM=> ?_
    (have UC:=ae aM.size;go_simp)
    refine hK.out _ _ (.inr ?_) (fun Vr=> ?_)
    ·first |exact aM.ak dN |exact aM.alloc _ |exact aM
    clear hK K;try simp only[Act.put,q5,q6,q7]
    refine R2 6 Vr fun K hK aM=> ?_
    (go_simp;refine(eb.o _ aM _ _ (gS _ [bj] (by simp[maxLen])) (fun i hi=>by simp[ao]at hi;subst hi;exact UC.o)).mono ?_;rintro e wS ⟨S1,r,nU,SQ,rfl,L5,c5,h5,s5⟩;dsimp only)
    refine hK.out _ _ (.inl rfl) (fun Vq=> ?_);clear hK K;try simp only[Act.put,q5,q6,q7]
    refine R1 (i:=7) (o:= ?akZ) (by kernel_rfl) (by rfl) ?_;intro K hK;go_simp;refine hK.out _ _ (.inl rfl) (fun Lo=> ?_);clear hK K;try simp only[Act.put,q5,q6,q7]
    refine fO ?_;have b5:Stay X W wS:=UB.o.ak ((Stay.of aM).ak s5 (fun i hi=>(Q8.o.fx i hi).1)) ZU.o;have Oa:=ae nU;have js:aj (Fr [] w6 wS):=h5.own.fr;have Jc:wS.cell? ⟨bs,0,none⟩=some (.pointer (some ⟨la,0,none⟩)):=(b5.at_ HA.o tw.o).cell 0;have b7:=yH wS L5 S1 h5.own.sv;rw[c5]at b7;have dD:aj (wS.heap[D]? =some (.deferred (some []))):=by obtain⟨T,g1,g2⟩:=b5;exact(g1.block D (ZU.o D cB.o) (g2 D cB.o)).trans HK.o
    have nq:=di.o.keep (fC.o.ak h5.own.fr);have kZ:=Az.o.keep (fC.o.ak h5.own.fr);have Tz:=U9.o.keep (fC.o.ak h5.own.fr);have c1:=nq.cell 0;have c2:=kZ.cell 0;have c3:=Tz.cell 0;simp at c1 c2 c3;have z1:=nq.frozen 0;have z2:=kZ.frozen 0;have z3:=Tz.frozen 0;have eg:aj (Fr [] w wS):=(Q5.o.ak fC.o).ak h5.own.fr;have ds:=ae nq;have dx:=ae kZ;have Rb:=ae Tz;clear nU SQ h5 s5 c5 aM b5 nq kZ Tz;go_wp2_with fail;refine b7.mono ?_;clear b7;rintro e e5 ⟨rfl,rfl⟩;go_wp2_with fail;obtain⟨WF,ad⟩:∃WF,((wS.setCell ⟨g+1,0,none⟩ (.int .i64 r)).setCell ⟨g+2,0,none⟩ (.int .i64 S1.used)).setCell ⟨g+3,0,none⟩ (.int .i64 0)=WF:=⟨_,rfl⟩
    have c4:WF.heap[D]? =some (.deferred (some [])):=by have :=(((KeepsOthers.setCell wS ⟨g+1,0,none⟩ (.int .i64 r)).trans (KeepsOthers.setCell _ ⟨g+2,0,none⟩ (.int .i64 S1.used))).trans (KeepsOthers.setCell _ ⟨g+3,0,none⟩ (.int .i64 0))).same D _ dD.o rfl;rw[ad]at this;exact this
    have XE:At WF (g+1) 3 #[.int .i64 r]:=by have :=((ds.o.yQ 0 (.int .i64 r)).other (p:=⟨g+2,0,none⟩) (by show g+2≠g+1;omega) (.int .i64 S1.used)).other (p:=⟨g+3,0,none⟩) (by show g+3≠g+1;omega) (.int .i64 0);rw[ad]at this;exact this
    have uq:At WF (g+2) 3 #[.int .i64 S1.used]:=by have :=((dx.o.other (p:=⟨g+1,0,none⟩) (by show g+1≠g+2;omega) (.int .i64 r)).yQ 0 (.int .i64 S1.used)).other (p:=⟨g+3,0,none⟩) (by show g+3≠g+2;omega) (.int .i64 0);rw[ad]at this;exact this
    have c8:At WF (g+3) 36 #[.int .i64 0]:=by have :=((Rb.o.other (p:=⟨g+1,0,none⟩) (by show g+1≠g+3;omega) (.int .i64 r)).other (p:=⟨g+2,0,none⟩) (by show g+2≠g+3;omega) (.int .i64 S1.used)).yQ 0 (.int .i64 0);rw[ad]at this;exact this
    have Nt:Fr [] w WF:=by have :=((eg.o.setCell (p:=⟨g+1,0,none⟩) (.inr (by rw[HG.o];exact Nat.le_succ _)) (.int .i64 r)).setCell (p:=⟨g+2,0,none⟩) (.inr (by rw[HG.o];exact Nat.le_add_right _ 2)) (.int .i64 S1.used)).setCell (p:=⟨g+3,0,none⟩) (.inr (by rw[HG.o];exact Nat.le_add_right _ 3)) (.int .i64 0);rw[ad]at this;exact this
    rw[ad];have Fp:=grownBy_putObj' WF D (.deferred none);have hr:∀r',some D=some r'->∃o:Obj,WF.heap[r']? =some o/\o.isCells=false:=fun r' e=>by cases e;exact⟨_,c4,rfl⟩
    have e1:=(XE.EE Fp hr).cell 0;have e2:=(uq.EE Fp hr).cell 0;have e3:=(c8.EE Fp hr).cell 0;simp at e1 e2 e3;have Ex:Fr [] w (WF.putObj D (.deferred none)):=Nt.trans (Ib Fp) (fun i hi=> .inr (by simp at hi;subst hi;exact aE (aE (Q5.o.ak fC.o).size b9.o.own.fr.size) HD.o));clear XE uq c8 Nt Fp hr ad;refine⟨by simp, .inl ⟨_,_,rfl,run_takeDeferred c4,?_⟩⟩;refine⟨.tuple #[.int .i64 r, .int .i64 S1.used, .int .i64 0],?_,S1,r,Oa.o,rfl,Ex⟩;simp[results,Tryz.f66,go_sem,e1,e2,e3]
end
section
open Go.RowKit
structure Vd where
 kind:Int
 pb:Int
 st:List UInt8
 A:Option Addr
 n:Nat
 c:Nat
 used:Int
def gF(H:Qh)(q:Qn)(v:Vd):Array Value:=
 #[.int .i64 q.C.mx, .slice H.H.iA q.C.ins.length H.H.iC, .slice H.H.lA q.C.az.length H.H.lC, .slice H.H.oA q.C.outs.length H.H.oC, .slice H.H.bA q.C.aI.length H.H.bC, .slice H.H.vA q.C.aH.length H.H.vC, .slice H.H.gA q.C.au.length H.H.gC, .slice H.H.nA q.C.bD.length H.H.nC, .slice H.aA q.am.length H.aC, .slice H.lA q.ls.length H.lC, .slice H.kA q.ks.length H.kC, .int .i64 q.bad, .int .i64 q.dep, .int .i64 q.ji, .int .i64 v.kind, .int .i64 v.pb,sv v.st, .slice v.A v.n v.c, .slice none 0 0, .slice none 0 0, .int .i64 v.used]
theorem nf{w:World}{g:Nat}{H:Qh}{q:Qn}{v:Vd}(h:At w g 77 (gF H q v)):w.cell? ⟨g,0,none⟩=some (.int .i64 q.C.mx)/\w.cell? ⟨g,1,none⟩=some (.slice H.H.iA q.C.ins.length H.H.iC)/\w.cell? ⟨g,2,none⟩=some (.slice H.H.lA q.C.az.length H.H.lC)/\w.cell? ⟨g,3,none⟩=some (.slice H.H.oA q.C.outs.length H.H.oC)/\w.cell? ⟨g,4,none⟩=some (.slice H.H.bA q.C.aI.length H.H.bC)/\w.cell? ⟨g,5,none⟩=some (.slice H.H.vA q.C.aH.length H.H.vC)/\w.cell? ⟨g,6,none⟩=some (.slice H.H.gA q.C.au.length H.H.gC)/\w.cell? ⟨g,7,none⟩=some (.slice H.H.nA q.C.bD.length H.H.nC)/\w.cell? ⟨g,8,none⟩=some (.slice H.aA q.am.length H.aC)/\w.cell? ⟨g,9,none⟩=some (.slice H.lA q.ls.length H.lC)/\w.cell? ⟨g,10,none⟩=some (.slice H.kA q.ks.length H.kC)/\w.cell? ⟨g,11,none⟩=some (.int .i64 q.bad)/\w.cell? ⟨g,12,none⟩=some (.int .i64 q.dep)/\w.cell? ⟨g,13,none⟩=some (.int .i64 q.ji)/\w.cell? ⟨g,14,none⟩=some (.int .i64 v.kind)/\w.cell? ⟨g,15,none⟩=some (.int .i64 v.pb)/\w.cell? ⟨g,16,none⟩=some (sv v.st)/\w.cell? ⟨g,17,none⟩=some (.slice v.A v.n v.c)/\w.cell? ⟨g,18,none⟩=some (.slice none 0 0)/\w.cell? ⟨g,19,none⟩=some (.slice none 0 0)/\w.cell? ⟨g,20,none⟩=some (.int .i64 v.used):=by refine⟨?_,?_,?_,?_,?_,?_,?_,?_,?_,?_,?_,?_,?_,?_,?_,?_,?_,?_,?_,?_,?_⟩<;>(rw[h.cell];rfl)
theorem DP{w:World}{g:Nat}{x0 x1 x2 x3 x4 x5 x6 x7 x8 x9 tj uU Jy QD QC QB Ve MA J ab YS:Value}(h:At w g 77 #[x0,x1,x2,x3,x4,x5,x6,x7,x8,x9,tj,uU,Jy,QD,QC,QB,Ve,MA,J,ab,YS]):
  w.cell? ⟨g,0,none⟩=some x0/\w.cell? ⟨g,1,none⟩=some x1/\w.cell? ⟨g,2,none⟩=some x2/\w.cell? ⟨g,3,none⟩=some x3/\w.cell? ⟨g,4,none⟩=some x4/\w.cell? ⟨g,5,none⟩=some x5/\w.cell? ⟨g,6,none⟩=some x6/\w.cell? ⟨g,7,none⟩=some x7/\w.cell? ⟨g,11,none⟩=some uU/\w.cell? ⟨g,14,none⟩=some QC:=by
 refine⟨?_,?_,?_,?_,?_,?_,?_,?_,?_,?_⟩<;>(rw[h.cell];rfl)
theorem wQ(w:World)(a:Nat)(H:Qh)(q:Qn)(v:Vd)(h:At w a 77 (gF H q v))(hv:0<=v.used/\v.used<=q.ji/\q.ji<=1099511627776):
  Calls Tryz.prog 63 #[.pointer (some ⟨a,0,none⟩)] w fun e w'=>e= .returned (.int .i64 (q.ji-v.used))/\Fr [] w w':=by
 obtain⟨-,-,-,-,-,-,-,-,-,-,-,-,-,Ae,-,-,-,-,-,-,J⟩:=nf h;have ab:=Ext.cell Ae;have ad:=Ext.cell J;have hw:IntKind.i64.wrap (q.ji-v.used)=q.ji-v.used:=IntWalk.i64_in _ (by omega);clear h;go_enter Tryz.func63,Tryz.ntmps63;go_upto_region 1 with fail;refine ap ?_;repeat (go_big_quiet_step (fail))
 refine fq ?_;intro w2 aT;go_wp2;go_ret;exact⟨rfl,aT.o⟩
theorem uj(w:World)(a:Nat)(H:Qh)(q:Qn)(v:Vd)(h:At w a 77 (gF H q v))(n:Int)(hv:0<=v.used+n/\v.used+n<=9223372036854775807):
  Calls Tryz.prog 65 #[.pointer (some ⟨a,0,none⟩), .int .i64 n] w fun e w'=>e= .returned (.tuple #[])/\At w' a 77 (gF H q { v with used:=min (v.used+n) q.ji })/\Fr [a] w w':=by
 obtain⟨-,-,-,-,-,-,-,-,-,-,-,-,-,Ae,-,-,-,-,-,-,ab⟩:=nf h;have CZ:=ae h;have VM:=ae Ae;have J:=ae ab;have ad:=ae (h.frozen 20);have ar:=ae h.lt;have aB:IntKind.i64.wrap (v.used+n)=v.used+n:=IntWalk.i64_in _ (by omega);clear h Ae ab;go_enter Tryz.func65,Tryz.ntmps65;refine qan ?_;refine bw (fun w':World=>Fr [] w w') 17 (by kernel_rfl) ((Fr.refl _ w).drew) (fun dy=> ?_);refine oI 17 [(0,[]),(1,[]),(2,[]),(3,[]),(4,[]),(5,[5,17]),(6,[]),(7,[]),(8,[]),(9,[]),(10,[]),(11,[]),(12,[12,17]),(13,[]),(14,[]),(15,[]),(16,[])] dy (fun w bT=>And.intro (bT.aF VM.o) (bT.aF J.o)) ?_;intro dy;refine R2 17 dy fun K hK aM=> ?_
 (have sb:=aM.aF J.o;have fb:World.frozen? _ _=_:=(World.frozen?_of_block (aM.block a ar.o (by simp))).trans ad.o;go_simp)
 refine hK.out _ _ (.inl rfl) (fun k6=> ?_);clear hK K;try simp only[Act.put,q5,q6,q7]
 refine fO ?_;obtain⟨W8,Vo⟩:∃W,(w.setCell ⟨a,20,none⟩ (.int .i64 (min (v.used+n) q.ji))).drew=W:=⟨_,rfl⟩
 have kc:Fr [a] w W8:=Vo▸((Fr.refl _ w).setCell (.inl (by simp)) _).drew;have tt:At W8 a 77 (gF H q { v with used:=min (v.used+n) q.ji }):=by have :=(CZ.o.dL 20 (.int .i64 (min (v.used+n) q.ji))).drew;rw[Vo]at this;exact this
 rw[Vo];have pV:=ae kc;have Jw:=ae tt;clear Vo kc tt aM;go_wp2_with fail;go_end0;exact⟨rfl,Jw.o,pV.o⟩
def Vd.base(v:Vd)(q:Qn)(S:Sv)(r:Int)(m:Nat)(A:Option Addr)(c:Nat):Vd:=
 if r=1 then⟨2,q.bad,VY S q.C,A,m+1,c,min (v.used+S.used) q.ji⟩else{ v with used:=min (v.used+S.used) q.ji }
def BaP(w:World)(a:Nat)(H:Qh)(q:Qn)(v:Vd)(m:Nat)(S:Sv)(r:Int)(e:Ending)(w':World):Prop:=
 ∃A c,e= .returned (.tuple #[.bool (r !=2), .int .i64 0])/\At w' a 77 (gF H q (v.base q S r m A c))/\Fr [a] w w'/\(r=1->eY w' A c (Fj S q.C (m+1))/\∀k∈ao A,w.heap.size<=k)
theorem GH(w0 w:World)(a:Nat)(H:Qh)(q:Qn)(v:Vd)(Q0:uO w0 H q)(QV:Fr [] w0 w)(ZE:w0.heap.size<=a)(hu:uV q=0)(jN:sa q.C.mx (q.am.map (·.l)++q.ls.map (·.l)))(Pp:q.ks=[])(j4:At w a 77 (gF H q v))(m:Nat)(hm:m<=79)(hb:cu q.C ((m+1:Nat):Int)<=262143)(Zf:0<=v.used/\v.used<=q.ji)
  {red:Bool} (rO:red=true->IM) {Dd Cc:Nat} {Q:Sv->Int->Prop} (hQ:(uv q.C (q.am.map (·.l)++q.ls.map (·.l)) true (m+1) (m+1)).fE red (q.ji-v.used) [bV (cu q.C m) (sY q)] Dd Cc Q) (b6:∀S r,Q S r->(S.has=true->S.model.length=S.vars+1)/\S.used<4611686018427387904):
  Calls Tryz.prog 35 #[.pointer (some ⟨a,0,none⟩), .int .i64 ((m:Int)+1)] w fun e w'=>∃S r,Q S r/\BaP w a H q v m S r e w':=by
 have h:=Q0.keep QV;have cG:=ae j4.lt;obtain⟨hv,mT,-⟩:=sE hu;have ba:=qz w H q h hu jN Pp true (m+1) ⟨by omega,by omega⟩ hb;rw[show((m+1:Nat):Int)=(m:Int)+1 by omega]at ba;have aK:=ae ba;clear ba;have ct:=ae (fun W (hW:Fr [] w W)=>wQ W a H q v (hW.at_ j4 (by simp)) ⟨Zf.1,Zf.2,mT.2.2.2.2.2⟩);have bo:=ae (fun W (hW:Fr [] w W)=>zn W H q (h.keep hW) hv ⟨mT.1,mT.2.1⟩ m hm);have PB:=yy hv ⟨mT.1,mT.2.1⟩;have sl:=hv.m1;have bt:=mz (b:=cu q.C (m:Int)) (l:=sY q) (by have :=jp hv.m0 hv.m1 (f:=(m:Int)) (by omega);omega) (by omega);obtain⟨lt,bI⟩:∃lt,bV (cu q.C (m:Int)) (sY q)=lt:=⟨_,rfl⟩
 have ar:=yu hv jN (fst:=true) (aq (m+1)) ⟨by omega,by omega⟩ hb;obtain⟨SB,b9⟩:∃SB,uv q.C (q.am.map (·.l)++q.ls.map (·.l)) true (m+1) (m+1)=SB:=⟨_,rfl⟩
 rw[bI]at bo bt hQ;rw[b9]at aK hQ ar;have hR:eJ lt:=⟨by omega,by omega⟩
 have cB:aj (∀(w2:World)(L2:aO),Own w w2 L2 SB->∀W,Fr [] w2 W->∀A c,Ints W A c [lt]->(∀k∈ao A,w2.heap.size<=k)->Calls Tryz.prog 39 #[.pointer (some ⟨L2.a,0,none⟩), .int .i64 (q.ji-v.used), .slice A 1 c] W fun e w'=>∃S1 r L1,Q S1 r/\((S1.has=true->S1.model.length=S1.vars+1)/\S1.used<4611686018427387904)/\e= .returned (.int .i64 r)/\L1.a=L2.a/\Own w w' L1 S1):=fun w2 L2 ho W hW A c hi jC=>by refine(OwnX.BY (X:=[]) ⟨ho,fun k hk=>by cases hk⟩ ar.ok ar.used hW hi jC (F9 hR) (by simp) rO hQ).mono ?_;rintro e w' ⟨S1,r,g1,-,rfl,L1,g4,g5,-⟩;exact⟨S1,r,L1,g1,b6 _ _ g1,rfl,g4,g5.own⟩
 have cz:=ae (fun W (hW:Fr [] w W) (n:Int) hn=>uj W a H q v (hW.at_ j4 (by simp)) n hn);have cE:=nf j4;have bB:aj (∀(W:World)(L:aO)(S:Sv),bh W L S->(S.has=true->S.model.length=S.vars+1)->Fr [a] w W->Calls Tryz.prog 43 #[.pointer (some ⟨L.a,0,none⟩),bY H.H q.C, .int .i64 (m:Int), .int .i64 q.bad] W fun e w'=>∃A c,e= .returned (.agg #[.int .i64 q.bad,sv (VY S q.C), .slice A (m+1) c])/\eY w' A c (Fj S q.C (m+1))/\(∀k∈ao A,W.heap.size<=k)/\Fr [] W w'):=fun W L S hs dm hW=>Gt W L S hs dm H.H q.C (Q0.c.keep (QV.trans hW (fun k hk=> .inr (by simp at hk;subst hk;exact ZE)))) hv m hm q.bad;have aB:aj (∀(S:Sv)(r:Int)(W:World)(b:Bool),r≠1->(r !=2)=b->At W a 77 (gF H q { v with used:=min (v.used+S.used) q.ji })->Fr [a] w W->BaP w a H q v m S r (.returned (.tuple #[.bool b, .int .i64 0])) W):=fun S r W b h1 h2 h3 h4=>⟨none,0,by rw[h2],by unfold Vd.base;rw[qah h1];exact h3,h4,fun e=>absurd e h1⟩
 have tz:aj (∀(S:Sv)(W:World)(A:Option Addr)(c:Nat),At W a 77 (gF H q ⟨2,q.bad,VY S q.C,A,m+1,c,min (v.used+S.used) q.ji⟩)->Fr [a] w W->eY W A c (Fj S q.C (m+1))->(∀k∈ao A,w.heap.size<=k)->BaP w a H q v m S 1 (.returned (.tuple #[.bool true, .int .i64 0])) W):=fun S W A c h3 h4 h5 h6=>⟨A,c,rfl,by unfold Vd.base;rw[qai rfl];exact h3,h4,fun _=>⟨h5,h6⟩⟩
 obtain⟨RP,b7⟩:∃RP,BaP w a H q v m=RP:=⟨_,rfl⟩
 obtain⟨ST,b1⟩:∃ST:Sv->List UInt8,(fun S=>VY S q.C)=ST:=⟨_,rfl⟩
 obtain⟨IN,b2⟩:∃IN:Sv->Nat->List (List UInt8),(fun S=>Fj S q.C)=IN:=⟨_,rfl⟩
 have bS:∀S,VY S q.C=ST S:=fun S=>congrFun b1 S;have b3:∀S,Fj S q.C=IN S:=fun S=>congrFun b2 S;simp only[b7,bS,b3]at aB tz bB⊢;have dG:IntKind.i64.wrap ((m:Int)+1-1)=(m:Int):=by rw[show(m:Int)+1-1=m by omega];exact IntWalk.i64_in _ (by omega)
 have dx:IntKind.i64.wrap (m:Int)=(m:Int):=IntWalk.i64_in _ (by omega);have bj:=ae Zf;have ca:=mT.2.2.2.2.2;have cp:=ae ca;have CZ:=ae j4;clear h Q0 QV ZE hu hv mT jN j4 PB sl bt bI hR b9 b7 b1 b2 bS b3 hb Pp ar hQ b6 ca;obtain⟨⟨mx,ins,az,outs,aI,aH,au,bD⟩,am,ls,ks,bad,dep,ji⟩:=q;obtain⟨⟨iA,iC,lA,lC,oA,oC,bA,bC,vA,vC,gA,gC,nA,nC⟩,aA,aC,mA,mC,kA,kC⟩:=H;obtain⟨kd,pb,st,pA,pn,pc,us⟩:=v;simp only[mv,pH,bY,fv,gF]at *;obtain⟨c0,c1,c2,c3,c4,c5,c6,c7,c8,c9,PX,BD,BC,Ae,NS,cI,b5,cO,cS,df,di⟩:=cE;simp only[sv]at b5;go_enter Tryz.func35,Tryz.ntmps35;go_upto_region 1 with fail;go_wp2_with fail;refine aK.o.mono ?_;rintro e w2 ⟨L2,rfl,En⟩;have qR:=ae En;have C0:=ae (En.fr.aF c0);have C1:=ae (En.fr.aF c1);have C2:=ae (En.fr.aF c2);have C3:=ae (En.fr.aF c3);have C4:=ae (En.fr.aF c4);have C5:=ae (En.fr.aF c5);have C6:=ae (En.fr.aF c6);have C7:=ae (En.fr.aF c7);have C8:=ae (En.fr.aF c8);have C9:=ae (En.fr.aF c9);have bb:=ae (En.fr.aF PX);have VN:=ae (En.fr.aF BD);have bg:=ae (En.fr.aF BC);have VM:=ae (En.fr.aF Ae);clear En aK c0 c1 c2 c3 c4 c5 c6 c7 c8 c9 PX BD BC Ae NS cI b5 cO cS df di;go_upto_region 4 with fail;refine qan ?_;refine bw (fun w':World=>Fr [] w2 w') 11 (by kernel_rfl) ((Fr.refl _ w2).drew) (fun dy=> ?_);refine oI 8 [(0,[]),(1,[]),(3,[]),(4,[]),(5,[]),(6,[6,9,11]),(7,[]),(8,[])] dy (fun w bT=>And.intro (bT.aF C0.o) (And.intro (bT.aF C1.o) (And.intro (bT.aF C2.o) (And.intro (bT.aF C3.o) (And.intro (bT.aF C4.o) (And.intro (bT.aF C5.o) (And.intro (bT.aF C6.o) (And.intro (bT.aF C7.o) (And.intro (bT.aF C8.o) (And.intro (bT.aF C9.o) (And.intro (bT.aF bb.o) (And.intro (bT.aF VN.o) (And.intro (bT.aF bg.o) (bT.aF VM.o)))))))))))))) ?_;intro dy;refine R2 2 dy fun K hK J=> ?_
 (go_simp;refine(ct.o _ (qR.o.fr.ak J)).mono ?_;rintro e w3 ⟨rfl,dN⟩;dsimp only)
 refine hK.out _ _ (.inr ?_) (fun TD=> ?_)
 ·first |exact J.ak fG |exact J.ak dN |exact J.alloc _ |exact J
 clear hK K;try simp only[Act.put,q5,q6,q7]
 refine R2 9 TD fun K hK J=> ?_
 (go_simp;refine(bo.o _ (qR.o.fr.ak J)).mono ?_;rintro e w4 ⟨rfl,fG⟩;dsimp only)
 refine hK.out _ _ (.inr ?_) (fun kG=> ?_)
 ·first |exact J.ak fG |exact J.ak dN |exact J.alloc _ |exact J
 clear hK K;try simp only[Act.put,q5,q6,q7]
 refine R2 10 kG fun K hK J=> ?_
 (have UC:=ae J.size;go_simp)
 refine hK.out _ _ (.inr ?_) (fun nO=> ?_)
 ·first |exact J.ak fG |exact J.ak dN |exact J.alloc _ |exact J
 clear hK K;try simp only[Act.put,q5,q6,q7]
 refine R2 11 nO fun K hK J=> ?_
 (go_simp;refine(cB.o w2 L2 qR.o _ J _ _ (gS _ [lt] (by simp[maxLen])) (fun j hj=>by simp[ao]at hj;subst hj;exact UC.o)).mono ?_;rintro e w6 ⟨S1,r,L1,g1,⟨g2,g3⟩,rfl,g4,g5⟩;dsimp only)
 refine hK.out _ _ (.inl rfl) (fun jO=> ?_);clear hK K;try simp only[Act.put,q5,q6,q7]
 refine R1 (i:=12) (o:= ?akM) (by kernel_rfl) (by rfl) ?_;intro K hK;go_simp;refine hK.out _ _ (.inl rfl) (fun oE=> ?_);clear hK K;try simp only[Act.put,q5,q6,q7]
 refine fO ?_;have YI:=ae g1;have qT:=ae g2;have AK:=g3;have vX:=ae g5;have aT:=yH w6 L1 S1 g5.sv;rw[g4]at aT;have bG:=cz.o w6 g5.fr (S1.used:Int) ⟨by have :=bj.o;omega,by have :=bj.o;have :=cp.o;omega⟩;have cy:aj (∀W,bh W L1 S1->Fr [a] w W->Calls Tryz.prog 43 #[.pointer (some ⟨L2.a,0,none⟩), .agg #[.int .i64 mx, .slice iA ins.length iC, .slice lA az.length lC, .slice oA outs.length oC, .slice bA aI.length bC, .slice vA aH.length vC, .slice gA au.length gC, .slice nA bD.length nC], .int .i64 (m:Int), .int .i64 bad] W fun e w'=>∃A c,e= .returned (.agg #[.int .i64 bad, .string ⟨(ST S1).toArray⟩, .slice A (m+1) c])/\eY w' A c (IN S1 (m+1))/\(∀k∈ao A,W.heap.size<=k)/\Fr [] W w'):=fun W h1 h2=>g4▸bB.o W L1 S1 h1 g2 h2;clear g1 g2 g3 g5 J C0 C1 C2 C3 C4 C5 C6 C7 C8 C9 bb VN bg VM;go_wp2_with fail;refine aT.mono ?_;clear aT;rintro e w7 ⟨rfl,rfl⟩;go_wp2_with fail;refine bG.mono ?_;clear bG;rintro e W8 ⟨rfl,tt,kc⟩;have Jw:aj (At W8 a 77 #[.int .i64 mx, .slice iA ins.length iC, .slice lA az.length lC, .slice oA outs.length oC, .slice bA aI.length bC, .slice vA aH.length vC, .slice gA au.length gC, .slice nA bD.length nC, .slice aA am.length aC, .slice mA ls.length mC, .slice kA ks.length kC, .int .i64 bad, .int .i64 dep, .int .i64 ji, .int .i64 kd, .int .i64 pb,sv st, .slice pA pn pc, .slice none 0 0, .slice none 0 0, .int .i64 (min (us+(S1.used:Int)) ji)]):=tt;have cr:aj (bh W8 L1 S1):=vX.o.sv.fr kc (fun k hk _=>by simp at hk;subst hk;exact vX.o.nw _ cG.o);have pV:aj (Fr [a] w W8):=(vX.o.fr.mono (fun _ h=>by cases h)).ak kc;clear tt kc;by_cases QO:r=1
 ·subst QO;have hc:=DP Jw.o;obtain⟨c0,c1,c2,c3,c4,c5,c6,c7,BD,NS⟩:=hc;have C0:=ae c0;have C1:=ae c1;have C2:=ae c2;have C3:=ae c3;have C4:=ae c4;have C5:=ae c5;have C6:=ae c6;have C7:=ae c7;have VN:=ae BD;have ch:=ae NS;have cn:=ae (Jw.o.frozen 14);have b4:=ae Jw.o.lt;clear c0 c1 c2 c3 c4 c5 c6 c7 BD NS;go_upto_region 7 with fail;refine qan ?_;refine bw (fun w':World=>Fr [] W8 w') 19 (by kernel_rfl) ((Fr.refl _ W8).drew) (fun dy=> ?_);refine oI 15 [(0,[]),(1,[]),(2,[]),(3,[]),(4,[]),(5,[]),(6,[]),(7,[7,19]),(8,[]),(9,[]),(10,[]),(11,[]),(12,[]),(13,[]),(14,[14,19])] dy (fun w bT=>And.intro (bT.aF C0.o) (And.intro (bT.aF C1.o) (And.intro (bT.aF C2.o) (And.intro (bT.aF C3.o) (And.intro (bT.aF C4.o) (And.intro (bT.aF C5.o) (And.intro (bT.aF C6.o) (And.intro (bT.aF C7.o) (bT.aF VN.o))))))))) ?_;intro dy;refine R2 15 dy fun K hK J=> ?_
  (go_simp;refine(cy.o _ (cr.o.keep J) (pV.o.trans J (fun _ h=>by cases h))).mono ?_;rintro e QE ⟨ab,PX,rfl,bO,G7,b0⟩;dsimp only)
  refine hK.out _ _ (.inr ?_) (fun lR=> ?_)
  ·first |exact J.ak b0 |exact J
  clear hK K;try simp only[Act.put,q5,q6,q7]
  refine TB 3 [(16,[]),(17,[]),(18,[])] lR ?_;intro lR;refine R2 19 lR fun K hK J=> ?_
  (have dn:=J.aF ch.o;have g14:World.frozen? _ _=_:=(World.frozen?_of_block (J.block a b4.o (by simp))).trans cn.o;have Vt:=(J.at_ Jw.o (by simp)).dL 14 (.int .i64 2);have cb:=Vt.cell 15;have cc:=Vt.cell 16;have cf:=Vt.cell 17;simp at cb cc cf;have dq:=Vt.frozen 15;have ds:=Vt.frozen 16;have z17:=Vt.frozen 17;go_simp)
  refine hK.out _ _ (.inl rfl) (fun zA=> ?_);clear hK K;try simp only[Act.put,q5,q6,q7]
  refine TB 3 [(20,[]),(21,[]),(22,[])] zA ?_;intro zA;refine R1 (i:=23) (o:= ?aaD) (by kernel_rfl) (by rfl) ?_;intro K hK;go_simp;refine hK.out _ _ (.inl rfl) (fun dD=> ?_);clear hK K;try simp only[Act.put,q5,q6,q7]
  refine fO ?_;obtain⟨a1,hW⟩:∃W,(((QE.setCell ⟨a,14,none⟩ (.int .i64 2)).setCell ⟨a,15,none⟩ (.int .i64 bad)).setCell ⟨a,16,none⟩ (.string ⟨(ST S1).toArray⟩)).setCell ⟨a,17,none⟩ (.slice ab (m+1) PX)=W:=⟨_,rfl⟩
  rw[hW];have j4:At a1 a 77 #[.int .i64 mx, .slice iA ins.length iC, .slice lA az.length lC, .slice oA outs.length oC, .slice bA aI.length bC, .slice vA aH.length vC, .slice gA au.length gC, .slice nA bD.length nC, .slice aA am.length aC, .slice mA ls.length mC, .slice kA ks.length kC, .int .i64 bad, .int .i64 dep, .int .i64 ji, .int .i64 2, .int .i64 bad,sv (ST S1), .slice ab (m+1) PX, .slice none 0 0, .slice none 0 0, .int .i64 (min (us+(S1.used:Int)) ji)]:=by have :=(((Vt).dL 15 (.int .i64 bad)).dL 16 (.string ⟨(ST S1).toArray⟩)).dL 17 (.slice ab (m+1) PX);rw[hW]at this;exact this
  have hf:Fr [a] QE a1:=hW▸((((Fr.refl _ QE).setCell (.inl (by simp)) _).setCell (.inl (by simp)) _).setCell (.inl (by simp)) _).setCell (.inl (by simp)) _;have Vj:∀k∈ao ab,W8.heap.size<=k:=fun k hk=>G7 k hk;have FF:=ae (tz.o S1 a1 ab PX j4 ((pV.o.trans J (fun _ h=>by cases h)).ak hf) (hf.own bO (fun j hj hm=>by
   rw[ag.1 hm]at hj;have Np:=b4.o;cases ab with
   |none=>cases hj
   |some ad=>
    have :a∈ao (some ad):=by simp[Value.ownBlock]at hj;simp[ao];exact hj.symm
    have :=Vj a this;omega)) (fun k hk=>aE pV.o.size (Vj k hk)))
  clear hW j4 hf Vj G7 bO b0 dn g14 Vt cb cc cf dq ds z17 J;go_wp2;go_ret2;exact⟨S1,1,YI.o,FF.o⟩
 ·have d1:(r==(1:Int))=false:=by simpa using QO
  by_cases pP:r=2
  ·subst pP;have FF:=ae (aB.o S1 2 W8 false (by decide) (by decide) Jw.o pV.o);go_wp2;go_ret2;exact⟨S1,2,YI.o,FF.o⟩
  ·have d2:(r !=(2:Int))=true:=by simpa using pP
   have d3:(r==(2:Int))=false:=by simpa using pP
   have FF:=ae (aB.o S1 r W8 true QO d2 Jw.o pV.o);go_wp2;go_ret2;exact⟨S1,r,YI.o,FF.o⟩
def Vd.step(v:Vd)(q:Qn)(S:Sv)(r:Int):Vd:={ v with kind:=if r=2 then 1 else v.kind,used:=min (v.used+S.used) q.ji }
theorem Ef(w:World)(a:Nat)(H:Qh)(q:Qn)(v:Vd)(h:uO w H q)(hu:uV q=0)(jN:sa q.C.mx (q.am.map (·.l)++q.ls.map (·.l)))(Pp:q.ks=[])(j4:At w a 77 (gF H q v))(k:Nat)(hk:k<=79)
  (je:cu q.C ((k+1:Nat):Int)+((q.C.az.length*k*(k+1)/2:Nat):Int)<=262143) (Zf:0<=v.used/\v.used<=q.ji)
  {red:Bool} (rO:red=true->IM) {Dd Cc:Nat} {Q:Sv->Int->Prop} (hQ:((xz q.C (uv q.C (q.am.map (·.l)++q.ls.map (·.l)) false (k+1) (k+1)) (nT (k+1) 0)).cF ((List.range k).map fun a:Nat=>[-(bV (cu q.C a) (sY q))])).fE red (q.ji-v.used) [bV (cu q.C k) (sY q)] Dd Cc Q) (aT:∀S r,Q S r->S.used<4611686018427387904):
  Calls Tryz.prog 36 #[.pointer (some ⟨a,0,none⟩), .int .i64 k] w fun e w'=>∃S1 r,Q S1 r/\e= .returned (.tuple #[.bool (r !=1), .int .i64 0])/\At w' a 77 (gF H q (v.step q S1 r))/\Fr [a] w w':=by
 obtain⟨hv,mT,-⟩:=sE hu;have ar:=ae (fun W (hW:Fr [] w W)=>wQ W a H q v (hW.at_ j4 (by simp)) ⟨Zf.1,Zf.2,mT.2.2.2.2.2⟩);have IT:=ae (fun W (hW:Fr [] w W)=>GC W H q (h.keep hW) hu jN Pp k hk (q.ji-v.used) je rO hQ);have bt:=ae (fun W (hW:Fr [] w W) (n:Int) hn=>uj W a H q v (hW.at_ j4 (by simp)) n hn);have bo:=ae aT;have bB:=nf j4;have ad:=ae Zf;have bj:=ae mT.2.2.2.2.2;obtain⟨BQ,aK⟩:∃BQ,q.ji-v.used=BQ:=⟨_,rfl⟩
 rw[aK]at ar IT;have ab:aj (∀(W:World)(S1:Sv)(r kd:Int),(if r=2 then 1 else v.kind)=kd->At W a 77 (gF H q { v with kind:=kd,used:=min (v.used+S1.used) q.ji })->At W a 77 (gF H q (v.step q S1 r))):=fun W S1 r kd e h=>by unfold Vd.step;rw[e];exact h
 have bG:aj (∀(W:World)(u:Int),At W a 77 (gF H q { v with used:=u })->(W.cell? ⟨a,14,none⟩=some (.int .i64 v.kind)/\W.frozen? ⟨a,14,none⟩=false)/\At (W.setCell ⟨a,14,none⟩ (.int .i64 1)) a 77 (gF H q { v with kind:=1,used:=u })):=fun W u h=>⟨⟨by rw[h.cell];rfl,h.frozen 14⟩,h.dL 14 (.int .i64 1)⟩
 clear h hu jN Pp j4 je Zf hQ aT hv mT aK;simp only[mv,pH]at IT;obtain⟨c0,c1,c2,c3,c4,c5,c6,c7,c8,c9,PX,BD,BC,Ae,-,-,-,-,-,-,-⟩:=bB;have C0:=ae c0;have C1:=ae c1;have C2:=ae c2;have C3:=ae c3;have C4:=ae c4;have C5:=ae c5;have C6:=ae c6;have C7:=ae c7;have C8:=ae c8;have C9:=ae c9;have bb:=ae PX;have VN:=ae BD;have bg:=ae BC;have VM:=ae Ae;clear c0 c1 c2 c3 c4 c5 c6 c7 c8 c9 PX BD BC Ae;go_enter Tryz.func36,Tryz.ntmps36;go_upto_region 1 with fail;refine qan ?_;refine bw (fun w':World=>Fr [] w w') 7 (by kernel_rfl) ((Fr.refl _ w).drew) (fun dy=> ?_);refine oI 6 [(0,[]),(1,[]),(2,[]),(3,[3,7]),(4,[]),(5,[])] dy (fun w J=>And.intro (J.aF C0.o) (And.intro (J.aF C1.o) (And.intro (J.aF C2.o) (And.intro (J.aF C3.o) (And.intro (J.aF C4.o) (And.intro (J.aF C5.o) (And.intro (J.aF C6.o) (And.intro (J.aF C7.o) (And.intro (J.aF C8.o) (And.intro (J.aF C9.o) (And.intro (J.aF bb.o) (And.intro (J.aF VN.o) (And.intro (J.aF bg.o) (J.aF VM.o)))))))))))))) ?_;intro dy;refine R2 6 dy fun K hK aM=> ?_
 (go_simp;refine(ar.o _ aM).mono ?_;rintro e w3 ⟨rfl,dN⟩;dsimp only)
 refine hK.out _ _ (.inr ?_) (fun Vq=> ?_)
 ·first |exact aM.ak dN |exact aM
 clear hK K;try simp only[Act.put,q5,q6,q7]
 refine R2 7 Vq fun K hK aM=> ?_
 (go_simp;refine(IT.o _ aM).mono ?_;rintro e w4 ⟨S1,r,g1,rfl,fG⟩;dsimp only)
 refine hK.out _ _ (.inl rfl) (fun Lo=> ?_);clear hK K;try simp only[Act.put,q5,q6,q7]
 refine TB 4 [(8,[]),(9,[]),(10,[]),(11,[])] Lo ?_;intro Lo;refine R1 (i:=12) (o:= ?ak2) (by kernel_rfl) (by rfl) ?_;intro K hK;go_simp;refine hK.out _ _ (.inl rfl) (fun oE=> ?_);clear hK K;try simp only[Act.put,q5,q6,q7]
 refine R1 (i:=13) (o:= ?ak1) (by kernel_rfl) (by rfl) ?_;intro K hK;go_simp;refine hK.out _ _ (.inl rfl) (fun mU=> ?_);clear hK K;try simp only[Act.put,q5,q6,q7]
 refine R1 (i:=14) (o:= ?ak0) (by kernel_rfl) (by rfl) ?_;intro K hK;go_simp;refine hK.out _ _ (.inl rfl) (fun bI=> ?_);clear hK K;try simp only[Act.put,q5,q6,q7]
 refine fO ?_;have YI:=ae g1;have aB:=bt.o w4 (aM.ak fG) (S1.used:Int) ⟨by have :=ad.o;omega,by have :=ad.o;have :=bj.o;have :=bo.o _ _ g1;omega⟩;have ic:aj (Fr [] w w4):=aM.ak fG;clear g1 aM fG;go_wp2_with fail;refine aB.mono ?_;clear aB;rintro e W8 ⟨rfl,tt,kc⟩;have Jw:=ae tt;have pV:aj (Fr [a] w W8):=(ic.o.mono (fun _ h=>by cases h)).ak kc;clear tt kc;by_cases pP:r=2
 ·subst pP;obtain⟨⟨bO,bS⟩,a1⟩:=bG.o W8 _ Jw.o;have ba:Fr [a] w (W8.setCell ⟨a,14,none⟩ (.int .i64 1)):=pV.o.setCell (.inl (by simp)) _;have FF:=ae (ab.o _ S1 2 1 (qai rfl) a1);have FE:=ae ba;clear a1 ba;go_wp2;go_ret2;exact⟨S1,2,YI.o,rfl,FF.o,FE.o⟩
 ·have d2:(r==(2:Int))=false:=by simpa using pP
  have FF:=ae (ab.o W8 S1 r v.kind (qah pP) Jw.o);go_wp2;go_ret2;exact⟨S1,r,YI.o,rfl,FF.o,pV.o⟩
def lF(v:Vd):Value:= .agg #[.int .i64 v.kind, .int .i64 v.pb,sv v.st, .slice v.A v.n v.c, .slice none 0 0, .slice none 0 0, .int .i64 v.used]
def Emp(v:Vd):Prop:=v.A=none/\v.n=0/\v.c=0
theorem Ad{w:World}{g:Nat}{t:TypeId}{J x1 x2 x3 x4 x5 x6:Value}(h:At w g t #[J,x1,x2,x3,x4,x5,x6]):
  w.cell? ⟨g,0,none⟩=some J/\w.cell? ⟨g,1,none⟩=some x1/\w.cell? ⟨g,2,none⟩=some x2/\w.cell? ⟨g,3,none⟩=some x3/\w.cell? ⟨g,4,none⟩=some x4/\w.cell? ⟨g,5,none⟩=some x5/\w.cell? ⟨g,6,none⟩=some x6:=by
 refine⟨?_,?_,?_,?_,?_,?_,?_⟩<;>(rw[h.cell];rfl)
theorem vq{w:World}{g:Nat}{x0 x1 x2 x3 x4 x5 x6 x7 x8 x9 tj uU Jy QD QC QB Ve MA J ab YS:Value}(h:At w g 77 #[x0,x1,x2,x3,x4,x5,x6,x7,x8,x9,tj,uU,Jy,QD,QC,QB,Ve,MA,J,ab,YS]):
  w.cell? ⟨g,14,none⟩=some QC/\w.cell? ⟨g,15,none⟩=some QB/\w.cell? ⟨g,16,none⟩=some Ve/\w.cell? ⟨g,17,none⟩=some MA/\w.cell? ⟨g,18,none⟩=some J/\w.cell? ⟨g,19,none⟩=some ab/\w.cell? ⟨g,20,none⟩=some YS:=by
 refine⟨?_,?_,?_,?_,?_,?_,?_⟩<;>(rw[h.cell];rfl)
theorem aav{w:World}{g:Nat}{t:TypeId}{x0 x1 x2 x3 x4 x5 x6:Value}(h:At w g t #[x0,x1,x2,x3,x4,x5,x6])(J y1 y2 y3 y4 y5 y6:Value):
  ∃W,((((((w.setCell ⟨g,0,none⟩ J).setCell ⟨g,1,none⟩ y1).setCell ⟨g,2,none⟩ y2).setCell ⟨g,3,none⟩ y3).setCell ⟨g,4,none⟩ y4).setCell ⟨g,5,none⟩ y5).setCell ⟨g,6,none⟩ y6=W/\Fr [g] w W/\
   W.cell? ⟨g,0,none⟩=some J/\W.cell? ⟨g,1,none⟩=some y1/\W.cell? ⟨g,2,none⟩=some y2/\W.cell? ⟨g,3,none⟩=some y3/\W.cell? ⟨g,4,none⟩=some y4/\W.cell? ⟨g,5,none⟩=some y5/\W.cell? ⟨g,6,none⟩=some y6:=by
 have h0:At (w.setCell ⟨g,0,none⟩ J) g t #[J,x1,x2,x3,x4,x5,x6]:=h.dL 0 J;have h1:At ((w.setCell ⟨g,0,none⟩ J).setCell ⟨g,1,none⟩ y1) g t #[J,y1,x2,x3,x4,x5,x6]:=h0.dL 1 y1;have h2:At (((w.setCell ⟨g,0,none⟩ J).setCell ⟨g,1,none⟩ y1).setCell ⟨g,2,none⟩ y2) g t #[J,y1,y2,x3,x4,x5,x6]:=h1.dL 2 y2;have h3:At ((((w.setCell ⟨g,0,none⟩ J).setCell ⟨g,1,none⟩ y1).setCell ⟨g,2,none⟩ y2).setCell ⟨g,3,none⟩ y3) g t #[J,y1,y2,y3,x4,x5,x6]:=h2.dL 3 y3;have h4:At (((((w.setCell ⟨g,0,none⟩ J).setCell ⟨g,1,none⟩ y1).setCell ⟨g,2,none⟩ y2).setCell ⟨g,3,none⟩ y3).setCell ⟨g,4,none⟩ y4) g t #[J,y1,y2,y3,y4,x5,x6]:=h3.dL 4 y4;have h5:At ((((((w.setCell ⟨g,0,none⟩ J).setCell ⟨g,1,none⟩ y1).setCell ⟨g,2,none⟩ y2).setCell ⟨g,3,none⟩ y3).setCell ⟨g,4,none⟩ y4).setCell ⟨g,5,none⟩ y5) g t #[J,y1,y2,y3,y4,y5,x6]:=h4.dL 5 y5;have h6:At (((((((w.setCell ⟨g,0,none⟩ J).setCell ⟨g,1,none⟩ y1).setCell ⟨g,2,none⟩ y2).setCell ⟨g,3,none⟩ y3).setCell ⟨g,4,none⟩ y4).setCell ⟨g,5,none⟩ y5).setCell ⟨g,6,none⟩ y6) g t #[J,y1,y2,y3,y4,y5,y6]:=h5.dL 6 y6;obtain⟨W,hW⟩:∃W,((((((w.setCell ⟨g,0,none⟩ J).setCell ⟨g,1,none⟩ y1).setCell ⟨g,2,none⟩ y2).setCell ⟨g,3,none⟩ y3).setCell ⟨g,4,none⟩ y4).setCell ⟨g,5,none⟩ y5).setCell ⟨g,6,none⟩ y6=W:=⟨_,rfl⟩
 rw[hW]at h6;have hf:Fr [g] w W:=hW▸(((((((Fr.refl _ w).setCell (.inl (by simp)) _).setCell (.inl (by simp)) _).setCell (.inl (by simp)) _).setCell (.inl (by simp)) _).setCell (.inl (by simp)) _).setCell (.inl (by simp)) _).setCell (.inl (by simp)) _;exact⟨W,hW,hf,by rw[h6.cell];rfl,by rw[h6.cell];rfl,by rw[h6.cell];rfl,by rw[h6.cell];rfl,by rw[h6.cell];rfl,by rw[h6.cell];rfl,by rw[h6.cell];rfl⟩
structure Uu(q:Qn)(d:Nat)(I I2:Nat->Vd->Prop)(Oe:Vd->List (List UInt8)->Prop):Prop where
 pG:∀k v,I k v->Emp v/\0<=v.used/\v.used<=q.ji
 aeB:∀k v,I2 k v->Emp v/\0<=v.used/\v.used<=q.ji
 base:∀k v,k<=d->I k v->∃D C,(uv q.C (q.am.map (·.l)++q.ls.map (·.l)) true (k+1) (k+1)).fE true (q.ji-v.used) [bV (cu q.C k) (sY q)] D C fun S r=>((S.has=true->S.model.length=S.vars+1)/\S.used<4611686018427387904)/\
  ((r=1/\∀A c,Oe (v.base q S 1 k A c) (Fj S q.C (k+1)))\/(r≠1/\r≠2/\Oe { v with used:=min (v.used+S.used) q.ji } [])\/(r=2/\I2 k { v with used:=min (v.used+S.used) q.ji }))
 step:∀k v,k<=d->I2 k v->∃D C,((xz q.C (uv q.C (q.am.map (·.l)++q.ls.map (·.l)) false (k+1) (k+1)) (nT (k+1) 0)).cF ((List.range k).map fun a:Nat=>[-(bV (cu q.C a) (sY q))])).fE true (q.ji-v.used) [bV (cu q.C k) (sY q)] D C fun S r=>S.used<4611686018427387904/\
  ((r=1/\I (k+1) (v.step q S 1))\/(r≠1/\Oe (v.step q S r) []))
 fin:∀v,I (d+1) v->Oe v []
theorem Rv(w:World){v:Vd}(h:Emp v):eY w v.A v.c []:=by rw[h.1,h.2.2];exact World.ownsRow_nil _ 0 _ 1
theorem E3{C:Pc}(hv:Valid C){d:Nat}(h:cu C ((d+1:Nat):Int)+((C.az.length*d*(d+1)/2:Nat):Int)<=262143){k:Nat}(hk:k<=d):cu C ((k+1:Nat):Int)<=262143/\cu C ((k+1:Nat):Int)+((C.az.length*k*(k+1)/2:Nat):Int)<=262143:=by have h1:=gI hv.m0 (f:=((k+1:Nat):Int)) (g:=((d+1:Nat):Int)) (by omega);have h2:C.az.length*k*(k+1)<=C.az.length*d*(d+1):=Nat.mul_le_mul (Nat.mul_le_mul_left _ hk) (by omega);have J:C.az.length*k*(k+1)/2<=C.az.length*d*(d+1)/2:=Nat.div_le_div_right h2;generalize C.az.length*k*(k+1)/2=x at J⊢;generalize C.az.length*d*(d+1)/2=y at h J;omega
theorem ul(w:World)(H:Qh)(q:Qn)(h:uO w H q)(hu:uV q=0)(jN:sa q.C.mx (q.am.map (·.l)++q.ls.map (·.l)))(Pp:q.ks=[])(d:Nat)(hd:q.dep=d)(je:cu q.C ((d+1:Nat):Int)+((q.C.az.length*d*(d+1)/2:Nat):Int)<=262143)
  {I I2:Nat->Vd->Prop} {Oe:Vd->List (List UInt8)->Prop} (ar:Uu q d I I2 Oe) (h0:I 0 ⟨0,0,[],none,0,0,0⟩):
  Calls Tryz.prog 17 #[mv H q] w fun e w'=>∃v il,e= .returned (.tuple #[lF v, .int .i64 0])/\Oe v il/\eY w' v.A v.c il/\v.n=il.length/\Fr [] w w':=by
 obtain⟨hv,mT,-⟩:=sE hu;have bb:d<=79:=by omega
 obtain⟨w1,eo⟩:∃W,w.alloc (.cells (pH H q) 40)=W:=⟨_,rfl⟩
 have di:Fr [] w w1:=eo▸aR _ _;have Oa:At w1 w.heap.size 40 (pH H q):=eo▸At.new _ _ _;obtain⟨w2,kE⟩:∃W,w1.alloc (.cells #[.int .i64 0, .int .i64 0, .string ⟨#[]⟩, .slice none 0 0, .slice none 0 0, .slice none 0 0, .int .i64 0] 35)=W:=⟨_,rfl⟩
 have cE:Fr [] w1 w2:=kE▸aR _ _;have AP:aj (At w2 w1.heap.size 35 #[.int .i64 0, .int .i64 0, .string ⟨#[]⟩, .slice none 0 0, .slice none 0 0, .slice none 0 0, .int .i64 0]):=kE▸At.new _ _ _;have ni:w1.heap.size=w.heap.size+1:=by rw[<-eo];simp
 rw[ni]at AP;have df:=ae (di.ak cE);have KC:=lH w2 H q (h.keep df.o);rw[hu]at KC;have KC:=ae KC;have KV:=ae (fun W (hW:Fr [] w W)=>wN W H q (h.keep hW) hv d bb (GD hv bb));have Je:=Oa.keep cE;have vW:=ae Je;have DN:aj (∀(W:World)(v2:Vd),Oe v2 []->Emp v2->∃il,Oe v2 il/\eY W v2.A v2.c il/\v2.n=il.length/\∀k∈ao v2.A,w.heap.size+2<=k):=fun W v2 h1 h2=>⟨[],h1,Rv W h2,h2.2.1,fun k hk=>by rw[h2.1]at hk;simp[ao]at hk⟩
 have b1:aj (∀(a:Nat)(W:World)(v:Vd)(k:Nat),Fr [] w W->w.heap.size+2<=a->At W a 77 (gF H q v)->k<=d->I k v->
   Calls Tryz.prog 35 #[.pointer (some ⟨a,0,none⟩), .int .i64 ((k:Int)+1)] W fun e W'=>∃(v2:Vd)(b:Bool),e= .returned (.tuple #[.bool b, .int .i64 0])/\Fr [a] W W'/\At W' a 77 (gF H q v2)/\
    ((b=false/\I2 k v2)\/(b=true/\∃il,Oe v2 il/\eY W' v2.A v2.c il/\v2.n=il.length/\∀k∈ao v2.A,w.heap.size+2<=k))):=fun a W v k hW ha j4 hk hi=>by
  obtain⟨Dd,Cc,hQ⟩:=ar.base k v hk hi;have hr:=ar.pG k v hi;refine(GH w W a H q v h hW (by omega) hu jN Pp j4 k (by omega) (E3 hv je hk).1 hr.2 (fun _=>tU) hQ (fun S r h=>h.1)).mono ?_;rintro e W' ⟨S,r,⟨-,hs⟩,A,c,rfl,Bp,hf,iP⟩;have WG:=df.o.size;unfold Vd.base at Bp;rcases hs with⟨rfl,hs⟩ |⟨n1,n2,hs⟩ |⟨rfl,hs⟩
  ·rw[qai rfl]at Bp;have jB:=hs A c;unfold Vd.base at jB;rw[qai rfl]at jB;refine⟨_,_,rfl,hf,Bp, .inr ⟨rfl,_,jB,(iP rfl).1,(Ng S q.C (k+1)).symm,fun j J=> ?_⟩⟩;have h1:=(iP rfl).2 j J;have h2:=j4.lt;omega
  ·rw[qah n1]at Bp;exact⟨_,_,rfl,hf,Bp, .inr ⟨by simpa using n2,DN.o W' _ hs hr.1⟩⟩
  ·rw[qah (by decide)]at Bp;exact⟨_,_,rfl,hf,Bp, .inl ⟨by decide,hs⟩⟩
 have IT:aj (∀(a:Nat)(W:World)(v:Vd)(k:Nat),Fr [] w W->At W a 77 (gF H q v)->k<=d->I2 k v->
   Calls Tryz.prog 36 #[.pointer (some ⟨a,0,none⟩), .int .i64 (k:Int)] W fun e W'=>∃(v2:Vd)(b:Bool),e= .returned (.tuple #[.bool b, .int .i64 0])/\Fr [a] W W'/\At W' a 77 (gF H q v2)/\
    ((b=false/\I (k+1) v2)\/(b=true/\∃il,Oe v2 il/\eY W' v2.A v2.c il/\v2.n=il.length/\∀k∈ao v2.A,w.heap.size+2<=k))):=fun a W v k hW j4 hk hi=>by
  obtain⟨Dd,Cc,hQ⟩:=ar.step k v hk hi;have hr:=ar.aeB k v hi;refine(Ef W a H q v (h.keep hW) hu jN Pp j4 k (by omega) (E3 hv je hk).2 hr.2 (fun _=>tU) hQ (fun S r h=>h.1)).mono ?_;rintro e W' ⟨S,r,⟨-,hs⟩,rfl,Bp,hf⟩;rcases hs with⟨rfl,hs⟩ |⟨n1,hs⟩
  ·exact⟨_,_,rfl,hf,Bp, .inl ⟨by decide,hs⟩⟩
  ·exact⟨_,_,rfl,hf,Bp, .inr ⟨by simpa using n1,DN.o W' _ hs hr.1⟩⟩
 have vY:=ae (fun W v hi=>DN.o W v (ar.fin v hi) (ar.pG _ v hi).1);have UU:=ae h0;have Fy:=ae (fun W (hW:Fr [] w2 W)=>ku (Je.keep hW));obtain⟨RM,bg⟩:∃RM,cu q.C ((d+1:Nat):Int)+((q.C.az.length*d*(d+1)/2:Nat):Int)=RM:=⟨_,rfl⟩
 simp only[bg]at KV je;have d1:decide (262144<=RM)=false:=qaj (by omega);have b4:IntKind.i64.wrap ((d:Int)+1)=(d:Int)+1:=IntWalk.i64_in _ (by omega);have HQ:=Fy.o w2 (Fr.refl _ _);clear h hu hv mT di cE Oa bg Je jN Pp h0 ar DN vW;simp only[mv,pH,hd]at eo KC KV⊢;simp only[hd]at HQ Fy;obtain⟨q0,q1,q2,q3,q4,q5,q6,q7,q8,q9,jG,jF,jL,jR⟩:=HQ;go_enter Tryz.func17,Tryz.ntmps17;go_wp2_with fail;refine KC.o.mono ?_;rintro e w3 ⟨rfl,dN⟩;have dG:=ae (df.o.ak dN);have qS:=ae dN;have IW:=ae (AP.o.keep dN);clear dN q0 q1 q2 q3 q4 q5 q6 q7 q8 q9 jG jF jL jR KC eo kE df AP;obtain⟨q0,q1,q2,q3,q4,q5,q6,q7,q8,q9,jG,jF,jL,jR⟩:=Fy.o w3 qS.o;go_wp2_with fail;refine(KV.o w3 dG.o).mono ?_;rintro e w4 ⟨rfl,fG⟩;have ic:=ae (dG.o.ak fG);have Qt:=ae (qS.o.ak fG);have N9:=ae (IW.o.keep fG);clear fG q0 q1 q2 q3 q4 q5 q6 q7 q8 q9 jG jF jL jR dG IW qS;obtain⟨q0,q1,q2,q3,q4,q5,q6,q7,q8,q9,jG,jF,jL,jR⟩:=Fy.o w4 Qt.o;go_upto_region 7 with fail;obtain⟨a,ha⟩:∃a,w4.heap.size=a:=⟨_,rfl⟩
 obtain⟨w5,Cn⟩:∃W,w4.alloc (.cells #[.int .i64 q.C.mx, .slice H.H.iA q.C.ins.length H.H.iC, .slice H.H.lA q.C.az.length H.H.lC, .slice H.H.oA q.C.outs.length H.H.oC, .slice H.H.bA q.C.aI.length H.H.bC, .slice H.H.vA q.C.aH.length H.H.vC, .slice H.H.gA q.C.au.length H.H.gC, .slice H.H.nA q.C.bD.length H.H.nC, .slice H.aA q.am.length H.aC, .slice H.lA q.ls.length H.lC, .slice H.kA q.ks.length H.kC, .int .i64 q.bad, .int .i64 (d:Int), .int .i64 q.ji, .int .i64 0, .int .i64 0, .string ⟨#[]⟩, .slice none 0 0, .slice none 0 0, .slice none 0 0, .int .i64 0] 77)=W:=⟨_,rfl⟩
 have fT:Fr [] w4 w5:=Cn▸aR _ _;have bB:gF H q ⟨0,0,[],none,0,0,0⟩=#[.int .i64 q.C.mx, .slice H.H.iA q.C.ins.length H.H.iC, .slice H.H.lA q.C.az.length H.H.lC, .slice H.H.oA q.C.outs.length H.H.oC, .slice H.H.bA q.C.aI.length H.H.bC, .slice H.H.vA q.C.aH.length H.H.vC, .slice H.H.gA q.C.au.length H.H.gC, .slice H.H.nA q.C.bD.length H.H.nC, .slice H.aA q.am.length H.aC, .slice H.lA q.ls.length H.lC, .slice H.kA q.ks.length H.kC, .int .i64 q.bad, .int .i64 (d:Int), .int .i64 q.ji, .int .i64 0, .int .i64 0, .string ⟨#[]⟩, .slice none 0 0, .slice none 0 0, .slice none 0 0, .int .i64 0]:=by unfold gF;rw[hd];rfl
 have a1:aj (At w5 a 77 (gF H q ⟨0,0,[],none,0,0,0⟩)):=by show At _ _ _ _;rw[bB];exact Cn▸ha▸At.new _ _ _
 have js:=ae (ic.o.ak fT);have CT:=ae (N9.o.keep fT);have kQ:w.heap.size+1<a:=ha▸N9.o.lt;have tf:=ae kQ;have b3:=fT.aF jL;rw[Cn,ha];clear Cn ha fT kQ q0 q1 q2 q3 q4 q5 q6 q7 q8 q9 jG jF jL jR ic N9 bB;go_wp2_with fail;go_loopg [29] (d+1) (fun g b2 wr=>∃(k:Nat)(v:Vd),k+g=d+1/\b2= .int .i64 k/\aj (I k v)/\aj (Fr [] w wr)/\aj (At wr (w.heap.size+1) 35 #[.int .i64 0, .int .i64 0, .string ⟨#[]⟩, .slice none 0 0, .slice none 0 0, .slice none 0 0, .int .i64 0])/\aj (At wr a 77 (gF H q v)));case atStart=>exact⟨0,_,by omega,rfl,UU,js,CT,a1⟩
 case round=>
  clear js CT a1 UU;obtain⟨k,v,hk,rfl,HI,HF,HR,HA⟩:=hrel;have HK:=ae hk;have iS:k<=d+1:=by omega
  clear hk;by_cases bt:k<d+1
  ·have qJ:(k:Int)<(d:Int)+1:=by omega
   have b5:IntKind.i64.wrap ((k:Int)+1)=(k:Int)+1:=IntWalk.i64_in _ (by omega);have KR:=ae (b1.o a wr v k HF.o (by have :=tf.o;omega) HA.o (by omega) HI.o);have Uv:=ae (fun W hW v2 oy=>IT.o a W v2 k hW oy (by omega));go_wp2_with fail;refine KR.o.mono ?_;rintro e w6 ⟨v2,b,rfl,gQ,bj,h6⟩;have fC:aj (Fr [] w w6):=HF.o.trans gQ (fun j J=> .inr (by simp at J;have :=tf.o;omega));have oK:aj (At w6 (w.heap.size+1) 35 #[.int .i64 0, .int .i64 0, .string ⟨#[]⟩, .slice none 0 0, .slice none 0 0, .slice none 0 0, .int .i64 0]):=gQ.at_ HR.o (by simp;have :=tf.o;omega);have ab:=ae bj;clear gQ bj KR HF HR HA HI;rcases h6 with⟨rfl,h6⟩ |⟨rfl,h6⟩
   ·have ba:=Uv.o w6 fC.o v2 ab.o h6;clear h6;go_wp2_with fail;refine ba.mono ?_;clear ba;rintro e w7 ⟨v3,b,rfl,jg,bo,h7⟩;have mP:aj (Fr [] w w7):=fC.o.trans jg (fun j J=> .inr (by simp at J;have :=tf.o;omega));have aT:aj (At w7 (w.heap.size+1) 35 #[.int .i64 0, .int .i64 0, .string ⟨#[]⟩, .slice none 0 0, .slice none 0 0, .slice none 0 0, .int .i64 0]):=jg.at_ oK.o (by simp;have :=tf.o;omega);have aM:=ae bo;clear jg bo fC oK ab Uv;rcases h7 with⟨rfl,h7⟩ |⟨rfl,h7⟩
    ·have Mk:=ae h7;clear h7;go_wp2;go_roundg (gk-1);case measure=>have :=HK.o;omega
     case rel=>exact⟨k+1,v3,by have :=HK.o;omega,by go_num,Mk,mP,aT,aM⟩
    ·have aB:=ae h7;have fC:=mP;have oK:=aT;have ab:=aM;obtain⟨v2,oy⟩:∃v2,v3=v2:=⟨_,rfl⟩
     subst oy;clear h7 mP aT aM;obtain⟨bG,bI,aK,bO,bS,bT,b0⟩:=vq ab.o;simp only[sv]at aK;obtain⟨r0,r1,r2,r3,r4,r5,r6⟩:=Ad oK.o;have f0:=oK.o.frozen 0;have f1:=oK.o.frozen 1;have f2:=oK.o.frozen 2;have f3:=oK.o.frozen 3;have f4:=oK.o.frozen 4;have f5:=oK.o.frozen 5;have f6:=oK.o.frozen 6;go_wp2_with fail;obtain⟨W,hW,Nt,e0,e1,e2,e3,e4,e5,e6⟩:=aav oK.o (.int .i64 v3.kind) (.int .i64 v3.pb) (.string ⟨v3.st.toArray⟩) (.slice v3.A v3.n v3.c) (.slice none 0 0) (.slice none 0 0) (.int .i64 v3.used);rw[hW];obtain⟨il,hd,hs,hn,jC⟩:=aB.o;have Ex:=fC.o.trans Nt (fun j J=> .inr (by simp at J;omega));have jB:=Nt.own hs (fun j J hm=>by
      rw[ag.1 hm]at J;have :w.heap.size+1∈ao v3.A:=by
       cases hA:v3.A with
       |none=>rw[hA]at J;cases J
       |some ad=>rw[hA]at J;simp[Value.ownBlock]at J;simp[ao];exact J.symm
      have :=jC _ this;have :=tf.o;omega)
     have FF:=ae (⟨v3,il,rfl,hd,jB,hn,Ex⟩:∃u il,Ending.returned (.tuple #[lF v3, .int .i64 0])= .returned (.tuple #[lF u, .int .i64 0])/\Oe u il/\eY W u.A u.c il/\u.n=il.length/\Fr [] w W);clear hW Nt hd hs hn jC Ex jB;refine bodyPost_ret (v:= .tuple #[lF v3, .int .i64 0]) (by simp[results,go_sem,e0,e1,e2,e3,e4,e5,e6,lF,sv]) rfl ?_;exact FF.o
   ·have aB:=ae h6;clear h6 Uv;obtain⟨bG,bI,aK,bO,bS,bT,b0⟩:=vq ab.o;simp only[sv]at aK;obtain⟨r0,r1,r2,r3,r4,r5,r6⟩:=Ad oK.o;have f0:=oK.o.frozen 0;have f1:=oK.o.frozen 1;have f2:=oK.o.frozen 2;have f3:=oK.o.frozen 3;have f4:=oK.o.frozen 4;have f5:=oK.o.frozen 5;have f6:=oK.o.frozen 6;go_wp2_with fail;obtain⟨W,hW,Nt,e0,e1,e2,e3,e4,e5,e6⟩:=aav oK.o (.int .i64 v2.kind) (.int .i64 v2.pb) (.string ⟨v2.st.toArray⟩) (.slice v2.A v2.n v2.c) (.slice none 0 0) (.slice none 0 0) (.int .i64 v2.used);rw[hW];obtain⟨il,hd,hs,hn,jC⟩:=aB.o;have Ex:=fC.o.trans Nt (fun j J=> .inr (by simp at J;omega));have jB:=Nt.own hs (fun j J hm=>by
     rw[ag.1 hm]at J;have :w.heap.size+1∈ao v2.A:=by
      cases hA:v2.A with
      |none=>rw[hA]at J;cases J
      |some ad=>rw[hA]at J;simp[Value.ownBlock]at J;simp[ao];exact J.symm
     have :=jC _ this;have :=tf.o;omega)
    have FF:=ae (⟨v2,il,rfl,hd,jB,hn,Ex⟩:∃u il,Ending.returned (.tuple #[lF v2, .int .i64 0])= .returned (.tuple #[lF u, .int .i64 0])/\Oe u il/\eY W u.A u.c il/\u.n=il.length/\Fr [] w W);clear hW Nt hd hs hn jC Ex jB;refine bodyPost_ret (v:= .tuple #[lF v2, .int .i64 0]) (by simp[results,go_sem,e0,e1,e2,e3,e4,e5,e6,lF,sv]) rfl ?_;exact FF.o
  ·obtain rfl :k=d+1:=by omega
   have aB:=ae (vY.o wr v HI.o);have fC:=HF;have oK:=HR;have ab:=HA;obtain⟨v2,oy⟩:∃v2,v=v2:=⟨_,rfl⟩
   subst oy;clear HK HF HR HA HI;obtain⟨bG,bI,aK,bO,bS,bT,b0⟩:=vq ab.o;simp only[sv]at aK;obtain⟨r0,r1,r2,r3,r4,r5,r6⟩:=Ad oK.o;have f0:=oK.o.frozen 0;have f1:=oK.o.frozen 1;have f2:=oK.o.frozen 2;have f3:=oK.o.frozen 3;have f4:=oK.o.frozen 4;have f5:=oK.o.frozen 5;have f6:=oK.o.frozen 6;go_wp2_with fail;obtain⟨W,hW,Nt,e0,e1,e2,e3,e4,e5,e6⟩:=aav oK.o (.int .i64 v.kind) (.int .i64 v.pb) (.string ⟨v.st.toArray⟩) (.slice v.A v.n v.c) (.slice none 0 0) (.slice none 0 0) (.int .i64 v.used);rw[hW];obtain⟨il,hd,hs,hn,jC⟩:=aB.o;have Ex:=fC.o.trans Nt (fun j J=> .inr (by simp at J;omega));have jB:=Nt.own hs (fun j J hm=>by
    rw[ag.1 hm]at J;have :w.heap.size+1∈ao v.A:=by
     cases hA:v.A with
     |none=>rw[hA]at J;cases J
     |some ad=>rw[hA]at J;simp[Value.ownBlock]at J;simp[ao];exact J.symm
    have :=jC _ this;have :=tf.o;omega)
   have FF:=ae (⟨v,il,rfl,hd,jB,hn,Ex⟩:∃u il,Ending.returned (.tuple #[lF v, .int .i64 0])= .returned (.tuple #[lF u, .int .i64 0])/\Oe u il/\eY W u.A u.c il/\u.n=il.length/\Fr [] w W);clear hW Nt hd hs hn jC Ex jB;refine bodyPost_ret (v:= .tuple #[lF v, .int .i64 0]) (by simp[results,go_sem,e0,e1,e2,e3,e4,e5,e6,lF,sv]) rfl ?_;exact FF.o
theorem CD{C:Pc}(J:Valid C){am:List (List Int)}(ha:sa C.mx am){fst:Bool}{n:Nat}(hn:1<=n/\n<=80)(hb:cu C n<=262143):Sv.gV (fun a=>∀c∈jQ C am fst n,eX a c) (cu C n).toNat 0 (jQ C am fst n).length (uv C am fst n n):=by have h0:=jq J.m0 (f:=(n:Int)) (by omega);have hz:=Sv.gV.new (cu C n).toNat (by omega);rw[Int.toNat_of_nonneg h0]at hz;have h1:=hz.cF (ls:=jQ C am fst n) (by have :=mK J ha.1 fst n;omega) (fun c hc=>by have h2:=EI J ha fst n (aq _) hn.1 c hc;exact⟨h2.ra hb,BJ.chk (v:=(cu C n).toNat) (by rw[Int.toNat_of_nonneg h0];exact h2) (by omega)⟩);rw[dd]at h1;exact h1.iff fun a=>⟨fun h=>h.2,fun h=>⟨trivial,h⟩⟩
theorem acl{C:Pc}(hv:Valid C){k a b:Nat}(ha:a<=k)(hb:b<=k){aux:Int}(J:cu C ((k+1:Nat):Int)<=aux):∀c∈E4 C a b aux,BJ (aux+C.az.length) c:=fun c hc=>by
 have hl:=hv.l;have Q0:=jq hv.m0 (f:=((k+1:Nat):Int)) (by omega);rcases ah.1 hc with hc |hc
 ·obtain⟨i,hi,hc⟩:=cH.1 hc;have hi:=bl.1 hi;have h1:=Ed hv (f:=(a:Int)) (n:=(i:Int)+1) (by omega) (by omega);have h2:=Ed hv (f:=(b:Int)) (n:=(i:Int)+1) (by omega) (by omega);have h3:=gI hv.m0 (f:=(a:Int)+1) (g:=((k+1:Nat):Int)) (by omega);have h4:=gI hv.m0 (f:=(b:Int)+1) (g:=((k+1:Nat):Int)) (by omega);simp only[Ui,ay,bi,or_false]at hc;rcases hc with rfl |rfl
  ·refine⟨by simp,fun x J=> ?_⟩;simp only[ay,bi,or_false]at J;rcases J with rfl |rfl |rfl <;>omega
  ·refine⟨by simp,fun x J=> ?_⟩;simp only[ay,bi,or_false]at J;rcases J with rfl |rfl |rfl <;>omega
 ·rw[ag.1 hc];refine⟨by simp;omega,fun x J=> ?_⟩;obtain⟨i,hi,rfl⟩:=aN.1 J;have hi:=bl.1 hi;omega
def xV(C:Pc)(v:Nat):List Pf->List (List Int)
 |[]=>[]
 |x::l=>E4 C x.1.val x.2.val (v:Int)++xV C (v+C.az.length) l
theorem CP(C:Pc)(x:Pf):∀(l:List Pf)(v:Nat),xV C v (l++[x])=xV C v l++E4 C x.1.val x.2.val ((v+l.length*C.az.length:Nat):Int)
 |[],v=>by simp[xV]
 |y::l,v=>by rw[List.cons_append,xV,CP C x l,xV,dB,b8,Nat.add_mul,Nat.one_mul];rw[show v+C.az.length+l.length*C.az.length=v+(l.length*C.az.length+C.az.length) by omega]
theorem On{C:Pc}(hv:Valid C){k:Nat}(hk:k<=79){S:Sv}{F:(Nat->Bool)->Prop}{v V:Nat}(h:Sv.gV F v 0 V S)(ab:cu C ((k+1:Nat):Int)<=v):∀l:List Pf,(∀x∈l,x.1.val<=k/\x.2.val<=k)->v+l.length*C.az.length<=262143->V+l.length*(2*C.az.length+1)<=8000000->
  Sv.gV (fun a=>F a/\∀c∈xV C v l,eX a c) (v+l.length*C.az.length) 0 (V+l.length*(2*C.az.length+1)) (xz C S l):=fun l=>by
 obtain⟨r,rfl⟩:∃r:List Pf,l=r.reverse:=⟨l.reverse,by simp⟩
 induction r with
 |nil=>
  intro _ _ _;simpa[xz,xV]using h
 |cons x r ih=>
  rw[List.reverse_cons];intro hm h1 h2;rw[an,aV,Nat.add_mul,Nat.one_mul]at h1 h2;have J:=ih (fun y hy=>hm y (av _ hy)) (by omega) (by omega);have GO:=hm x (bP _ (ag.2 rfl));rw[yP,an,aV,Nat.add_mul,Nat.one_mul,Nat.add_mul,Nat.one_mul,<-Nat.add_assoc,<-Nat.add_assoc];have mO:=acl hv GO.1 GO.2 (aux:=((xz C S r.reverse).vars:Int)) (by rw[J.vars];omega);have h4:=(J.grow C.az.length (by omega)).cF (ls:=E4 C x.1.val x.2.val (xz C S r.reverse).vars) (by rw[uI];omega) (fun c hc=>by have h5:=mO c hc;rw[J.vars]at h5;exact⟨h5.ra (by omega),BJ.chk (v:=v+r.reverse.length*C.az.length+C.az.length) (by rw[Int.natCast_add];exact h5) (by omega)⟩);rw[uI]at h4;refine h4.iff fun a=> ?_;rw[CP,J.vars];constructor
  ·rintro⟨⟨g1,g2⟩,g3⟩;refine⟨g1,fun c hc=> ?_⟩;rcases ah.1 hc with hc |hc
   ·exact g2 c hc
   ·exact g3 c hc
  ·rintro⟨g1,g2⟩;exact⟨⟨g1,fun c hc=>g2 c (av _ hc)⟩,fun c hc=>g2 c (bP _ hc)⟩
end
end Go.Proofs.YtpjbaobgnhjgoaaGreat
