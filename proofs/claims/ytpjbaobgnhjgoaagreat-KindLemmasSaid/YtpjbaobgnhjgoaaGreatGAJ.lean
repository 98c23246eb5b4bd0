/- Parts of a proof. -/
import Derived.Test.YtpjbaobgnhjgoaaGreatGAI
set_option linter.unusedVariables false
set_option linter.unusedSimpArgs false
set_option maxRecDepth 100000
namespace Go.Proofs.YtpjbaobgnhjgoaaGreat
open Go.RowKit
theorem Mz(z:Value)(m:Nat):(Builtin.zeroCells #[z] m).toList=List.replicate m z:=by
 apply List.ext_getElem?;intro j;simp only[Builtin.zeroCells,Array.toList_map,aZ];by_cases h:j<m
 ·simp[h,Nat.mod_one]
 ·simp[h]
theorem Re(z:Value)(m:Nat):Builtin.zeroCells #[z] m=(List.replicate m z).toArray:=by rw[<-Mz,Array.toArray_toList]
theorem oh(w:World)(t ti ty e:TypeId)(z:Value)(bytes:Nat)(ht:Tryz.prog.underlying t=some (.slice e))(J:Tryz.prog.underlying ti=some (.int .i64))(hi:(Tryz.prog.info? e).map (fun i=>(i.zero,i.size,i.bytes))=some (some z,1,bytes))(Cm:z.cells=#[z])(aB:z.oneCell'=true)
  (A:Option Addr) (c n:Nat) (xs:List Value) (dD:w.ownsRow 0 e 1 (.slice A n c) n xs) (m:Nat) (NA:n+m<=maxLen) (j3:(n+m)*bytes<=140737488355328) (hm:(m:Int)<=9223372036854775807):
  ∃A' cap w',(Builtin.append_ #[t,ti] ty #[.slice A n c, .int .i64 m]).run Tryz.prog w= .ok (.slice A' (n+m) cap) w'/\
   w'.ownsRow 0 e 1 (.slice A' (n+m) cap) (n+m) (xs++List.replicate m z)/\Fr (ao A) w w'/\(∀k,k∈ao A'->k∈ao A\/w.heap.size<=k):=by
 obtain⟨i,hi,hz,Cq,ab⟩:=info_parts hi;have hw:IntKind.i64.wrap (m:Int)=m:=IntWalk.i64_in _ (by omega);have QN:IntKind.i64.wrap 0=0:=by decide
 have zv:¬((m:Int)<0):=by omega
 have Bh:(m:Int)*(bytes:Int)<=281474976710656:=by
  have :m*bytes<=(n+m)*bytes:=Nat.mul_le_mul_right _ (by omega);have h2:((m*bytes:Nat):Int)<=281474976710656:=by omega
  simpa using h2
 have ar:¬(281474976710656<(m:Int)*(bytes:Int)):=by omega
 have zu:n+m<=9223372036854775807:=by simp only[maxLen]at NA;omega
 have hlen:(xs++List.replicate m z).length=(n+m)*1:=by rw[an,dD.1,a8];omega
 have grown:∀(old:Nat),old<n+m->∀(S:List Nat),
   (w.drew.alloc (.cells (xs.toArray++(List.replicate m z).toArray++Builtin.zeroCells #[z] (grownCap w (n+m) old e-(n+m))) e)).ownsRow 0 e 1
    (.slice (some ⟨w.heap.size,0,none⟩) (n+m) (grownCap w (n+m) old e)) (n+m) (xs++List.replicate m z)/\
   Fr S w (w.drew.alloc (.cells (xs.toArray++(List.replicate m z).toArray++Builtin.zeroCells #[z] (grownCap w (n+m) old e-(n+m))) e)):=by
  intro old ho S;have Fq:=grownCap_ge w (n+m) old e;have Ft:grownCap w (n+m) old e<=maxLen:=grownCap_le_maxLen w (n+m) old e NA;refine⟨⟨hlen, .inr ⟨w.heap.size,_,_,rfl,aU _,heap_alloc_new w.drew _,Fq,Ft,?_,?_⟩⟩,((Fr.refl S w).drew).alloc _⟩
  ·have hx:=dD.1;simp only[Array.size_append,List.size_toArray,size_zeroCells,a8,hx];simp;omega
  ·simp only[Array.toList_append,dB];rw[<-dB,<-hlen];exact List.take_left
 rcases dD.2 with⟨hv,rfl⟩ |⟨g,cap,cur,hv,Tv,hg,um,Ft,kF,Zj⟩
 ·simp only[Value.slice.injEq,true_and]at hv;obtain⟨rfl,rfl⟩:=hv;have hx:xs=[]:=aX (by simpa using dD.1);subst hx;by_cases uY:m=0
  ·subst uY;refine⟨none,0,w,?_,World.ownsRow_nil w 0 e 1,Fr.refl _ _,fun k hk=>by simp[ao]at hk⟩;simp[Builtin.append_,run_underlying ht,run_underlying J,sizeOf,typeInfo,hi,asInt,asIntOf,QN]
  ·have Fp:=grown 0 (by omega) (ao none);simp only[dd,List.nil_append]at Fp⊢;refine⟨_,_,_,?_,Fp.1,Fp.2,fun k hk=> .inr (by simp[ao]at hk;omega)⟩;have TH:¬(281474976710656<Builtin.nextslicecap m 0*bytes):=by rw[nextslicecap_zero (by omega)];have :=j3;simp only[dd]at this;omega
   have ad:¬(9223372036854775807<(m:Int)):=by omega
   simp[Builtin.append_,run_underlying ht,run_underlying J,sizeOf,typeInfo,zeroValue,hi,hz,asInt,asIntOf,Cq,ab,hw,zv,ar,uY,ad,TH,Question.forced,run_firstCells_none,newRow,grownCap,Cm,Re]
 ·simp only[Value.slice.injEq,true_and]at hv;obtain⟨rfl,rfl⟩:=hv;by_cases je:n+m<=c
  ·have pS:n*1+(List.replicate m z).length<=cur.size:=by rw[kF,a8];omega
   have pO:=run_storeCells_at Tryz.prog g (n*1) e (List.replicate m z) 0 cur w hg (by simpa using pS) (fun u hu=>by rw[List.mem_replicate]at hu;rw[hu.2];exact aB);simp only[Nat.add_zero]at pO;refine⟨some ⟨g,0,none⟩,c,w.setRow g (cur.toList.take (n*1)++List.replicate m z++cur.toList.drop (n*1+(List.replicate m z).length)).toArray,?_,⟨hlen, .inr ⟨g,c,_,rfl,Tv,setRow_heap w g cur _ e _ hg,je,Ft,?_,?_⟩⟩,?_,fun k hk=> .inl hk⟩
   ·by_cases uY:m=0
    ·subst uY;simp only[List.replicate_zero]at pO⊢;have nN:n<=c:=je;simp[Builtin.append_,run_underlying ht,run_underlying J,sizeOf,typeInfo,hi,asInt,asIntOf,QN,nN,Addr.add_lit];simp only[j9]at pO;simp[Cq,pO]
    ·simp[Builtin.append_,run_underlying ht,run_underlying J,sizeOf,typeInfo,zeroValue,hi,hz,asInt,asIntOf,Cq,ab,hw,zv,ar,uY,je,Addr.add_lit,Cm,Mz];simp only[j9]at pO;first |exact pO | (rw[pO];simp) |simp[pO]
   ·simp only[List.size_toArray,an,bz,List.length_drop,Array.length_toList,a8];omega
   ·rw[Zj,<-hlen];exact List.take_left
   ·exact⟨rfl,rfl,rfl,by simp,fun k _ hk=>setRow_other w g k _ (fun e=>hk (by simp[ao,e]))⟩
  ·have holds:∀j u,xs[j]? =some u->w.cell? ((⟨g,0,none⟩:Addr).add j)=some u:=dD.cells (g:=g) rfl;have Fp:=grown c (by omega) (ao (some (⟨g,0,none⟩:Addr)));refine⟨_,_,_,?_,Fp.1,Fp.2,fun k hk=> .inr (by simp[ao]at hk;omega)⟩;have uY:m≠0:=by omega
   have Nv:=run_firstCells_some (P:=Tryz.prog) w.drew 1 n ⟨g,0,none⟩ n c xs (by rw[dD.1]) (by simpa using holds);have ad:¬(9223372036854775807<((n:Int)+(m:Int))):=by omega
   have TH:¬(281474976710656<Builtin.nextslicecap (n+m) c*bytes):=by have :=growslice_fits (need:=n+m) (old:=c) (bytes:=bytes) (by omega) j3;omega
   simp[Builtin.append_,run_underlying ht,run_underlying J,sizeOf,typeInfo,zeroValue,hi,hz,asInt,asIntOf,Cq,ab,hw,zv,ar,uY,je,ad,TH,Question.forced,Nv,newRow,grownCap,Cm,Re];try rw[ab]at TH
   try simp[TH]
theorem bh.aeD{w w1:World}{L:aO}{S:Sv}(h:bh w L S){A':Option Addr}{c':Nat}{F:List Nat}{ls:List Bool}(hi:Bools w1 A' c' ls)(hf:Fr F w w1)(hF:∀k,k∈F->k<w.heap.size->L.dh k=(L.id,5,0))
  (hA:∀k,k∈ao A'->(k<w.heap.size/\L.dh k=(L.id,5,0))\/w.heap.size<=k):
  ∃L',bh (w1.setCell ⟨L.a,5,none⟩ (.slice A' ls.length c')) L' { S with phase:=ls }/\L.ext L' w/\Fr (L.own w) w (w1.setCell ⟨L.a,5,none⟩ (.slice A' ls.length c')):=by
 have cE:Fr (L.a::F) w (w1.setCell ⟨L.a,5,none⟩ (.slice A' ls.length c')):=(hf.mono (fun k hk=> .inl (by simp[hk]))).setCell (.inl (by simp)) _;have zC:∀k,k∈L.a::F->k<w.heap.size->∃t,(t=(5,0)\/t=(0,0))/\L.dh k=(L.id,t):=by
  intro k hk hl;rcases ay.1 hk with rfl |hk
  ·exact⟨_, .inr rfl,h.t0⟩
  ·exact⟨_, .inl rfl,hF k hk hl⟩
 have o:=h.off (P:=fun t=>t=(5,0)\/t=(0,0)) cE zC;have o1:=h.off (P:=(· =(5,0))) hf (fun k hk hl=>⟨_,rfl,hF k hk hl⟩);have g:=h.tags (5,0);have dV:L.a∉ao A':=fun hk=>by
  rcases hA _ hk with⟨_,J⟩ |J
  ·rw[h.t0]at J;simp at J
  ·have :=h.obj.lt;omega
 refine⟨{ L with pA:=A',pC:=c',dh:=L.re w (5,0) },⟨?_,o.tr (by simp),o.hp (by simp),h.jf,h.CJ,h.CI,o.wD (by simp),o.rws (by simp),?_,o.yd (by simp),o.vm (by simp),fun n hn=>o.qM n hn (by simp),fun c hc=>o.sV c hc (by simp),
  g.t0,g.t1,g.t2,g.t3,g.t4,fun k hk=>aO.o4 (hA k hk),g.t6,g.t7,g.t8,g.t9⟩,⟨rfl,rfl,fun k hk e=>aO.qs hk e⟩,aO.iJ cE (fun k hk hl=>by obtain⟨t,_,e⟩:=zC k hk hl;rw[e])⟩
 ·have :=(o1.obj (by simp)).dL 5 (.slice A' ls.length c');simpa[qm]using this
 ·unfold Bools at hi⊢;exact fc hi ((Fr.refl [L.a] w1).setCell (.inl (by simp)) _) (fun k hk hm=>by simp at hm;subst hm;exact dV hk)
theorem bh.aet{w w1:World}{L:aO}{S:Sv}(h:bh w L S){A':Option Addr}{c' m:Nat}{F:List Nat}(hi:uM w1 A' c' (L.ws++List.replicate m ⟨none,0,[]⟩))(hf:Fr F w w1)(hF:∀k,k∈F->k<w.heap.size->L.dh k=(L.id,4,0))
  (hA:∀k,k∈ao A'->(k<w.heap.size/\L.dh k=(L.id,4,0))\/w.heap.size<=k):
  ∃L',bh (w1.setCell ⟨L.a,4,none⟩ (.slice A' (L.ws.length+m) c')) L' { S with watch:=S.watch++List.replicate m [] }/\L.ext L' w/\Fr (L.own w) w (w1.setCell ⟨L.a,4,none⟩ (.slice A' (L.ws.length+m) c')):=by
 have cE:Fr (L.a::F) w (w1.setCell ⟨L.a,4,none⟩ (.slice A' (L.ws.length+m) c')):=(hf.mono (fun k hk=> .inl (by simp[hk]))).setCell (.inl (by simp)) _;have zC:∀k,k∈L.a::F->k<w.heap.size->∃t,(t=(4,0)\/t=(0,0))/\L.dh k=(L.id,t):=by
  intro k hk hl;rcases ay.1 hk with rfl |hk
  ·exact⟨_, .inr rfl,h.t0⟩
  ·exact⟨_, .inl rfl,hF k hk hl⟩
 have o:=h.off (P:=fun t=>t=(4,0)\/t=(0,0)) cE zC;have o1:=h.off (P:=(· =(4,0))) hf (fun k hk hl=>⟨_,rfl,hF k hk hl⟩);have g:=h.tags (4,0);have dV:L.a∉ao A':=fun hk=>by
  rcases hA _ hk with⟨_,J⟩ |J
  ·rw[h.t0]at J;simp at J
  ·have :=h.obj.lt;omega
 have rS:∀j:Nat,j<L.ws.length+m->(j<L.ws.length/\(L.ws++List.replicate m (⟨none,0,[]⟩:Wl))[j]! =L.ws[j]!)\/(L.ws++List.replicate m (⟨none,0,[]⟩:Wl))[j]! =⟨none,0,[]⟩:=fun j hj=>by
  by_cases e:j<L.ws.length
  ·left
   refine⟨e,?_⟩;simp[aa,cV e]
  ·right
   rw[aa,bX (by omega),List.getElem?_replicate,qai (by omega)];rfl
 refine⟨{ L with wA:=A',wC:=c',ws:=L.ws++List.replicate m ⟨none,0,[]⟩,dh:=L.re w (4,0) },⟨?_,o.tr (by simp),o.hp (by simp),h.jf,h.CJ,?_,o.wD (by simp),?_,o.wv (by simp),o.yd (by simp),o.vm (by simp),fun n hn=>o.qM n hn (by simp),fun c hc=> ?_,
  g.t0,g.t1,g.t2,g.t3,fun k hk=>aO.o4 (hA k hk),g.t5,g.t6,g.t7,g.t8,fun c hc k hk=> ?_⟩,⟨rfl,rfl,fun k hk e=>aO.qs hk e⟩,aO.iJ cE (fun k hk hl=>by obtain⟨t,_,e⟩:=zC k hk hl;rw[e])⟩
 ·have :=(o1.obj (by simp)).dL 4 (.slice A' (L.ws.length+m) c');simpa[qm]using this
 ·simp only[bE,List.map_replicate];rw[h.CI]
 ·unfold uM at hi⊢;exact fc hi ((Fr.refl [L.a] w1).setCell (.inl (by simp)) _) (fun k hk hm=>by simp at hm;subst hm;exact dV hk)
 ·simp only[an,a8]at hc;simp only;rcases rS c hc with⟨h1,J⟩ |J
  ·rw[J];exact o.sV c h1 (by simp)
  ·rw[J];exact Ints.nil _
 ·simp only[an,a8]at hc;simp only at hk;rcases rS c hc with⟨h1,J⟩ |J
  ·rw[J]at hk;exact g.t9 c h1 k hk
  ·rw[J]at hk;simp[ao]at hk
namespace Sv
theorem B4:∀(n:Nat)(v:Int)(H:Hp),HI H->HI (jy n v H)/\(jy n v H).at_.length=H.at_.length
 |0,v,H,h=>⟨h,rfl⟩
 |n+1,v,H,h=>by have h1:=h.fW v;have J:=B4 n (v+1) _ h1.1;exact⟨J.1,J.2.trans h1.2⟩
theorem rD{H:Hp}{v n:Nat}(h:H.at_.length=v+1)(J:v+n<=262143):H.eP n=H.growBy n:=by
 unfold Hp.eP;have e:(mJ H.at_.length n-H.at_.length).toNat=n:=by unfold mJ;rw[h];omega
 rw[e]
theorem Ok.grow{S:Sv}(ok:S.Ok 0)(n:Nat)(hb:S.vars+n<=262143):(S.grow n).Ok 0:=by
 obtain⟨R,hR⟩:=ok.tr;have hg:=hR.grow n (by omega);have hh:HI (S.H.eP n)/\(S.H.eP n).at_.length=S.vars+n+1:=by rw[rD ok.hl hb];refine⟨ok.hi.grow n,?_⟩;have :=ok.hl;simp only[Hp.growBy,an,a8];omega
 have hp:=B4 n ((S.vars:Int)+1) _ hh.1;have hw:∀c:Nat,(S.watch++List.replicate (2*n) ([]:List Nat))[c]! =S.watch[c]! :=fun c=>by
  simp only[aa];by_cases e:c<S.watch.length
  ·rw[cV e]
  ·rw[bX (by omega),List.getElem?_replicate,iZ (l:=S.watch) (by omega)];split<;>rfl
 have e0:(S.grow n).vars=S.vars+n:=rfl;have J:(S.grow n).T=S.T.eP n:=rfl;have e2:(S.grow n).H=jy n ((S.vars:Int)+1) (S.H.eP n):=rfl;have e3:(S.grow n).list=S.list:=rfl;refine⟨by rw[e0];exact hb,⟨R,?_⟩,by rw[e2];exact hp.1,by rw[e2,e0];exact hp.2.trans hh.2,?_,?_,by rw[e3];exact ok.ll,fun c k hk=> ?_,?_,fun j x hx=> ?_,fun j=>ok.ln j,fun j=>ok.lb j,?_,fun v=> ?_⟩
 ·rw[e0,J];exact hg
 ·show(S.phase++List.replicate n false).length=S.vars+n+1;have :=ok.ph;simp;omega
 ·show(S.watch++List.replicate (2*n) []).length=2*(S.vars+n)+2;have :=ok.wl;simp;omega
 ·have e:k∈(S.watch++List.replicate (2*n) ([]:List Nat))[c]! :=hk;rw[hw]at e;exact ok.wb c k e
 ·show((S.watch++List.replicate (2*n) []).map List.length).sum+0<=_;have :=ok.wt;simp;exact this
 ·have :=ok.lr j x hx;show x≠0/\ -((S.vars+n:Nat):Int)<=x/\x<=((S.vars+n:Nat):Int);omega
 ·exact ok.hd
 ·have :=ok.rs v;rw[hR.fV]at this;rw[J,e3];rw[hg.fV];exact this
end Sv
theorem GK:(Tryz.prog.info? 22).map (fun i=>(i.zero,i.size,i.bytes))=some (some (.slice none 0 0),1,24):=by kernel_rfl
theorem lB(w:World){ops:Array Oper}{rest:List Oper}{o:Oper}{a:Act}{Q:Exit->Act->World->Prop}(rA:o.guard=none)(s x:Operand)(t ti e:TypeId)
  (ho:o.op= .call { callee:= .builtin .append,args:=#[s,x],argTypes:=#[t,ti] }) (z:Value) (bytes:Nat) (ht:Tryz.prog.underlying t=some (.slice e)) (ab:Tryz.prog.underlying ti=some (.int .i64)) (hi:(Tryz.prog.info? e).map (fun i=>(i.zero,i.size,i.bytes))=some (some z,1,bytes)) (Cm:z.cells=#[z]) (J:z.oneCell'=true)
  (A:Option Addr) (c n:Nat) (hs:a.eval s= .slice A n c) (xs:List Value) (dD:w.ownsRow 0 e 1 (.slice A n c) n xs) (m:Nat) (v:Int) (hv:v=m) (hx:a.eval x= .int .i64 v) (NA:n+m<=maxLen) (j3:(n+m)*bytes<=140737488355328) (hm:(m:Int)<=9223372036854775807)
  (h:∀A' cap w',w'.ownsRow 0 e 1 (.slice A' (n+m) cap) (n+m) (xs++List.replicate m z)->Fr (ao A) w w'->(∀k,k∈ao A'->k∈ao A\/w.heap.size<=k)->wpList Tryz.prog ops Q rest (a.put o.dst (.slice A' (n+m) cap)) w'):
  wpList Tryz.prog ops Q (o::rest) a w:=by
 subst hv;refine wpList_plain rA fun K hK=> ?_;obtain⟨A',cap,w',hr,h2,h3,h4⟩:=oh w t ti o.type e z bytes ht ab hi Cm J A c n xs dD m NA j3 hm;unfold Oper.wp execOp;simp only[ho,resolve,invoke,builtin,Sem.run_bind,Sem.run_pure,Result.andThen_ok,List.map_toArray,dJ,fQ,hs,hx,hr];exact hK _ _ (h A' cap w' h2 h3 h4)
set_option maxHeartbeats 8000000 in
theorem zD(w:World)(L:aO)(S:Sv)(h:bh w L S)(ok:S.Ok 0)(n:Nat)(hb:S.vars+n<=262143):
  Calls Tryz.prog 99 #[.pointer (some ⟨L.a,0,none⟩), .int .i64 n] w (pB (.tuple #[]) (S.grow n) L w):=by
 have lh:=ae ok;have CZ:=ae ok.hl;have b5:=ae ok.ph;have b7:=ae ok.wl;have oR:0<S.T.cells.length/\S.T.cells.length<=262145:=by obtain⟨R,hR⟩:=ok.tr;rw[hR.size];omega
 obtain⟨c0,c1,-⟩:=h.cells;have KT:=ae (yJ w L.tL S.T h.tr oR.1 oR.2 (n:Int));have HH:=ae h;clear h ok;go_enter Tryz.func99,Tryz.ntmps99;go_wp2_with fail;refine KT.o.mono ?_;clear KT c0 c1;rintro e w1 ⟨rfl,tL,ht,b0,b1⟩;obtain⟨L1,h1,yo,di⟩:=HH.o.yL ht b0 b1;have H1:=ae h1;have fH:=ae yo;have dZ:=ae di;have c1:=h1.cells.2.1;rw[fH.o.1]at c1;have KH:=ae (Cu w1 L1.hL S.H h1.hp h1.jf (n:Int) (by have :=CZ.o;omega));clear h1 yo di ht b0 b1 HH;go_wp2_with fail;refine KH.o.mono ?_;clear KH c1;rintro e w2 ⟨rfl,hL,hh,bS,bT⟩;obtain⟨L2,h2,jZ,cE⟩:=H1.o.heap hh bS bT;obtain⟨H0,ar⟩:∃H0,S.H.eP (n:Int)=H0:=⟨_,rfl⟩
 obtain⟨T0,dy⟩:∃T0,S.T.eP (n:Int)=T0:=⟨_,rfl⟩
 rw[ar]at h2;rw[dy]at h2;have H2:=ae h2;have dR:=ae (aO.a6 fH.o jZ dZ.o.size);have df:=ae (aO.aQ fH.o dZ.o cE);have b6:=ae dy;have aB:=ae ar;have c5:=h2.cells.2.2.2.2.2.1;rw[dR.o.1]at c5;have VJ:=ae c5;have f5:=h2.obj.frozen 5;rw[dR.o.1]at f5;have js:=ae f5;have Qm:aj (L.a∉ao L2.pA):=fun hm=>by have e1:=H2.o.t5 _ hm;rw[<-dR.o.1,H2.o.t0]at e1;simp at e1
 have Zq:S.phase.length+n<=262144:=by have :=b5.o;omega
 have aK:=ae Zq;clear h2 jZ cE hh bS bT H1 fH dZ dy ar Zq f5;go_upto_region 3 with(at_builtin;(refine lB _ rfl _ _ 110 3 4 rfl (.bool false) 1 Tryz.underlying110 Tryz.underlying3 GL rfl rfl L2.pA L2.pC S.phase.length rfl (S.phase.map Value.bool) H2.o.wv n _ rfl rfl (by have :=aK.o;unfold maxLen;omega) (by have :=aK.o;omega) (by omega) ?_;intro A5 aM w3 ym fT QT;have s5:=fT.bF Qm.o VJ.o;have ca:=(World.frozen?_of_block (fT.block L.a (bR VJ.o) Qm.o)).trans js.o))
 --cf ch
 obtain⟨w4,vE⟩:∃w4,w3.setCell ⟨L.a,5,none⟩ (.slice A5 (S.phase.length+n) aM)=w4:=⟨_,rfl⟩
 have Tg:Bools w3 A5 aM (S.phase++List.replicate n false):=by unfold Bools;rw[an,a8,bE,List.map_replicate];exact ym
 obtain⟨L4,h4,ZA,fG⟩:=H2.o.aeD Tg fT (fun k hk _=>H2.o.t5 k hk) (fun k hk=>by
  rcases QT k hk with J |J
  ·exact .inl ⟨eK H2.o.wv k J,H2.o.t5 k J⟩
  ·exact .inr J)
 rw[dR.o.1,an,a8,vE]at h4 fG;have H4:=ae h4;have yD:=ae (aO.a6 dR.o ZA df.o.size);have ic:=ae (aO.aQ dR.o df.o fG);have c4:=h4.cells.2.2.2.2.1;rw[yD.o.1]at c4;have Qx:=ae c4;have f4:=h4.obj.frozen 4;rw[yD.o.1]at f4;have bj:=ae f4;have uP:aj (L.a∉ao L4.wA):=fun hm=>by have e1:=H4.o.t4 _ hm;rw[<-yD.o.1,H4.o.t0]at e1;simp at e1
 have AH:L4.ws.length=S.watch.length:=H4.o.uf;have AQ:=ae AH;have kE:IntKind.i64.wrap (2*(n:Int))=2*(n:Int):=IntWalk.i64_in _ (by omega);have bo:2*(n:Int)=((2*n:Nat):Int):=by omega
 have b2:=ae bo;have fS:L4.ws.length+2*n<=600000:=by have :=b7.o;omega
 have Uz:=ae fS;clear h4 ZA fG H2 dR df ym Tg fT QT s5 ca c5 f4 AH bo fS VJ js Qm;rw[vE];clear vE;go_upto_region 4 with(at_builtin;(refine lB _ rfl _ _ 28 3 22 rfl (.slice none 0 0) 24 Tryz.underlying28 Tryz.underlying3 GK rfl rfl L4.wA L4.wC L4.ws.length rfl (L4.ws.map Wl.val) H4.o.rws (2*n) (2*(n:Int)) b2.o rfl (by have :=Uz.o;unfold maxLen;omega) (by have :=Uz.o;omega) (by have :=Uz.o;omega) ?_;intro A6 bg w5 Vl gQ bI;have s6:=gQ.bF uP.o Qx.o;have cb:=(World.frozen?_of_block (gQ.block L.a (bR Qx.o) uP.o)).trans bj.o))
 --cf watch lists
 obtain⟨w6,Bc⟩:∃w6,w5.setCell ⟨L.a,4,none⟩ (.slice A6 (L4.ws.length+2*n) bg)=w6:=⟨_,rfl⟩
 have ba:uM w5 A6 bg (L4.ws++List.replicate (2*n) ⟨none,0,[]⟩):=by unfold uM;rw[an,a8,bE,List.map_replicate];exact Vl
 obtain⟨L6,h6,To,ad⟩:=H4.o.aet ba gQ (fun k hk _=>H4.o.t4 k hk) (fun k hk=>by
  rcases bI k hk with J |J
  ·exact .inl ⟨eK H4.o.rws k J,H4.o.t4 k J⟩
  ·exact .inr J)
 rw[yD.o.1,Bc]at h6 ad;have H6:=ae h6;have sC:=ae (aO.a6 yD.o To ic.o.size);have fC:=ae (aO.aQ yD.o ic.o ad);have c2:=h6.cells.2.2.1;rw[sC.o.1]at c2;have cy:IntKind.i64.wrap ((S.vars:Int)+1)=(S.vars:Int)+1:=IntWalk.i64_in _ (by omega);have cn:IntKind.i64.wrap ((S.vars:Int)+(n:Int))=(S.vars:Int)+(n:Int):=IntWalk.i64_in _ (by omega);have aT:HI H0/\H0.at_.length=S.vars+n+1:=by have J:=lh.o.hl;rw[<-aB.o,Sv.rD J hb];refine⟨lh.o.hi.grow n,?_⟩;simp only[Hp.growBy,an,a8];omega
 have b4:=ae aT;clear h6 To ad H4 yD ic Vl ba gQ bI s6 cb c4 Qx bj uP aT kE;rw[Bc];clear Bc;go_wp2_with fail;clear c2;go_loopg [4] n (fun g x4 wr=>∃(k:Nat)(Hk:Hp)(Lk:aO),k+g=n/\x4= .int .i64 ((S.vars:Int)+1+k)/\aj (Sv.jy g ((S.vars:Int)+1+k) Hk=Sv.jy n ((S.vars:Int)+1) H0)/\aj (HI Hk/\Hk.at_.length=S.vars+n+1)/\
   aj (bh wr Lk { S with T:=T0,H:=Hk,phase:=S.phase++List.replicate n false,watch:=S.watch++List.replicate (2*n) [] })/\aj (L.ext Lk w)/\aj (Fr (L.own w) w wr))
 case atStart=>exact⟨0,H0,L6,by omega,by go_num,by show _=_;simp,b4.o,H6.o,sC.o,fC.o⟩
 case round=>
  obtain⟨k,Hk,Lk,hk,rfl,HP,ab,H7,Fh,mP⟩:=hrel;have HK:=ae hk;have iS:k<=n:=by omega
  obtain⟨-,c1,c2,-⟩:=H7.o.cells;rw[Fh.o.1]at c1 c2;clear hk;by_cases bt:k<n
  ·obtain⟨f,rfl⟩:∃f,gk=f+1:=⟨gk-1,by have :=HK.o;omega⟩
   have hd:(S.vars:Int)+1+(k:Int)<=(S.vars:Int)+(n:Int):=by omega
   have KP:=ae (zz wr Lk.hL Hk H7.o.hp ab.o.1 (by have :=ab.o.2;omega) ((S.vars:Int)+1+k));have ct:IntKind.i64.wrap ((S.vars:Int)+1+(k:Int)+1)=(S.vars:Int)+1+(k:Int)+1:=IntWalk.i64_in _ (by omega);have Fz:aj (Sv.jy f ((S.vars:Int)+1+((k+1:Nat):Int)) (Sv.fW Hk ((S.vars:Int)+1+k))=Sv.jy n ((S.vars:Int)+1) H0):=by have J:=HP.o;rw[Sv.jy]at J;rw[show(S.vars:Int)+1+((k+1:Nat):Int)=(S.vars:Int)+1+(k:Int)+1 from by omega];exact J
   have b9:aj (HI (Sv.fW Hk ((S.vars:Int)+1+k))/\(Sv.fW Hk ((S.vars:Int)+1+k)).at_.length=S.vars+n+1):=by have J:=ab.o.1.fW ((S.vars:Int)+1+k);exact⟨J.1,J.2.trans ab.o.2⟩
   go_wp2_with fail;refine KP.o.mono ?_;clear KP c1 c2;rintro e w8 ⟨b,rfl,cp,bO,Xv,kc⟩;obtain⟨L8,h8,a1,bb⟩:=H7.o.heap bO Xv kc;have H8:=ae h8;have b3:=ae (aO.a6 Fh.o a1 mP.o.size);have pV:=ae (aO.aQ Fh.o mP.o bb);clear h8 a1 bb bO Xv kc;go_wp2;go_roundg f;case measure=>omega
   case rel=>exact⟨k+1,Sv.fW Hk ((S.vars:Int)+1+k),L8,by have :=HK.o;omega,by go_num,Fz.o,b9.o,H8.o,b3.o,pV.o⟩
  ·obtain rfl :k=n:=by omega
   have cc:gk=0:=by have :=HK.o;omega
   subst cc;have bB:Hk=Sv.jy k ((S.vars:Int)+1) H0:=HP.o;have hd:¬((S.vars:Int)+1+(k:Int)<=(S.vars:Int)+(k:Int)):=by omega
   have cr:(S.vars:Int)+(k:Int)<(S.vars:Int)+1+(k:Int):=by omega
   have f2:=H7.o.obj.frozen 2;rw[Fh.o.1]at f2;obtain⟨g9,f9⟩:=H7.o.qj 2 (.int .i64 ((S.vars:Int)+(k:Int))) { S with T:=T0,H:=Hk,phase:=S.phase++List.replicate k false,watch:=S.watch++List.replicate (2*k) [],vars:=S.vars+k } (by simp[qm]) ⟨rfl,rfl,rfl,rfl,rfl,rfl,rfl⟩;rw[Fh.o.1]at g9 f9;have bG:({ S with T:=T0,H:=Hk,phase:=S.phase++List.replicate k false,watch:=S.watch++List.replicate (2*k) [],vars:=S.vars+k }:Sv)=S.grow k:=by unfold Sv.grow;rw[bB,<-b6.o,<-aB.o]
   rw[bG]at g9;have FF:aj (pB (.tuple #[]) (S.grow k) L w (.returned (.tuple #[])) (wr.setCell ⟨L.a,2,none⟩ (.int .i64 ((S.vars:Int)+(k:Int))))):=⟨rfl,Lk,g9,Fh.o,aO.aQ Fh.o mP.o f9⟩
   clear g9 f9 bG bB HP c1;go_wp2_with fail;go_end0;exact FF.o
def vw(a:Nat)(tL:fo)(hL:gK)(g4 g5:Nat):aO where
  a:=a
  tL:=tL
  hL:=hL
  cA:=none
  cC:=0
  wA:=some ⟨g4,0,none⟩
  wC:=2
  pA:=some ⟨g5,0,none⟩
  pC:=1
  mA:=none
  mC:=0
  oA:=none
  oC:=0
  cs:=[]
  ws:=[⟨none,0,[]⟩,⟨none,0,[]⟩]
  id:=0
  dh:=fun k=>if k=a then(0,0,0)else if k∈tL.fp then(0,1,0)else if k∈hL.fp then(0,2,0)else if k=g4 then(0,4,0)else if k=g5 then(0,5,0)else(1,0,0)
theorem bh.make{w:World}{tL:fo}{hL:gK}{g4 g5:Nat}(ht:TrAt w tL (Tr.fresh.eP 0))(hh:cT w hL (Hp.none_.eP 1))(hm:hL.A2.isSome=true)(hw:uM w (some ⟨g4,0,none⟩) 2 [⟨none,0,[]⟩,⟨none,0,[]⟩])(hp:Bools w (some ⟨g5,0,none⟩) 1 [false])
    (b:Nat) (hb:b<=w.heap.size) (hx:(∀k,k∈tL.fp->b<=k)/\(∀k,k∈hL.fp->b<=k)/\b<=g4/\b<=g5/\(∀k,k∈tL.fp->k∉hL.fp)/\g4∉tL.fp/\g5∉tL.fp/\g4∉hL.fp/\g5∉hL.fp/\g4≠g5):
    ∃L:aO,L.a=w.heap.size/\bh (w.alloc (.cells #[.pointer (some ⟨tL.a,0,none⟩), .pointer (some ⟨hL.a,0,none⟩), .int .i64 0, .slice none 0 0, .slice (some ⟨g4,0,none⟩) 2 2, .slice (some ⟨g5,0,none⟩) 1 1, .slice none 0 0, .slice none 0 0, .int .i64 0, .int .i64 0, .int .i64 1, .int .i64 0, .int .i64 400, .bool false, .bool false] 112)) L Sv.bare/\(∀k,k<b->(L.dh k).1≠L.id)/\Fr [] w (w.alloc (.cells #[.pointer (some ⟨tL.a,0,none⟩), .pointer (some ⟨hL.a,0,none⟩), .int .i64 0, .slice none 0 0, .slice (some ⟨g4,0,none⟩) 2 2, .slice (some ⟨g5,0,none⟩) 1 1, .slice none 0 0, .slice none 0 0, .int .i64 0, .int .i64 0, .int .i64 1, .int .i64 0, .int .i64 400, .bool false, .bool false] 112)):=by
  obtain⟨n1,n2,n4,n5,d12,d14,d15,d24,d25,d45⟩:=hx;have zx:=ht.lt;have pJ:=hh.lt;have Jf:g4<w.heap.size:=eK hw g4 (by simp[ao]);have ab:g5<w.heap.size:=eK hp g5 (by simp[ao]);have J:Fr [] w (w.alloc (.cells #[.pointer (some ⟨tL.a,0,none⟩), .pointer (some ⟨hL.a,0,none⟩), .int .i64 0, .slice none 0 0, .slice (some ⟨g4,0,none⟩) 2 2, .slice (some ⟨g5,0,none⟩) 1 1, .slice none 0 0, .slice none 0 0, .int .i64 0, .int .i64 0, .int .i64 1, .int .i64 0, .int .i64 400, .bool false, .bool false] 112)):=aR _ _;refine⟨vw w.heap.size tL hL g4 g5,rfl,?_,?_,J⟩
  . refine⟨At.new w _ _,ht.fr J (by simp),hh.fr J (by simp),hm,rfl,rfl,World.ownsRow_nil _ 0 _ 3,?_,?_,World.ownsRow_nil _ 0 _ 1,Ints.nil _,fun n hn=>absurd hn (aD _),fun c hc=> ?_,?_,?_,?_,?_,?_,?_,?_,?_,fun n hn=>absurd hn (aD _),fun c hc=> ?_⟩
    . exact fc hw J (by simp)
    . exact fc hp J (by simp)
    . have :c=0\/c=1:=by simp[vw]at hc;omega
      rcases this with rfl |rfl <;>exact Ints.nil _
    . simp[vw]
    . intro k (hk:k∈tL.fp);have :=zx k hk;show(if k=w.heap.size then(0,0,0)else if k∈tL.fp then(0,1,0)else _)=((0,1,0):Nat×Nat×Nat);rw[qah (by omega),qai hk]
    . intro k (hk:k∈hL.fp);have :=pJ k hk;show(if k=w.heap.size then(0,0,0)else if k∈tL.fp then(0,1,0)else if k∈hL.fp then(0,2,0)else _)=((0,2,0):Nat×Nat×Nat);rw[qah (by omega),qah (fun h=>d12 k h hk),qai hk]
    . intro k hk;simp[vw,ao]at hk
    . intro k hk;simp[vw,ao]at hk;subst hk;simp only[vw];rw[qah (by omega),qah d14,qah d24];rfl
    . intro k hk;simp[vw,ao]at hk;subst hk;simp only[vw];rw[qah (by omega),qah d15,qah d25,qah (fun h=>d45 h.symm)];rfl
    . intro k hk;simp[vw,ao]at hk
    . intro k hk;simp[vw,ao]at hk
    . have :c=0\/c=1:=by simp[vw]at hc;omega
      rcases this with rfl |rfl <;>(intro k hk;simp[vw,ao]at hk)
  . intro k hk;simp only[vw];rw[qah (by omega),qah (fun h=>by have :=n1 k h;omega),qah (fun h=>by have :=n2 k h;omega),qah (by omega),qah (by omega)];simp
theorem Sv.Ok.bare:Sv.bare.Ok 0:=by
  have J:TRep (Tr.fresh.eP 0) 0 [] 0:=by have :=TRep.fresh.grow 0 (by omega);exact this
  have hH:(Hp.none_.eP 1)=Hp.none_.growBy 1:=rfl;refine⟨by decide,⟨[],J⟩,?_,rfl,rfl,rfl,by decide,fun c k hk=> ?_,by decide,fun j x hx=> ?_,fun j=> ?_,fun j=> ?_,by decide,fun v=> ?_⟩
  . show HI (Hp.none_.eP 1);rw[hH];exact HI.none_.grow 1
  . have :k∈([[],[]]:List (List Nat))[c]! :=hk;rcases c with _ |_ |c
    . simp at this
    . simp at this
    . exact absurd (show k∈([]:List Nat)from this) bi
  . have e:Sv.bare.rc j=⟨[],false,0⟩:=Sv.o6 (aU j);rw[e]at hx;simp at hx
  . have e:Sv.bare.rc j=⟨[],false,0⟩:=Sv.o6 (aU j);rw[e];simp
  . have e:Sv.bare.rc j=⟨[],false,0⟩:=Sv.o6 (aU j);rw[e];simp
  . have :=J.fV v;show 0<=(Tr.fresh.eP 0).fV v/\(Tr.fresh.eP 0).fV v<=_;rw[this];simp[look]
theorem yT(W:World)(z:Int)(h0:0<=z)(h1:z<=1099511627776):
    (Instr.makeSlice 28 (.int .i64 z) (.int .i64 z)).run Tryz.prog W= .ok (.slice (some ⟨W.heap.size,0,none⟩) z.toNat z.toNat) (W.alloc (.cells (madeCells #[.slice none 0 0] z.toNat) 22)):=by
  obtain⟨i0,hi,zq,pj,J⟩:=info_parts GK;obtain⟨n,rfl⟩:=Int.eq_ofNat_of_zero_le h0;have hr:=run_make (P:=Tryz.prog) W 28 22 i0 (.slice none 0 0) Tryz.underlying28 hi zq .i64 .i64 n n (by omega) (gE _) (by rw[J];omega) (by omega);simp only[Int.toNat_natCast]at hr⊢;rw[pj,j9]at hr;exact hr
theorem Wn(W:World):uM (W.alloc (.cells (madeCells #[.slice none 0 0] 2) 22)) (some ⟨W.heap.size,0,none⟩) 2 [⟨none,0,[]⟩,⟨none,0,[]⟩]:=by have :=World.ownsRow_lit (base:=0) (e:=22) (size:=1) W (madeCells #[.slice none 0 0] 2) 2 (aU _) (by decide) (by rw[size_madeCells]);rw[toList_madeCells_one]at this;exact this
theorem Wo(W:World):Bools (W.alloc (.cells (madeCells #[.bool false] 1) 4)) (some ⟨W.heap.size,0,none⟩) 1 [false]:=sN W 1 (by decide)
theorem ace{w w':World}{A:Option Addr}{c:Nat}{l:List Bool}(h:Bools w A c l)(J:Fr [] w w'):Bools w' A c l:=fc h J (by simp)
theorem adv{w w':World}{A:Option Addr}{c:Nat}{l:List Wl}(h:uM w A c l)(J:Fr [] w w'):uM w' A c l:=fc h J (by simp)
def Yg(S:Sv)(w:World)(e:Ending)(w':World):Prop:=∃L:aO,e= .returned (.pointer (some ⟨L.a,0,none⟩))/\bh w' L S/\(∀k,k<w.heap.size->(L.dh k).1≠L.id)/\Fr [] w w'
def NT(J hi ta:Nat)(w:World):Prop:=∃tL:fo,tL.a=ta/\TrAt w tL (Tr.fresh.eP 0)/\∀k,k∈tL.fp->J<=k/\k<hi
def NH(lo hi J:Nat)(w:World):Prop:=∃hL:gK,hL.a=J/\cT w hL (Hp.none_.eP 1)/\hL.A2.isSome=true/\∀k,k∈hL.fp->lo<=k/\k<hi
def NW(g:Nat)(w:World):Prop:=uM w (some ⟨g,0,none⟩) 2 [⟨none,0,[]⟩,⟨none,0,[]⟩]
def NB(g:Nat)(w:World):Prop:=Bools w (some ⟨g,0,none⟩) 1 [false]
theorem NT.k{J hi a:Nat}{w w':World}(h:aj (NT J hi a w))(hf:Fr [] w w'):aj (NT J hi a w'):=by obtain⟨tL,h1,h2,h3⟩:=h;exact⟨tL,h1,h2.fr hf (by simp),h3⟩
theorem NH.k{J hi a:Nat}{w w':World}(h:aj (NH J hi a w))(hf:Fr [] w w'):aj (NH J hi a w'):=by obtain⟨tL,h1,h2,h3,h4⟩:=h;exact⟨tL,h1,h2.fr hf (by simp),h3,h4⟩
theorem NW.k{g:Nat}{w w':World}(h:aj (NW g w))(J:Fr [] w w'):aj (NW g w'):=fc (F:=[]) h J (by simp)
theorem NB.k{g:Nat}{w w':World}(h:aj (NB g w))(J:Fr [] w w'):aj (NB g w'):=fc (F:=[]) h J (by simp)
theorem mk2{w cur:World}(h:(fun w':World=>Fr [] w w') cur):∃(g:Nat)(W:World),cur.heap.size=g/\cur.alloc (.cells (madeCells #[.slice none 0 0] 2) 22)=W/\aj (NW g W)/\Fr [] cur W/\cur.heap.size<=g/\g<W.heap.size:=⟨_,_,rfl,rfl,Wn cur,aR _ _,aq _,by simp⟩
theorem mk1{w cur:World}(h:(fun w':World=>Fr [] w w') cur):∃(g:Nat)(W:World),cur.heap.size=g/\cur.alloc (.cells (madeCells #[.bool false] 1) 4)=W/\aj (NB g W)/\Fr [] cur W/\cur.heap.size<=g/\g<W.heap.size:=⟨_,_,rfl,rfl,Wo cur,aR _ _,aq _,by simp⟩
theorem aey{C P:Nat->Nat->Nat->Nat->Nat->World->Prop}{G:Prop}(m:(∀a b c d g W,C a b c d g W->P a b c d g W)->G)(t:∀a b c d g W,C a b c d g W->P a b c d g W):G:=m t
theorem TK{w W:World}{J:aO}(h9:bh W J Sv.bare)(ab:∀k,k<w.heap.size->(J.dh k).1≠J.id)(hF:Fr [] w W)(n:Nat)(hn:n<=262143):
    Calls Tryz.prog 99 #[.pointer (some ⟨J.a,0,none⟩), .int .i64 (n:Int)] W fun e w8=>e= .returned (.tuple #[])/\Yg (Sv.bare.grow n) w (.returned (.pointer (some ⟨J.a,0,none⟩))) w8:=by
  refine(zD _ J Sv.bare h9 Sv.Ok.bare n (by show 0+n<=_;omega)).mono ?_;rintro e w8 ⟨rfl,L8,h8,Xv,kc⟩;refine⟨rfl,L8,by rw[Xv.1],h8,fun k hk e=>ab k hk (Xv.2.2 k (aS hk hF.size) (e.trans Xv.2.1)),hF.trans kc (fun k hk=> ?_)⟩;rw[aO.cj]at hk;rcases bN k w.heap.size with hl |hl
  . exact absurd hk.2 (ab k hl)
  . exact .inr hl
theorem Wm{w0 w:World}{vars:Int}{n J lb ma mb ta ha g4 g5:Nat}(hS:Sv.new vars=Sv.bare.grow n)(hn:n<=262143)(hT:aj (NT J lb ta w))(hH:aj (NH ma mb ha w))(hw:aj (NW g4 w))(hp:aj (NB g5 w))(hf:aj (Fr [] w0 w))
    (hx:w0.heap.size<=J/\w0.heap.size<=ma/\w0.heap.size<=g4/\w0.heap.size<=g5/\(lb<=ma\/mb<=J)/\(g4<J\/lb<=g4)/\(g5<J\/lb<=g5)/\(g4<ma\/mb<=g4)/\(g5<ma\/mb<=g5)/\g4≠g5):
    ∃(g:Nat)(W:World),w.alloc (.cells #[.pointer (some ⟨ta,0,none⟩), .pointer (some ⟨ha,0,none⟩), .int .i64 0, .slice none 0 0, .slice (some ⟨g4,0,none⟩) 2 2, .slice (some ⟨g5,0,none⟩) 1 1, .slice none 0 0, .slice none 0 0, .int .i64 0, .int .i64 0, .int .i64 1, .int .i64 0, .int .i64 400, .bool false, .bool false] 112)=W/\w.heap.size=g/\
      Calls Tryz.prog 99 #[.pointer (some ⟨g,0,none⟩), .int .i64 (n:Int)] W fun e w8=>e= .returned (.tuple #[])/\Yg (Sv.new vars) w0 (.returned (.pointer (some ⟨g,0,none⟩))) w8:=by
  obtain⟨tL,rfl,ht,Cp⟩:=hT;obtain⟨hL,rfl,hh,hm,Th⟩:=hH;obtain⟨L,h1,h2,h3,h4⟩:=bh.make ht hh hm hw hp w0.heap.size (Fr.size hf) (by
    refine⟨fun k a=> ?_,fun k a=> ?_,?_,?_,fun k a b=> ?_,fun a=> ?_,fun a=> ?_,fun a=> ?_,fun a=> ?_,?_⟩
    . have :=Cp k a;omega
    . have :=Th k a;omega
    . omega
    . omega
    . have :=Cp k a;have :=Th k b;omega
    . have :=Cp _ a;omega
    . have :=Cp _ a;omega
    . have :=Th _ a;omega
    . have :=Th _ a;omega
    . omega)
  have KG:=TK (w:=w0) h2 h3 (Fr.ak hf h4) n hn;rw[<-hS,h1]at KG;exact⟨_,_,rfl,rfl,KG⟩
set_option maxHeartbeats 16000000 in
theorem OD(w:World)(vars:Int)(Co: -9223372036854775808<=vars)(WL:vars<=9223372036854775807):Calls Tryz.prog 69 #[.int .i64 vars] w (Yg (Sv.new vars) w):=by
  have KT:aj (∀W,Calls Tryz.prog 97 #[.int .i64 (0:Nat)] W fun e w'=>∃ta,e= .returned (.pointer (some ⟨ta,0,none⟩))/\aj (NT W.heap.size w'.heap.size ta w')/\Fr [] W w'):=fun W=>(Ol W 0).mono fun e w' ⟨tL,h1,h2,h3,h4⟩=>⟨tL.a,h1,⟨tL,rfl,h2,fun k hk=>⟨h3 k hk,h2.lt k hk⟩⟩,h4⟩
  have KH:aj (∀W,Calls Tryz.prog 98 #[.int .i64 (1:Nat)] W fun e w'=>∃ha,e= .returned (.pointer (some ⟨ha,0,none⟩))/\aj (NH W.heap.size w'.heap.size ha w')/\Fr [] W w'):=fun W=>(Tn W 1).mono fun e w' ⟨hL,h1,h2,h3,h4,h5⟩=>⟨hL.a,h1,⟨hL,rfl,h2,h3,fun k hk=>⟨h4 k hk,h2.lt k hk⟩⟩,h5⟩
  have Kw:=fun W=>yT W 2 (by omega) (by omega);have sl:=fun W=>nF W 1 (by omega) (by omega);simp only[show(2:Int).toNat=2 from rfl]at Kw;simp only[show(1:Int).toNat=1 from rfl]at sl;obtain⟨n,hn⟩:∃n:Nat,(min (max vars 0) 262143).toNat=n:=⟨_,rfl⟩
  have rP:n<=262143:=by omega
  have VC:aj (Sv.new vars=Sv.bare.grow n):=by show _=_;unfold Sv.new;rw[hn]
  have Mf:aj (min (max vars 0) 262143=(n:Int)):=by show _=_;omega
  clear hn;go_enter Tryz.func69,Tryz.ntmps69;go_upto_region 1 with fail;apply aey (C:=fun(_ _ _ _ g:Nat)(W:World)=>Calls Tryz.prog 99 #[.pointer (some ⟨g,0,none⟩), .int .i64 (n:Int)] W fun e w8=>e= .returned (.tuple #[])/\Yg (Sv.new vars) w (.returned (.pointer (some ⟨g,0,none⟩))) w8)
  . intro ab;refine qan ?_;refine bw (fun w':World=>Fr [] w w') 5 (by kernel_rfl) ((Fr.refl [] w).drew) (fun hT=> ?_);have ad:w.heap.size<=w.drew.heap.size:=aq _;generalize w.drew=wd at hT ad⊢
    repeat' first
      |exact cM.nil
      |refine cM.cons rfl ?_ ?_
      | (intro K hK
         go_simp;first
           | (refine(KT.o _).mono ?_;rintro e w5 ⟨ta,rfl,HT,J⟩;(try have HP:=NH.k HP J);(try have HW:=NW.k HW J);(try have HB:=NB.k HB J);have hz:=J.size;have HX:=ae (aM.ak J);dsimp only)
           | (refine(KH.o _).mono ?_;rintro e w5 ⟨ha,rfl,HP,J⟩;(try have HT:=NT.k HT J);(try have HW:=NW.k HW J);(try have HB:=NB.k HB J);have hz:=J.size;have HX:=ae (aM.ak J);dsimp only)
           | (obtain⟨g4,w6,e1,e2,HW,J,l1,l2⟩:=mk2 aM;rw[e1,e2];clear e1 e2;(try have HT:=NT.k HT J);(try have HP:=NH.k HP J);(try have HB:=NB.k HB J);have HX:=ae (aM.ak J))
           | (obtain⟨g5,w6,e1,e2,HB,J,l1,l2⟩:=mk1 aM;rw[e1,e2];clear e1 e2;(try have HT:=NT.k HT J);(try have HP:=NH.k HP J);(try have HW:=NW.k HW J);have HX:=ae (aM.ak J))
           |skip
         first
           |refine hK.out _ _ (.inl rfl) (fun hT=> ?_)
           | (refine hK.out _ _ (.inr ?_) (fun hT=> ?_)
              . first |exact HX.o |exact aM)
         clear hK K;try simp only[Act.put,q5,q6,q7])
      | (have aM:=hT.resolve_left (by decide)
         first
           |refine aY (rs:=[0,2,3]) (by decide+kernel) (by simp) ?_
           |refine aY (rs:=[1,2,3]) (by decide+kernel) (by simp) ?_
           |refine aY (rs:=[2,3]) (by decide+kernel) (by simp) ?_
           |refine aY (rs:=[3]) (by decide+kernel) (by simp) ?_
           |refine aY (rs:=[4]) (by decide+kernel) (by simp) ?_
           |refine aY (rs:=[5]) (by decide+kernel) (by simp) ?_
           |refine aY (rs:=[2]) (by decide+kernel) (by simp) ?_
           |refine aY (rs:=[1,3]) (by decide+kernel) (by simp) ?_
           |refine aY (rs:=[1]) (by decide+kernel) (by simp) ?_
           |refine aY (rs:=[1,2]) (by decide+kernel) (by simp) ?_
           |refine aY (rs:=[0,3]) (by decide+kernel) (by simp) ?_
           |refine aY (rs:=[0]) (by decide+kernel) (by simp) ?_
           |refine aY (rs:=[0,2]) (by decide+kernel) (by simp) ?_)
      |refine aY (rs:=[6]) (by decide+kernel) (by simp) ?_
      | (refine m6 (by decide+kernel) ?_ _
         refine NoPanic.normal ?_;obtain⟨g9,w9,e1,e2,KG⟩:=Wm VC.o rP HT HP HW HB HX (by omega);rw[e1,e2];exact ab ta ha g4 g5 g9 w9 KG)
  . intro ta ha g4 g5 g9 w9 KG;clear Kw sl;have KG:=ae KG;by_cases h0:vars<0
    . obtain rfl :n=0:=by have :=Mf.o;omega
      go_wp2_with fail;refine KG.o.mono ?_;rintro e w8 ⟨rfl,hN⟩;have FF:=ae hN;clear hN KG;go_wp2;go_ret;exact FF.o
    . have ar:(0:Int)<=vars:=(by omega)
      by_cases h1:262143<vars
      . obtain rfl :n=262143:=by have :=Mf.o;omega
        go_wp2_with fail;refine KG.o.mono ?_;rintro e w8 ⟨rfl,hN⟩;have FF:=ae hN;clear hN KG;go_wp2;go_ret;exact FF.o
      . obtain rfl :vars=(n:Int):=by have :=Mf.o;omega
        have TI:(n:Int)<=262143:=(by omega)
        go_wp2_with fail;refine KG.o.mono ?_;rintro e w8 ⟨rfl,hN⟩;have FF:=ae hN;clear hN KG;go_wp2;go_ret;exact FF.o
theorem TRep.canon{T:Tr}{vars:Nat}{R:List St}{d:Nat}(h:TRep T vars R d):R=T.lits.map fun x=>(⟨x,T.dF (tv x),T.fV (tv x)⟩:St):=by
 rw[h.lits,List.map_map];have :∀e∈R,((fun x=>(⟨x,T.dF (tv x),T.fV (tv x)⟩:St))∘fun e:St=>e.x) e=e:=fun e he=>by simp only[Function.comp_apply];rw[h.dF,h.fV,jd h.nd he]
 exact(List.map_id R).symm.trans (List.map_congr_left fun e he=>(this e he).symm)
namespace Sv
def R(S:Sv):List St:=S.T.lits.map fun x=>(⟨x,S.T.dF (tv x),S.T.fV (tv x)⟩:St)
theorem Ok.rep{S:Sv}{m:Nat}(ok:S.Ok m):TRep S.T S.vars S.R S.T.levels.length:=by obtain⟨R,J⟩:=ok.tr;have :=J.canon;unfold Sv.R;rw[<-this];exact J
theorem ko(S:Sv):S.R.length=S.T.lits.length:=by simp[R]
theorem X9{S:Sv}{R:List St}{d:Nat}(h:TRep S.T S.vars R d):S.R=R:=h.canon.symm
theorem ew{S S':Sv}(h:S'.T=S.T):S'.R=S.R:=by unfold R;rw[h]
theorem gR{S:Sv}{m:Nat}(ok:S.Ok m)(x:Int):0<S.val x↔∃e∈S.R,e.x=x:=by
 have h:=ok.rep;unfold val;rw[h.mQ];cases hk:look S.R (tv x)with
 |none=>
  simp only[Int.lt_irrefl,false_iff];rintro⟨e,he,rfl⟩;exact rq hk e he rfl
 |some e=>
  obtain⟨h1,h2⟩:=jH hk;simp only;constructor
  ·intro h3;split at h3
   ·rename_i h4;exact⟨e,h1,h4⟩
   ·omega
  ·rintro⟨e',J,rfl⟩;rw[jd h.nd J]at hk;cases hk;rw[qai rfl];omega
theorem jE{S:Sv}{m:Nat}(ok:S.Ok m)(x:Int):S.val x=0\/S.val x=1\/S.val x= -1:=by
 have h:=ok.rep;unfold val;rw[h.mQ];cases look S.R (tv x)with
 |none=>exact .inl rfl
 |some e=>
  simp only;split
  ·exact .inr (.inl rfl)
  ·exact .inr (.inr rfl)
theorem VV{x y:Int}(h:tv x=tv y)(h1:1<=tv x):x=y\/x= -y:=by
 unfold tv at h h1;split at h1
 ·omega
 ·rename_i J;rw[qah J]at h;split at h
  ·split at h
   ·omega
   ·split at h<;>omega
  ·split at h
   ·omega
   ·split at h<;>omega
theorem Do(x:Int)(h:1<=tv x)(h2:tv x<=4611686018427387904):tv (-x)=tv x:=by
 have h3:x=tv x\/x= -tv x:=by
  unfold tv at *;split at h
  ·omega
  ·rename_i e1;rw[qah e1];split at h
   ·rename_i J;rw[qai J];omega
   ·rename_i J;rw[qah J];omega
 generalize tv x=t at *;rcases h3 with rfl |rfl
 ·rw[sF (by omega) (by omega)];omega
 ·rw[Int.neg_neg,oU (by omega)]
theorem iE{S:Sv}{m:Nat}(ok:S.Ok m){e:St}(he:e∈S.R):1<=tv e.x/\tv e.x<=S.vars/\0<=e.l/\e.l<=S.T.levels.length:=by have :=ok.rep.bound e he;exact⟨this.2.2.1,this.2.2.2,this.1,this.2.1⟩
theorem val_neg{S:Sv}{m:Nat}(ok:S.Ok m){x:Int}:S.val x<0↔∃e∈S.R,e.x= -x:=by
 have h:=ok.rep;have lP:=ok.vl;have QP:∀e∈S.R,e.x= -x->tv e.x=tv x:=fun e he J=>by have hb:=h.bound e he;have :=Do e.x hb.2.2.1 (by omega);rw[<-this,J,Int.neg_neg]
 unfold val;rw[h.mQ];cases hk:look S.R (tv x)with
 |none=>
  simp only[Int.lt_irrefl,false_iff];rintro⟨e,he,J⟩;exact rq hk e he (QP e he J)
 |some e=>
  obtain⟨h1,h2⟩:=jH hk;have hb:=h.bound e h1;simp only;constructor
  ·intro h3;split at h3
   ·omega
   ·rename_i h4;rcases VV h2 hb.2.2.1 with h5 |h5
    ·exact absurd h5 h4
    ·exact⟨e,h1,h5⟩
  ·rintro⟨e',fj,J⟩;have h7:=QP e' fj J;have h8:=jd h.nd fj;rw[h7,hk]at h8;cases h8;rw[qah (by
    intro h9;rw[J]at h9;have ab:x=0:=(by omega)
    have ad:=hb.2.2.1;rw[J,ab,oU (by omega)]at ad;omega)]
   omega
theorem mB{S:Sv}{m:Nat}(ok:S.Ok m){e:St}(he:e∈S.R):S.T.dF (tv e.x)=e.l/\S.T.fV (tv e.x)=e.r:=by have h:=ok.rep;rw[h.dF,h.fV,jd h.nd he];exact⟨rfl,rfl⟩
theorem sA{S:Sv}{m:Nat}(ok:S.Ok m){x r:Int}(J:S.T.ke x=true):(S.put x r).R=S.R++[⟨x,S.T.levels.length,r⟩]:=by
 have h:=ok.rep.put x r J;have e:(S.put x r).T=S.T.qt x r:=by unfold put;simp only;rw[qai J]
 have :TRep (S.put x r).T (S.put x r).vars (S.R++[⟨x,S.T.levels.length,r⟩]) S.T.levels.length:=by rw[e];exact h
 exact X9 this
theorem lK{S:Sv}{m:Nat}(ok:S.Ok m){x:Int}(h1:1<=tv x)(h2:tv x<=S.vars)(J:S.val x=0):S.T.ke x=true:=by
 have h:=ok.rep;rw[h.ke];simp only[ax,qam,Option.isNone_iff_eq_none];refine⟨⟨h1,h2⟩,?_⟩;unfold val at J;rw[h.mQ]at J;cases hk:look S.R (tv x)with
 |none=>rfl
 |some e=>
  rw[hk]at J;simp only at J;split at J<;>omega
theorem te{S:Sv}{m:Nat}(ok:S.Ok m):S.deep.R=S.R:=by have h:=ok.rep.deep;exact X9 (S:=S.deep) h
theorem acr{S:Sv}{m:Nat}(ok:S.Ok m)(level:Nat)(hl:level<S.T.levels.length):(S.back level).R=S.R.filter (fun e:St=>decide (e.l<=(level:Int))):=by
 have h:=ok.rep.back level hl;have J:=kJ (level:Int) S.T.lits.reverse S m ok;have e:(S.back level).T=S.T.dz level/\(S.back level).vars=S.vars:=by unfold back;rw[qah (by omega)];exact⟨by simp only;rw[J.2.1],J.2.2.2.1⟩
 refine X9 (d:=level) ?_;rw[e.1,e.2];exact h
end Sv
def jD(a:Nat->Bool)(x:Int):Prop:=(a x.natAbs=true↔0<x)
theorem jD.neg{a:Nat->Bool}{x:Int}(h:x≠0):jD a (-x)↔¬jD a x:=by
 unfold jD;have J:(0< -x)↔¬0<x:=by omega
 rw[Int.natAbs_neg,J];cases a x.natAbs<;>by_cases hp:0<x<;>simp[hp]
def eX(a:Nat->Bool)(l:List Int):Prop:=∃y∈l,jD a y
namespace Sv
def Rsn(S:Sv):Prop:=∀A e B,S.R=A++e::B->e.r≠0->∃n:Nat,e.r=(n:Int)+1/\∃ls,(S.rc n).lits=e.x::ls/\∀y∈ls,∃J∈A,J.x= -y
def Dec(S:Sv):Prop:=∀A e B,S.R=A++e::B->e.r=0->e.l=0\/∀J∈A,J.l<e.l
def Hd(S:Sv):Prop:=∀e∈S.R.drop S.head,e.l=S.T.levels.length
def Of(S:Sv)(n:Nat):Prop:=(∀y∈(S.rc n).lits,∃e∈S.R,e.x= -y)/\∃y∈(S.rc n).lits,∃e∈S.R,e.x= -y/\e.l=S.T.levels.length
def Good(S:Sv)(a:Nat->Bool):Prop:=(∀n:Nat,(S.rc n).lits≠[]->eX a (S.rc n).lits)/\∀e∈S.R,e.l=0->jD a e.x
def kS(d:Int)(seen:List Int)(Q:List St):Nat:=Q.countP fun e=>decide (e.l=d)&&decide (tv e.x∈seen)
theorem Ip{d:Int}{seen:List Int}{Q:List St}{v:Int}(h:∀e∈Q,tv e.x=v->e.l≠d):kS d (v::seen) Q=kS d seen Q:=by
 unfold kS;apply List.countP_congr;intro e he;by_cases J:tv e.x=v
 ·simp[h e he J]
 ·simp[J]
theorem NP{d:Int}{seen:List Int}{v:Int}:∀{Q:List St},(Q.map fun e:St=>tv e.x).Nodup->v∉seen->(∃e∈Q,tv e.x=v/\e.l=d)->kS d (v::seen) Q=kS d seen Q+1
 |[],_,_,h=>by obtain⟨e,he,_⟩:=h;cases he
 |e::Q,hn,hv,h=>by
  rw[dJ,kg]at hn;by_cases he:tv e.x=v
  ·have hl:e.l=d:=by
    obtain⟨e',J,h1,h2⟩:=h;rcases ay.1 J with rfl |J
    ·exact h2
    ·exact absurd (by rw[he,<-h1];exact List.mem_map_of_mem (f:=fun e:St=>tv e.x) J) hn.1
   have h0:kS d (v::seen) Q=kS d seen Q:=Ip (fun e' J h1=>absurd (by rw[he,<-h1];exact List.mem_map_of_mem (f:=fun e:St=>tv e.x) J) hn.1);unfold kS at *;rw[List.countP_cons,List.countP_cons,h0];simp[hl,he,hv]
  ·have ih:=NP (d:=d) hn.2 hv (by
    obtain⟨e',J,h1,h2⟩:=h;rcases ay.1 J with rfl |J
    ·exact absurd h1 he
    ·exact⟨e',J,h1,h2⟩)
   unfold kS at *;rw[List.countP_cons,List.countP_cons,ih];simp only[ay,he,false_or];omega
theorem NN{d:Int}{seen:List Int}{Q:List St}(h:0<kS d seen Q):∃e∈Q,e.l=d/\tv e.x∈seen:=by unfold kS at h;rw[List.countP_pos_iff]at h;obtain⟨e,he,h1⟩:=h;simp only[ax,qam]at h1;exact⟨e,he,h1⟩
structure LI(S:Sv)(d:Int)(G:Gr)(Q D:List St):Prop where
 split:S.R=Q.reverse++D
 T:G.S.T=S.T
 lits:∀m,(G.S.rc m).lits=(S.rc m).lits
 gO:G.gO=(kS d G.seen Q:Nat)
 nI:∀y∈G.bH.tail,tv y∈G.seen/\∃e∈S.R,e.x= -y/\1<=e.l/\e.l<d
 low:∀e∈S.R,tv e.x∈G.seen->e.l<d-> -e.x∈G.bH.tail
 nd:(G.bH.tail.map tv).Nodup
 l0:0<G.bH.length
 pos:∀e∈S.R,tv e.x∈G.seen->1<=e.l
theorem pD{S:Sv}{m:Nat}(ok:S.Ok m){e J:St}(h:e∈S.R)(h':J∈S.R)(ht:tv e.x=tv J.x):e=J:=by have h1:=jd ok.rep.nd h;have h2:=jd ok.rep.nd h';rw[ht,h2]at h1;cases h1;rfl
theorem lx{S:Sv}{m:Nat}(ok:S.Ok m){e:St}(h:e∈S.R){y:Int}(hy:e.x= -y):tv y=tv e.x/\y= -e.x:=by
 have J:=iE ok h;have hv:=ok.vl;have :y= -e.x:=by omega
 exact⟨by rw[this];exact Do _ J.1 (by omega),this⟩
theorem LI.meet{S:Sv}{m:Nat}(ok:S.Ok m){G:Gr}{Q D:List St}(h:LI S S.T.levels.length G Q D){y:Int}{e:St}(he:e∈Q)(hy:e.x= -y):
  LI S S.T.levels.length (meet G y) Q D/\(∀v∈G.seen,v∈(meet G y).seen)/\(e.l<=0\/tv y∈(meet G y).seen)/\(∀z∈G.bH.tail,z∈(meet G y).bH.tail):=by
 have hR:e∈S.R:=by rw[h.split];exact av _ (dX.2 he)
 obtain⟨ht,ad⟩:=lx ok hR hy;have hl:=(mB ok hR).1;have ar:=iE ok hR;by_cases h1:tv y∈G.seen\/G.S.T.dF (tv y)<=0
 ·rw[kN h1];refine⟨h,fun v hv=>hv,?_,fun z J=>J⟩;rcases h1 with h1 |h1
  ·exact .inr h1
  ·left
   rw[h.T,ht,hl]at h1;exact h1
 ·have Nl:tv y∉G.seen:=fun e=>h1 (.inl e);have hp:1<=e.l:=by have :¬G.S.T.dF (tv y)<=0:=fun e=>h1 (.inr e);rw[h.T,ht,hl]at this;omega
  have xH:∀e'∈S.R,tv e'.x∈tv y::G.seen->1<=e'.l:=fun e' fj hs=>by
   rcases ay.1 hs with hs |hs
   ·rw[ht]at hs;rw[pD ok fj hR hs];exact hp
   ·exact h.pos e' fj hs
  have ab:(Q.map fun e:St=>tv e.x).Nodup:=by have h5:=ok.rep.nd;rw[h.split,bE,List.nodup_append,List.map_reverse]at h5;have h6:=h5.1;unfold List.Nodup at h6⊢;rw[List.pairwise_reverse]at h6;exact h6.imp (fun h e=>h e.symm)
  by_cases h2:G.S.T.dF (tv y)=G.S.T.levels.length
  ·rw[iM h1 h2];have Pt:e.l=S.T.levels.length:=by rw[h.T,ht,hl]at h2;exact h2
   refine⟨⟨h.split,h.T,h.lits,?_,fun z J=>⟨bU _ (h.nI z J).1,(h.nI z J).2⟩,fun e' fj hs bt=> ?_,h.nd,h.l0,xH⟩,fun v hv=>bU _ hv, .inr bM,fun z J=>J⟩
   ·show G.gO+1=_;rw[NP ab Nl ⟨e,he,ht.symm,Pt⟩,h.gO];rfl
   ·rcases ay.1 hs with hs |hs
    ·rw[ht]at hs;rw[pD ok fj hR hs]at bt;omega
    ·exact h.low e' fj hs bt
  ·rw[jX h1 h2];have Pt:e.l≠S.T.levels.length:=by rw[h.T,ht,hl]at h2;exact h2
   have Cp:(G.bH++[y]).tail=G.bH.tail++[y]:=FU h.l0;refine⟨⟨h.split,h.T,h.lits,?_,fun z J=> ?_,fun e' fj hs bt=> ?_,?_,by simp,xH⟩,fun v hv=>bU _ hv, .inr bM,fun z J=> ?_⟩
   ·show G.gO=_;rw[Ip,h.gO];intro e' fj hs;rw[ht]at hs;rw[pD ok (by rw[h.split];exact av _ (dX.2 fj)) hR hs];exact Pt
   ·have J:z∈(G.bH++[y]).tail:=J;rw[Cp]at J;rcases ah.1 J with J |J
    ·exact⟨bU _ (h.nI z J).1,(h.nI z J).2⟩
    ·rw[ag.1 J];exact⟨bM,e,hR,hy,hp,by omega⟩
   ·show -e'.x∈(G.bH++[y]).tail;rw[Cp];rcases ay.1 hs with hs |hs
    ·rw[ht]at hs;rw[pD ok fj hR hs,<-ad];simp
    ·exact av _ (h.low e' fj hs bt)
   ·show((G.bH++[y]).tail.map tv).Nodup;rw[Cp,bE,List.nodup_append];refine⟨h.nd,by simp,fun a ha b hb=> ?_⟩;rw[aN]at ha;obtain⟨z,J,rfl⟩:=ha;simp only[dJ,fQ,ag]at hb;rw[hb];intro e9;exact Nl (by rw[<-e9];exact(h.nI z J).1)
   ·show z∈(G.bH++[y]).tail;rw[Cp];exact av _ J
theorem LI.meets{S:Sv}{m:Nat}(ok:S.Ok m){Q D:List St}(skip:Int):∀(ls:List Int)(G:Gr),LI S S.T.levels.length G Q D->(∀y∈ls,y≠skip->∃e∈Q,e.x= -y)->
  LI S S.T.levels.length (meets skip ls G) Q D/\(∀v∈G.seen,v∈(meets skip ls G).seen)/\(∀y∈ls,y≠skip->∀e∈Q,e.x= -y->e.l<=0\/tv y∈(meets skip ls G).seen)/\(∀z∈G.bH.tail,z∈(meets skip ls G).bH.tail)
 |[],G,h,_=>⟨h,fun v hv=>hv,(fun y hy=>by cases hy),fun z J=>J⟩
 |y::r,G,h,hl=>by
  rw[Sv.meets];by_cases hs:y≠skip
  ·rw[qai hs];obtain⟨e,he,hy⟩:=hl y bM hs;obtain⟨h1,h2,h3,h4⟩:=h.meet ok he hy;obtain⟨k1,k2,k3,k4⟩:=LI.meets ok skip r _ h1 (fun z J=>hl z (bU _ J));refine⟨k1,fun v hv=>k2 v (h2 v hv),fun z J Cm e' fj ab=> ?_,fun z J=>k4 z (h4 z J)⟩;rcases ay.1 J with rfl |J
   ·have :e'=e:=by have h5:=lx ok (by rw[h.split];exact av _ (dX.2 he)) hy;have h6:=lx ok (by rw[h.split];exact av _ (dX.2 fj)) ab;exact pD ok (by rw[h.split];exact av _ (dX.2 fj)) (by rw[h.split];exact av _ (dX.2 he)) (h6.1.symm.trans h5.1)
    rw[this];exact h3.imp id (fun h5=>k2 _ h5)
   ·exact k3 z J Cm e' fj ab
  ·rw[qah hs];obtain⟨k1,k2,k3,k4⟩:=LI.meets ok skip r _ h (fun z J=>hl z (bU _ J));refine⟨k1,k2,fun z J Cm=> ?_,k4⟩;rcases ay.1 J with rfl |J
   ·exact absurd Cm hs
   ·exact k3 z J Cm
def Sm(d:Int)(G:Gr)(Q:List St)(a:Nat->Bool):Prop:=(∃y∈G.bH.tail,jD a y)\/∃e∈Q,e.l=d/\tv e.x∈G.seen/\¬jD a e.x
structure apJ(S:Sv)(GE:Gr)(xe:Int):Prop where
 T:GE.S.T=S.T
 lits:∀m,(GE.S.rc m).lits=(S.rc m).lits
 nI:∀y∈GE.bH.tail,∃e∈S.R,e.x= -y/\1<=e.l/\e.l<S.T.levels.length
 nd:(GE.bH.tail.map tv).Nodup
 l0:0<GE.bH.length
 top:∃e∈S.R,e.x=xe/\e.l=S.T.levels.length
 sem:∀a,S.Good a->(∃y∈GE.bH.tail,jD a y)\/¬jD a xe
theorem wK{S:Sv}{m:Nat}(ok:S.Ok m)(hr:S.Rsn)(hd:S.Dec):∀(f:Nat)(G:Gr)(n:Nat)(skip:Int)(Q D:List St),Q.length<f->LI S S.T.levels.length G Q D->
  (∀y∈(S.rc n).lits,y≠skip->∃e∈Q,e.x= -y)->(0<kS S.T.levels.length G.seen Q\/(0<S.T.levels.length/\∃y∈(S.rc n).lits,y≠skip/\∃e∈Q,e.x= -y/\e.l=S.T.levels.length))->
  (∀a,S.Good a->Sm S.T.levels.length G Q a\/∃y∈(S.rc n).lits,y≠skip/\jD a y)->
  ∃GE xe,fX f G n skip (Q.map (·.x))=some (GE,xe)/\apJ S GE xe
 |0,_,_,_,_,_,h,_,_,_,_=>absurd h (aD _)
 |f+1,G,n,skip,Q,D,hf,h,hc,hp,hs=>by
  rw[me];have e1:eu G (n:Int) skip=meets skip (S.rc n).lits { G with S:=G.S.iV n }:=by unfold eu;rw[qai (by omega),Int.toNat_natCast,h.lits]
  have h0:LI S S.T.levels.length { G with S:=G.S.iV n } Q D:=⟨h.split,h.T,fun k=>(tW G.S n k).1.trans (h.lits k),h.gO,h.nI,h.low,h.nd,h.l0,h.pos⟩
  obtain⟨g1,g2,g3,g4⟩:=h0.meets ok skip (S.rc n).lits _ hc;rw[e1];generalize meets skip (S.rc n).lits { G with S:=G.S.iV n }=G1 at g1 g2 g3 g4;have Nn:∀(A:List St),kS S.T.levels.length G.seen A<=kS S.T.levels.length G1.seen A:=fun A=>by unfold kS;apply List.countP_mono_left;intro e _ J;simp only[ax,qam]at J⊢;exact⟨J.1,g2 _ J.2⟩
  have xH:0<kS S.T.levels.length G1.seen Q:=by
   rcases hp with hp |⟨b0,y,hy,QL,e,he,wV,Pt⟩
   ·have :=Nn Q;omega
   ·unfold kS;rw[List.countP_pos_iff];refine⟨e,he,?_⟩;simp only[ax,qam];refine⟨Pt,?_⟩;have J:=g3 y hy QL e he wV;rw[(lx ok (by rw[h.split];exact av _ (dX.2 he)) wV).1]at J;rcases J with J |J
    ·omega
    ·exact J
  have OY:∀a,S.Good a->Sm S.T.levels.length G1 Q a:=fun a ha=>by
   rcases hs a ha with J |⟨y,hy,QL,Nh⟩
   ·rcases J with⟨y,hy,Nh⟩ |⟨e,he,Pt,ab,het⟩
    ·exact .inl ⟨y,g4 y hy,Nh⟩
    ·exact .inr ⟨e,he,Pt,g2 _ ab,het⟩
   ·obtain⟨e,he,wV⟩:=hc y hy QL;have hR:e∈S.R:=by rw[h.split];exact av _ (dX.2 he)
    obtain⟨ht,ba⟩:=lx ok hR wV;have bO:=iE ok hR;have dV:e.x≠0:=Dn bO.1;have a1:¬jD a e.x:=by have :=(jD.neg (a:=a) dV).1 (by rw[<-ba];exact Nh);exact this
    rcases g3 y hy QL e he wV with J |J
    ·exact absurd (ha.2 e hR (by omega)) a1
    ·rw[ht]at J;by_cases Pt:e.l<S.T.levels.length
     ·left
      have :=g1.low e hR J Pt;rw[<-ba]at this;exact⟨y,this,Nh⟩
     ·exact .inr ⟨e,he,by omega,J,a1⟩
  --b1 last one bS pU seen
  obtain⟨em,Zz,aK,aB⟩:=NN xH;have hex:∃P e0 Q',Q=P++e0::Q'/\(∀e∈P,tv e.x∉G1.seen)/\tv e0.x∈G1.seen:=by
   clear Nn xH OY hs hp hc h0 g1 g3 g4 e1 hf h aK;induction Q with
   |nil=>cases Zz
   |cons e Q ih=>
    by_cases he:tv e.x∈G1.seen
    ·exact⟨[],e,Q,rfl,(fun _ h=>by cases h),he⟩
    ·rcases ay.1 Zz with rfl |Zz
     ·exact absurd aB he
     ·obtain⟨P,e0,Q',h1,h2,h3⟩:=ih Zz;exact⟨e::P,e0,Q',by rw[h1];rfl,fun e' fj=>by
       rcases ay.1 fj with rfl |fj
       ·exact he
       ·exact h2 e' fj,h3⟩
  obtain⟨P,e0,Q',hQ,hP,sq⟩:=hex;have aT:(Q.map (·.x)).dropWhile (fun x=>decide (tv x∉G1.seen))=e0.x::Q'.map (·.x):=by
   rw[hQ,bE,dJ];clear hQ;induction P with
   |nil=>rw[fQ,List.nil_append,List.dropWhile_cons,qah (by simpa using sq)]
   |cons e P ih=>
    rw[dJ,List.cons_append,List.dropWhile_cons,qai (by simpa using hP e bM)];exact ih (fun e' fj=>hP e' (bU _ fj))
  have ad:S.R=Q'.reverse++e0::(P.reverse++D):=by rw[h.split,hQ];simp
  have Xw:e0∈S.R:=by rw[ad];simp
  have Nj:=ok.rep.sorted;rw[ad]at Nj;have bg:∀e∈Q',e.l<=e0.l:=fun e he=>(List.pairwise_append.1 Nj).2.2 e (dX.2 he) e0 bM;have aM:e0.l=S.T.levels.length:=by
   have J:=(iE ok Xw).2.2.2;rw[hQ]at Zz;rcases ah.1 Zz with h6 |h6
   ·exact absurd aB (hP em h6)
   ·rcases ay.1 h6 with rfl |h6
    ·exact aK
    ·have :=bg em h6;omega
  have bo:kS S.T.levels.length G1.seen Q=kS S.T.levels.length G1.seen Q'+1:=by
   have bt:kS S.T.levels.length G1.seen P=0:=by unfold kS;rw[List.countP_eq_zero];intro e he;simp[hP e he]
   rw[hQ];unfold kS at *;rw[List.countP_append,bt,List.countP_cons];simp[aM,sq]
  have ar:G1.gO-1=(kS S.T.levels.length G1.seen Q':Nat):=by rw[g1.gO,bo];omega
  have Zk:∀a,S.Good a->(∃y∈G1.bH.tail,jD a y)\/(¬jD a e0.x)\/∃e∈Q',e.l=S.T.levels.length/\tv e.x∈G1.seen/\¬jD a e.x:=fun a ha=>by
   rcases OY a ha with J |⟨e,he,Pt,ab,het⟩
   ·exact .inl J
   ·rw[hQ]at he;rcases ah.1 he with h6 |h6
    ·exact absurd ab (hP e h6)
    ·rcases ay.1 h6 with rfl |h6
     ·exact .inr (.inl het)
     ·exact .inr (.inr ⟨e,h6,Pt,ab,het⟩)
  by_cases hz:kS S.T.levels.length G1.seen Q'=0
  ·refine⟨{ G1 with gO:=G1.gO-1 },e0.x,?_,⟨g1.T,g1.lits,fun y hy=>(g1.nI y hy).2,g1.nd,g1.l0,⟨e0,Xw,rfl,aM⟩,fun a ha=> ?_⟩⟩
   ·unfold eO;rw[aT];simp only;rw[qai (by rw[ar,hz];rfl)]
   ·rcases Zk a ha with J |J |⟨e,he,Pt,ab,_⟩
    ·exact .inl J
    ·exact .inr J
    ·exfalso;unfold kS at hz;rw[List.countP_eq_zero]at hz;exact hz e he (by simp[Pt,ab])
  ·obtain⟨eb,bB,bT,_⟩:=NN (Nat.pos_of_ne_zero hz);have nN:e0.r≠0:=fun J=>by
    rcases hd _ _ _ ad J with h6 |h6
    ·have :=g1.pos e0 Xw sq;omega
    ·have :=h6 eb (dX.2 bB);omega
   obtain⟨n',bI,ls,oP,bG⟩:=hr _ _ _ ad nN;have bj:=(mB ok Xw).2;have bb:∀y∈(S.rc n').lits,y≠e0.x->∃e∈Q',e.x= -y:=fun y hy dV=>by
    rw[oP]at hy;rcases ay.1 hy with rfl |hy
    ·exact absurd rfl dV
    ·obtain⟨e',fj,J⟩:=bG y hy;exact⟨e',dX.1 fj,J⟩
   have g5:LI S S.T.levels.length { G1 with gO:=G1.gO-1 } Q' (e0::(P.reverse++D)):=⟨ad,g1.T,g1.lits,ar,g1.nI,g1.low,g1.nd,g1.l0,g1.pos⟩
   obtain⟨GE,xe,k1,k2⟩:=wK ok hr hd f { G1 with gO:=G1.gO-1 } n' e0.x Q' (e0::(P.reverse++D)) (by rw[hQ]at hf;simp at hf;omega) g5 bb (.inl (Nat.pos_of_ne_zero hz)) (fun a ha=>by
    rcases Zk a ha with J |J |J
    ·exact .inl (.inl J)
    ·right
     obtain⟨y,hy,Nh⟩:=ha.1 n' (by rw[oP];simp);exact⟨y,hy,fun e9=>J (e9▸Nh),Nh⟩
    ·exact .inl (.inr J))
   refine⟨GE,xe,?_,k2⟩;unfold eO;rw[aT];simp only;rw[qah (by rw[ar];omega),g1.T,bj,bI,show(n':Int)+1-1=(n':Int)from by omega];exact k1
end Sv
theorem rV{l:List Int}{i:Nat}(h:i<l.length):l[i]! =l[i]:=by simp only[aa,af h,aJ]
theorem iI{l:List Int}{i j:Nat}(hi:i<l.length)(J:j<l.length):(dK l i j).Perm l:=by unfold dK;rw[rV hi,rV J];exact List.set_set_perm hi J
theorem ql{T:Tr}:∀(f k:Nat)(l:List Int)(db:Int),l.length<=f+k->1<=k->(0<db->T.dF (tv l[1]!)=db)->(∀j,1<=j->j<k->j<l.length->T.dF (tv l[j]!)<=db)->
  (Sv.second T f k l db).1.Perm l/\(Sv.second T f k l db).1[0]! =l[0]! /\(0<(Sv.second T f k l db).2->T.dF (tv (Sv.second T f k l db).1[1]!)=(Sv.second T f k l db).2)/\(∀j,1<=j->j<l.length->T.dF (tv (Sv.second T f k l db).1[j]!)<=(Sv.second T f k l db).2)
 |0,k,l,db,hf,hk,h1,h2=>⟨dM _,rfl,h1,fun j hj hl=>h2 j hj (by omega) hl⟩
 |f+1,k,l,db,hf,hk,h1,h2=>by
  rw[Sv.second];by_cases pR:k<l.length
  ·rw[qai pR];by_cases hv:db<T.dF (tv l[k]!)
   ·rw[qai hv];have hg:=fun j (hj:j<l.length)=>n9 (l:=l) (i:=1) (j:=k) (k:=j) (by omega) pR hj;have ih:=ql (T:=T) f (k+1) (dK l 1 k) (T.dF (tv l[k]!)) (by rw[gH];omega) (by omega) (fun _=>by
     rw[hg 1 (by omega)];split
     ·rename_i e;rw[<-e]
     ·rw[qai rfl]) (fun j hj Te J=>by
     rw[gH]at J;rw[hg j J];split
     ·by_cases e1:1=k
      ·rw[e1];exact gE _
      ·have :=h2 1 (by omega) (by omega) (by omega);omega
     ·split
      ·exact gE _
      ·have :=h2 j hj (by omega) J;omega)
    rw[gH]at ih;refine⟨ih.1.trans (iI (by omega) pR),?_,ih.2.2.1,ih.2.2.2⟩;rw[ih.2.1,hg 0 (by omega),qah (by omega),qah (by omega)]
   ·rw[qah hv];exact ql f (k+1) l db (by omega) (by omega) h1 (fun j hj Te J=>by
     by_cases e:j=k
     ·rw[e];omega
     ·exact h2 j hj (by omega) J)
  ·rw[qah pR];exact⟨dM _,rfl,h1,fun j hj hl=>h2 j hj (by omega) hl⟩
namespace Sv
def lp(S:Sv):Tr×Nat×List (List Nat)×List Bool×List Bool×List Int×Nat×Nat×Nat×Int×Nat×Bool×Bool×List (List Int×Bool):=
 (S.T,S.vars,S.watch,S.phase,S.model,S.core,S.head,S.used,S.bump,S.many,S.cv,S.bad,S.has,S.list.map fun c=>(c.lits,c.nI))
theorem JJ(S:Sv)(n:Nat):(S.iV n).lp=S.lp:=by
 unfold lp iV;simp only[List.map_set];congr 14;by_cases h:n<S.list.length
 ·have :(S.list.map fun c=>(c.lits,c.nI))[n]? =some ((S.rc n).lits,(S.rc n).nI):=by rw[aZ,af h];simp only[dA,rc,aa,af h,aJ]
  exact mp this
 ·rw[List.set_eq_of_length_le (by simp;omega)]
theorem Ot(G:Gr)(l:Int):(meet G l).S.lp=G.S.lp:=by
 by_cases h:tv l∈G.seen\/G.S.T.dF (tv l)<=0
 ·rw[kN h]
 ·by_cases J:G.S.T.dF (tv l)=G.S.T.levels.length
  ·rw[iM h J];rfl
  ·rw[jX h J];rfl
theorem sG(skip:Int):∀(ls:List Int)(G:Gr),(meets skip ls G).S.lp=G.S.lp
 |[],G=>rfl
 |l::r,G=>by
  rw[meets];split
  ·rw[sG skip r,Ot]
  ·exact sG skip r G
theorem wh:∀(f:Nat)(G:Gr)(n skip:Int)(rest:List Int)(GE:Gr)(xe:Int),fX f G n skip rest=some (GE,xe)->GE.S.lp=G.S.lp
 |0,G,n,skip,rest,GE,xe,h=>by rw[kX]at h;cases h
 |f+1,G,n,skip,rest,GE,xe,h=>by
  rw[me]at h;have hk:(eu G n skip).S.lp=G.S.lp:=by
   unfold eu;split
   ·rw[sG];exact JJ G.S n.toNat
   ·rfl
  generalize eu G n skip=G1 at h hk;unfold eO at h;cases J:rest.dropWhile (fun x=>decide (tv x∉G1.seen))with
  |nil=>rw[J]at h;cases h
  |cons x r=>
   rw[J]at h;simp only at h;split at h
   ·simp only[Option.some.injEq,Prod.mk.injEq]at h;obtain⟨rfl,rfl⟩:=h;exact hk
   ·exact(wh f _ _ _ _ GE xe h).trans hk
theorem oY{S S':Sv}(h:S'.lp=S.lp)(n:Nat):(S'.rc n).lits=(S.rc n).lits/\(S'.rc n).nI=(S.rc n).nI:=by
 have hl:S'.list.map (fun c=>(c.lits,c.nI))=S.list.map fun c=>(c.lits,c.nI):=by have :=aaa (fun x=>x.2.2.2.2.2.2.2.2.2.2.2.2.2) h;exact this
 have e:∀S:Sv,((S.rc n).lits,(S.rc n).nI)=((S.list.map fun c=>(c.lits,c.nI))[n]?).getD ([],false):=fun S=>by
  rw[aZ];unfold rc;rw[aa];cases h:S.list[n]? with
  |none=>rfl
  |some c=>rfl
 have h1:=e S;rw[<-hl,<-e S']at h1;exact⟨(aaa Prod.fst h1).symm,(aaa Prod.snd h1).symm⟩
structure Lrd(S:Sv)(l:List Int)(db:Int):Prop where
 l0:0<l.length
 top:∃e∈S.R,l[0]! = -e.x/\e.l=S.T.levels.length
 tail:∀k,1<=k->k<l.length->∃e∈S.R,e.x= -l[k]! /\1<=e.l/\e.l<=db
 lt:0<=db/\db<S.T.levels.length
 one:l.length=1->db=0
 two:2<=l.length->∃e∈S.R,e.x= -l[1]! /\e.l=db
 nd:(l.map tv).Nodup
 sem:∀a,S.Good a->eX a l
theorem lO{S:Sv}{m:Nat}(ok:S.Ok m)(hr:S.Rsn)(hd:S.Dec){n:Nat}(hc:S.Of n)(Py:0<S.T.levels.length)(hn:((S.rc n).lits)≠[]):
  ∃S1 l db,S.iN n=some (S1,l,db)/\S1.lp=S.lp/\S.Lrd l db:=by
 have SK:S.T.lits.reverse=S.R.reverse.map (·.x):=by rw[ok.rep.lits,List.map_reverse]
 obtain⟨tq,yc,WC,ec,bj,bb,bg⟩:=hc;have ad:∀y∈(S.rc n).lits,y≠0:=fun y hy=>(ok.lr n y hy).1;obtain⟨GE,xe,h1,h2⟩:=wK ok hr hd (S.T.lits.length+1) ⟨S,[],0,[0]⟩ n 0 S.R.reverse [] (by rw[List.length_reverse,ko];omega)
  ⟨by simp,rfl,fun _=>rfl,by simp[kS],fun y hy=>by simp at hy,fun e _ he=>by simp at he,by simp,by simp,fun e _ he=>by simp at he⟩
  (fun y hy _=>by obtain⟨e,he,J⟩:=tq y hy;exact⟨e,dX.2 he,J⟩)
  (.inr ⟨Py,yc,WC,ad yc WC,ec,dX.2 bj,bb,bg⟩)
  (fun a ha=> .inr (by obtain⟨y,hy,Nh⟩:=ha.1 n hn;exact⟨y,hy,ad y hy,Nh⟩))
 rw[<-SK]at h1;have hk:=wh _ _ _ _ _ GE xe h1;obtain⟨et,het,Bk,Tm⟩:=h2.top;have ab:=iE ok het;have lP:=ok.vl;cases hg:GE.bH with
 |nil=>have :=h2.l0;rw[hg]at this;simp at this
 |cons z0 tl=>
  have SZ:=h2.nI;have Fm:=h2.nd;have OY:=h2.sem;rw[hg]at SZ Fm OY;simp only[List.tail_cons]at SZ Fm OY;have aT:GE.bH.set 0 (-xe)= -xe::tl:=by rw[hg];rfl
  have S8:∀y∈tl,1<=S.T.dF (tv y)/\S.T.dF (tv y)<S.T.levels.length:=fun y hy=>by obtain⟨e,he,J,h6,h7⟩:=SZ y hy;rw[(lx ok he J).1,(mB ok he).1];exact⟨h6,h7⟩
  have aM:=ql (T:=GE.S.T) (-xe::tl).length 1 (-xe::tl) 0 (by omega) (aq 1) (fun h=>by omega) (fun j hj Te _=>by omega);obtain⟨lr,Cs⟩:∃lr,Sv.second GE.S.T (-xe::tl).length 1 (-xe::tl) 0=lr:=⟨_,rfl⟩
  rw[Cs,h2.T]at aM;obtain⟨hp,GW,aB,aK⟩:=aM;have oD:=mq (T:=GE.S.T) (D:=S.T.levels.length) (fun v=>by rw[h2.T];exact(J3 ok v).2) (-xe::tl).length 1 (-xe::tl) 0;rw[Cs]at oD;have hlen:=hp.length_eq;have mO:∀k,1<=k->k<lr.1.length->lr.1[k]! ∈tl:=fun k hk pR=>by
   have ba:((-xe::tl).map tv).Nodup:=by rw[dJ,kg];refine⟨fun hm=> ?_,Fm⟩;rw[aN]at hm;obtain⟨y,hy,J⟩:=hm;have h6:=S8 y hy;rw[J,<-Bk,Do et.x ab.1 (by omega),(mB ok het).1,Tm]at h6;omega
   have a1:(lr.1.map tv).Nodup:=(hp.map tv).nodup_iff.2 ba;have hm:lr.1[k]! ∈ -xe::tl:=hp.mem_iff.1 (bk pR);rcases ay.1 hm with J |J
   ·exfalso;have h6:lr.1[0]! = -xe:=GW;have h7:(lr.1.map tv)[0]'(by simp;omega)=(lr.1.map tv)[k]'(by simpa using pR):=by rw[List.getElem_map,List.getElem_map,<-rV pR,<-rV (by omega:0<lr.1.length),J,h6]
    exact(List.pairwise_iff_getElem.1 a1) 0 k _ _ (by omega) h7
   ·exact J
  refine⟨GE.S,lr.1,lr.2,?_,hk,?_⟩
  ·unfold iN;rw[h1];simp only;rw[aT,Cs]
  ·refine⟨by rw[hlen];simp,⟨et,het,by rw[GW,Bk];rfl,Tm⟩,fun k hk pR=> ?_,⟨oD.1,?_⟩,fun J=> ?_,fun J=> ?_,?_,fun a ha=> ?_⟩
   ·obtain⟨e,he,J,h6,h7⟩:=SZ _ (mO k hk pR);refine⟨e,he,J,h6,?_⟩;have h8:=aK k hk (by omega);rw[(lx ok he J).1,(mB ok he).1]at h8;exact h8
   ·by_cases h0:lr.2=0
    ·omega
    ·have h6:=aB (by omega);by_cases h7:1<lr.1.length
     ·have h8:=S8 _ (mO 1 (aq 1) h7);omega
     ·exfalso
      --with one literal alone bo level is 0
      have h9:tl=[]:=by
       have :lr.1.length=tl.length+1:=by rw[hlen];rfl
       exact aX (by omega)
      rw[h9]at Cs;have :Sv.second GE.S.T [-xe].length 1 [-xe] 0=([-xe],0):=qk (by simp);rw[this]at Cs;exact h0 (by rw[<-Cs])
   ·have h9:tl=[]:=by
     have :lr.1.length=tl.length+1:=by rw[hlen];rfl
     exact aX (by omega)
    rw[h9]at Cs;have :Sv.second GE.S.T [-xe].length 1 [-xe] 0=([-xe],0):=qk (by simp);rw[this]at Cs;rw[<-Cs]
   ·obtain⟨e,he,h6,h7,h8⟩:=SZ _ (mO 1 (aq 1) (by omega));refine⟨e,he,h6,?_⟩;have h9:=aK 1 (aq 1) (by omega);rw[(lx ok he h6).1,(mB ok he).1]at h9;have ar:=aB (by omega);rw[(lx ok he h6).1,(mB ok he).1]at ar;exact ar
   ·rw[(hp.map tv).nodup_iff,dJ,kg];refine⟨fun hm=> ?_,Fm⟩;rw[aN]at hm;obtain⟨y,hy,J⟩:=hm;have h6:=S8 y hy;rw[J,<-Bk,Do et.x ab.1 (by omega),(mB ok het).1,Tm]at h6;omega
   ·rcases OY a ha with⟨y,hy,Nh⟩ |J
    ·exact⟨y,hp.mem_iff.2 (bU _ hy),Nh⟩
    ·refine⟨-xe,hp.mem_iff.2 bM,?_⟩;rw[<-Bk]at J⊢;exact(jD.neg (Dn ab.1)).2 J
end Sv
theorem kz{x y:Int}(h:aW x=aW y):x=y:=by unfold aW at h;split at h<;>split at h<;>omega
theorem oX{α:Type}{A B R:List α}{e e1:α}(h:A++e::B=R++[e1]):(B=[]/\A=R/\e=e1)\/∃J,B=J++[e1]/\R=A++e::J:=by
 rcases List.eq_nil_or_concat B with rfl |⟨J,b,rfl⟩
 ·left
  have :=List.append_inj' h rfl;exact⟨rfl,this.1,by simpa using this.2⟩
 ·right
  rw[List.concat_eq_append,<-List.cons_append,<-dB]at h;have :=List.append_inj' h rfl;refine⟨J,?_,this.1.symm⟩;rw[List.concat_eq_append,show b=e1 by simpa using this.2]
theorem yt{l:List Int}(hn:(l.map tv).Nodup){i j:Nat}(hi:i<l.length)(J:j<l.length)(Nq:i≠j):tv l[i]! ≠tv l[j]! :=by
 have hp:=List.pairwise_iff_getElem.1 hn;rw[rV hi,rV J];rcases Nat.lt_or_gt_of_ne Nq with h |h
 ·have :=hp i j (by simpa using hi) (by simpa using J) h;simpa using this
 ·have :=hp j i (by simpa using J) (by simpa using hi) h;intro e;exact this (by simpa using e.symm)
namespace Sv
def W(S:Sv)(off:Int)(L:List Nat)(c:Nat):List Nat:=if c=aW off then L else S.gG c
structure WI(S:Sv)(V:Nat->List Nat):Prop where
 nd:∀c,(V c).Nodup
 wd:∀c n,n∈V c->(S.rc n).lits≠[]->aW (S.rc n).lits[0]! =c\/aW (S.rc n).lits[1]! =c
 wc:∀n,(S.rc n).lits≠[]->n∈V (aW (S.rc n).lits[0]!)/\n∈V (aW (S.rc n).lits[1]!)
def WT1(S:Sv)(D:List St)(n:Nat):Prop:=(S.rc n).lits≠[]->∀e∈D,
 (e.x= -(S.rc n).lits[0]! ->∃J∈S.R,J.x=(S.rc n).lits[1]! /\J.l<=e.l)/\(e.x= -(S.rc n).lits[1]! ->∃J∈S.R,J.x=(S.rc n).lits[0]! /\J.l<=e.l)
structure Inv(S:Sv):Prop where
 ok:S.Ok 0
 lT:∀n,((S.rc n).lits.map tv).Nodup
 wu:S.Rsn
 dec:S.Dec
 hd:S.Hd
 wi:S.WI S.gG
 wt:∀n,S.WT1 (S.R.take S.head) n
structure VI(S:Sv)(e0:St)(todo keep:List Nat):Prop where
 ok:S.Ok (keep.length+todo.length)
 lT:∀n,((S.rc n).lits.map tv).Nodup
 wu:S.Rsn
 dec:S.Dec
 hd:S.Hd
 at_:S.R[S.head]? =some e0
 OB:S.gG (aW (-e0.x))=[]
 wi:S.WI (S.W (-e0.x) (keep++todo))
 wt:∀n,S.WT1 (S.R.take S.head) n
 wk:∀n∈keep,S.WT1 [e0] n
theorem Ap(S:Sv)(off:Int)(L:List Nat):S.W off L (aW off)=L:=qai rfl
theorem xl(S:Sv){off:Int}(L:List Nat){c:Nat}(h:c≠aW off):S.W off L c=S.gG c:=qah h
theorem qae{S:Sv}{m:Nat}(ok:S.Ok m){n:Nat}(h:(S.rc n).lits≠[]):2<=(S.rc n).lits.length:=by have h1:=ok.ln n;have J:(S.rc n).lits.length≠0:=fun e=>h (aX e);omega
theorem ru{S:Sv}{n:Nat}(h:(S.rc n).lits≠[]):n<S.list.length:=by
 by_cases J:n<S.list.length
 ·exact J
 ·rw[o6 (by omega)]at h;exact absurd rfl h
theorem VI.at(S:Sv){e0:St}{todo keep:List Nat}(h:S.VI e0 todo keep):e0∈S.R/\S.head<S.R.length/\e0.l=S.T.levels.length:=by have h1:=h.at_;obtain⟨J,h3⟩:=mX.1 h1;refine⟨List.mem_of_getElem? h1,J,h.hd e0 ?_⟩;rw[List.drop_eq_getElem_cons J,h3];exact bM
theorem qy{S:Sv}{m:Nat}(ok:S.Ok m){e J:St}(h:e∈S.R)(h':J∈S.R)(hx:e.x= -J.x):False:=by
 obtain⟨h1,h2⟩:=lx ok h (y:= -e.x) (by omega);have h3:J.x= -e.x:=by omega
 rw[<-h3]at h1;have :=pD ok h h' h1.symm;subst this;have h4:e.x=0:=by omega
 have h5:=iE ok h;rw[h4]at h5;have :tv 0=0:=by rfl
 omega
theorem VI.dead{S:Sv}{e0:St}{n:Nat}{r keep:List Nat}(h:S.VI e0 (n::r) keep)(hn:(S.rc n).lits=[]):S.VI e0 r keep:=by
 have hs:(keep++r).Sublist (keep++n::r):=List.Sublist.append_left (List.sublist_cons_self n r) keep;refine⟨h.ok.less (by simp only[b8];omega),h.lT,h.wu,h.dec,h.hd,h.at_,h.OB,⟨fun c=> ?_,fun c j J hl=> ?_,fun j hl=> ?_⟩,h.wt,h.wk⟩
 ·by_cases hc:c=aW (-e0.x)
  ·have :=h.wi.nd c;subst hc;rw[Ap]at this⊢;exact this.sublist hs
  ·have :=h.wi.nd c;rw[xl _ _ hc]at this⊢;exact this
 ·refine h.wi.wd c j ?_ hl;by_cases hc:c=aW (-e0.x)
  ·subst hc;rw[Ap]at J⊢;exact hs.subset J
  ·rw[xl _ _ hc]at J⊢;exact J
 ·have QS:j≠n:=fun e=>hl (by rw[e];exact hn);have hq:=h.wi.wc j hl;have hm:∀c,j∈S.W (-e0.x) (keep++n::r) c->j∈S.W (-e0.x) (keep++r) c:=fun c J=>by
   by_cases hc:c=aW (-e0.x)
   ·subst hc;rw[Ap]at J⊢;rcases ah.1 J with h1 |h1
    ·exact av _ h1
    ·rcases ay.1 h1 with h1 |h1
     ·exact absurd h1 QS
     ·exact bP _ h1
   ·rw[xl _ _ hc]at J⊢;exact J
  exact⟨hm _ hq.1,hm _ hq.2⟩
theorem VI.cY{S:Sv}{e0:St}{n:Nat}{r keep:List Nat}(h:S.VI e0 (n::r) keep)(hn:(S.rc n).lits≠[]):
  (S.cY n (-e0.x)).VI e0 (n::r) keep/\((S.cY n (-e0.x)).rc n).lits[1]! = -e0.x/\((S.cY n (-e0.x)).rc n).lits≠[]/\((S.cY n (-e0.x)).rc n).lits.Perm (S.rc n).lits:=by
 have h2:=qae h.ok hn;have rz:=ru hn;obtain⟨sq,K2,oD⟩:=h.at;have hw:=h.wi.wd (aW (-e0.x)) n (by rw[Ap];simp) hn;have J:=Ok.cY h.ok n (-e0.x);unfold Sv.cY at J⊢;by_cases h0:(S.rc n).lits[0]! = -e0.x
 ·rw[qai h0]at J⊢;have hp:=iI (l:=(S.rc n).lits) (i:=0) (j:=1) (by omega) (by omega);have fJ:∀j,(S.fg n (dK (S.rc n).lits 0 1)).rc j=if n=j then{ S.rc n with lits:=dK (S.rc n).lits 0 1 }else S.rc j:=fun j=>by
   rw[nc];by_cases e:n=j
   ·rw[qai ⟨e,rz⟩,qai e]
   ·rw[qah (fun h=>e h.1),qah e]
  have Bf:((S.fg n (dK (S.rc n).lits 0 1)).rc n).lits=dK (S.rc n).lits 0 1:=by rw[fJ,qai rfl]
  have AF:∀j,j≠n->(S.fg n (dK (S.rc n).lits 0 1)).rc j=S.rc j:=fun j hj=>by rw[fJ,qah (fun e=>hj e.symm)]
  have g0:(dK (S.rc n).lits 0 1)[0]! =(S.rc n).lits[1]! :=by rw[n9 (by omega) (by omega) (by omega),qah (by omega),qai rfl]
  have g1:(dK (S.rc n).lits 0 1)[1]! =(S.rc n).lits[0]! :=by rw[n9 (by omega) (by omega) (by omega),qai rfl]
  have dV:dK (S.rc n).lits 0 1≠[]:=fun e=>by have :=gH (S.rc n).lits 0 1;rw[e]at this;simp at this;omega
  have Vj:n∉keep:=fun hk=>by have :=h.wi.nd (aW (-e0.x));rw[Ap,List.nodup_append]at this;exact this.2.2 n hk n bM rfl
  refine⟨⟨J,fun j=> ?_,?_,h.dec,h.hd,h.at_,h.OB,⟨h.wi.nd,fun c j hj hl=> ?_,fun j hl=> ?_⟩,fun j=> ?_,fun j hj=> ?_⟩,by rw[Bf,g1,h0],by rw[Bf];exact dV,by rw[Bf];exact hp⟩
  ·by_cases e:j=n
   ·rw[e,Bf];exact(hp.map tv).nodup_iff.2 (h.lT n)
   ·rw[AF j e];exact h.lT j
  ·intro A e B hR hr;obtain⟨k,hk,ls,oP,gZ⟩:=h.wu A e B hR hr;have iS:k≠n:=fun ek=>by rw[ek]at oP;rw[oP]at h0;have h0:e.x= -e0.x:=h0;exact qy h.ok (by rw[show S.R=A++e::B from hR];simp) sq h0
   exact⟨k,hk,ls,by rw[AF k iS];exact oP,gZ⟩
  ·by_cases e:j=n
   ·subst e;rw[Bf,g0,g1];exact(h.wi.wd c j hj hn).symm
   ·rw[AF j e]at hl⊢;exact h.wi.wd c j hj hl
  ·by_cases e:j=n
   ·subst e;rw[Bf,g0,g1];exact(h.wi.wc j hn).symm
   ·rw[AF j e]at hl⊢;exact h.wi.wc j hl
  ·intro hl e he;by_cases ej:j=n
   ·subst ej;rw[Bf,g0,g1];exact(h.wt j hn e he).symm
   ·rw[AF j ej]at hl⊢;exact h.wt j hl e he
  ·have ej:j≠n:=fun e=>Vj (e▸hj);intro hl e he;rw[AF j ej]at hl⊢;exact h.wk j hj hl e he
 ·rw[qah h0]at J⊢;refine⟨h,?_,hn,dM _⟩;rcases hw with hw |hw
  ·exact absurd (kz hw) h0
  ·exact kz hw
theorem VI.stay{S:Sv}{e0:St}{n:Nat}{r keep:List Nat}(h:S.VI e0 (n::r) keep)(hn:(S.rc n).lits≠[])(h1:(S.rc n).lits[1]! = -e0.x)(hv:0<S.val (S.rc n).lits[0]!):S.VI e0 r (keep++[n]):=by
 have ha:(keep++[n])++r=keep++n::r:=by simp
 refine⟨h.ok.less (by simp;omega),h.lT,h.wu,h.dec,h.hd,h.at_,h.OB,by rw[ha];exact h.wi,h.wt,fun j J=> ?_⟩;rcases ah.1 J with J |J
 ·exact h.wk j J
 ·rw[ag.1 J];intro hl e he;rw[ag.1 he];obtain⟨sq,K2,oD⟩:=h.at;obtain⟨e',fj,ab⟩:=(gR h.ok _).1 hv;refine⟨fun hx=> ?_,fun hx=>⟨e',fj,ab,?_⟩⟩
  ·exact(qy h.ok sq fj (by rw[hx,ab])).elim
  ·have :=(iE h.ok fj).2.2.2;omega
theorem VI.Ce{S:Sv}{e0:St}{n:Nat}{r keep:List Nat}(h:S.VI e0 (n::r) keep)(hn:(S.rc n).lits≠[])(h1:(S.rc n).lits[1]! = -e0.x)(hv:¬0<S.val (S.rc n).lits[0]!)(hm:(S.dO n).2=true):(S.dO n).1.VI e0 r keep:=by
 have h2:=qae h.ok hn;have rz:=ru hn;obtain⟨sq,K2,oD⟩:=h.at;have ab:=Ok.Ce (h.ok.less (m':=keep.length+r.length+1) (by simp;omega)) rz hm;have wW:=sL S n;unfold Sv.dO at ab hm wW⊢;cases hk:S.iu (S.rc n).lits (S.rc n).lits.length 2 with
 |none=>rw[hk]at hm;cases hm
 |some k=>
  rw[hk]at ab wW;obtain⟨k1,k2,k3⟩:=ux _ _ _ hk;simp only[Sv.rm]at ab wW⊢;obtain⟨x,hx⟩:∃x,(S.rc n).lits[k]! =x:=⟨_,rfl⟩
  rw[hx]at ab wW k3⊢;have ar:x≠ -e0.x:=fun e=>by have :=yt (h.lT n) k2 (by omega:1<_) (by omega);rw[hx,h1,e]at this;exact this rfl
  have XA:aW x≠aW (-e0.x):=fun e=>ar (kz e);have GP:(S.rc n).lits[0]! ≠x:=fun e=>by have :=yt (h.lT n) (by omega:0<_) k2 (by omega);rw[hx,e]at this;exact this rfl
  have aB:(S.rc n).lits[0]! ≠ -e0.x:=fun e=>by have :=yt (h.lT n) (by omega:0<_) (by omega:1<_) (by omega);rw[h1,e]at this;exact this rfl
  have hp:=iI (l:=(S.rc n).lits) (i:=1) (j:=k) (by omega) k2;have g0:(dK (S.rc n).lits 1 k)[0]! =(S.rc n).lits[0]! :=by rw[n9 (by omega) k2 (by omega),qah (by omega),qah (by omega)]
  have g1:(dK (S.rc n).lits 1 k)[1]! =x:=by rw[n9 (by omega) k2 (by omega),qah (by omega),qai rfl,hx]
  have dV:dK (S.rc n).lits 1 k≠[]:=fun e=>by have :=gH (S.rc n).lits 1 k;rw[e]at this;simp at this;omega
  obtain⟨S',Hv⟩:∃S',(S.fg n (dK (S.rc n).lits 1 k)).i9 (aW x) n=S':=⟨_,rfl⟩
  have fJ:∀j,S'.rc j=if n=j then{ S.rc n with lits:=dK (S.rc n).lits 1 k }else S.rc j:=fun j=>by
   rw[<-Hv];show(S.fg n (dK (S.rc n).lits 1 k)).rc j=_;rw[nc];by_cases e:n=j
   ·rw[qai ⟨e,rz⟩,qai e]
   ·rw[qah (fun h=>e h.1),qah e]
  have Bf:(S'.rc n).lits=dK (S.rc n).lits 1 k:=by rw[fJ,qai rfl]
  have AF:∀j,j≠n->S'.rc j=S.rc j:=fun j hj=>by rw[fJ,qah (fun e=>hj e.symm)]
  have oR:aW x<S.watch.length:=by have :=h.ok.lit k2;rw[hx]at this;rw[h.ok.wl];exact iR this.2.1 this.2.2
  have zr:∀c,S'.gG c=if c=aW x then S.gG c++[n]else S.gG c:=fun c=>by
   rw[<-Hv];unfold gG i9 cJ fg;rw[eQ];by_cases e:aW x=c
   ·rw[qai ⟨e,oR⟩,qai e.symm,<-e];rfl
   ·rw[qah (fun h=>e h.1),qah (fun h=>e h.symm)]
  have Cz:S'.R=S.R:=ew (by rw[<-Hv];rfl);have ad:S'.head=S.head:=by rw[<-Hv];rfl
  have aK:S'.T=S.T:=by rw[<-Hv];rfl
  rw[Hv]at ab⊢;have Fm:=h.wi.nd (aW (-e0.x));rw[Ap,List.nodup_append]at Fm;have Vj:n∉keep:=fun hk=>Fm.2.2 n hk n bM rfl;have aT:n∉r:=(kg.1 Fm.2.1).1;have hs:(keep++r).Sublist (keep++n::r):=List.Sublist.append_left (List.sublist_cons_self n r) keep;have AG:n∉S.gG (aW x):=fun hm=>by
   have :=h.wi.wd (aW x) n (by rw[xl _ _ XA];exact hm) hn;rcases this with e |e
   ·exact GP (kz e)
   ·rw[h1]at e;exact ar (kz e).symm
  refine⟨ab,fun j=> ?_,?_,?_,?_,by rw[Cz,ad];exact h.at_,?_,⟨fun c=> ?_,fun c j hj hl=> ?_,fun j hl=> ?_⟩,fun j=> ?_,fun j hj=> ?_⟩
  ·by_cases e:j=n
   ·rw[e,Bf];exact(hp.map tv).nodup_iff.2 (h.lT n)
   ·rw[AF j e];exact h.lT j
  ·intro A e B hR hr;rw[Cz]at hR;obtain⟨i,hi,ls,oP,gZ⟩:=h.wu A e B hR hr;have mO:i≠n:=fun ei=>by rw[ei]at oP;rw[oP]at hv;exact hv ((gR h.ok _).2 ⟨e,by rw[hR];simp,rfl⟩)
   exact⟨i,hi,ls,by rw[AF i mO];exact oP,gZ⟩
  ·intro A e B hR hr;rw[Cz]at hR;exact h.dec A e B hR hr
  ·intro e he;rw[Cz,ad]at he;rw[aK];exact h.hd e he
  ·rw[zr,qah (fun e=>XA e.symm)];exact h.OB
  ·by_cases hc:c=aW (-e0.x)
   ·have :=h.wi.nd c;subst hc;rw[Ap]at this⊢;exact this.sublist hs
   ·have :=h.wi.nd c;rw[xl _ _ hc]at this⊢;rw[zr];split
    ·rename_i ec;rw[List.nodup_append];refine⟨this,by simp,fun a ha b hb=> ?_⟩;rw[ag.1 hb];intro e;rw[e,ec]at ha;exact AG ha
    ·exact this
  ·have hold:j∈S.W (-e0.x) (keep++n::r) c\/(j=n/\c=aW x):=by
    by_cases hc:c=aW (-e0.x)
    ·subst hc;rw[Ap]at hj⊢;exact .inl (hs.subset hj)
    ·rw[xl _ _ hc]at hj⊢;rw[zr]at hj;split at hj
     ·rename_i ec;rcases ah.1 hj with J |J
      ·exact .inl J
      ·exact .inr ⟨ag.1 J,ec⟩
     ·exact .inl hj
   by_cases e:j=n
   ·subst e;rw[Bf,g0,g1];by_cases hc:c=aW (-e0.x)
    ·subst hc;rw[Ap]at hj;rcases ah.1 hj with J |J
     ·exact absurd J Vj
     ·exact absurd J aT
    ·rcases hold with J |J
     ·rcases h.wi.wd c j J hn with h4 |h4
      ·exact .inl h4
      ·rw[h1]at h4;exact absurd h4.symm hc
     ·exact .inr J.2.symm
   ·rw[AF j e]at hl⊢;rcases hold with J |J
    ·exact h.wi.wd c j J hl
    ·exact absurd J.1 e
  ·have Eo:∀c,j≠n\/c≠aW (-e0.x)->j∈S.W (-e0.x) (keep++n::r) c->j∈S'.W (-e0.x) (keep++r) c:=fun c a1 hj=>by
    by_cases hc:c=aW (-e0.x)
    ·have QS:j≠n:=by
      rcases a1 with J |J
      ·exact J
      ·exact absurd hc J
     subst hc;rw[Ap]at hj⊢;rcases ah.1 hj with J |J
     ·exact av _ J
     ·rcases ay.1 J with J |J
      ·exact absurd J QS
      ·exact bP _ J
    ·rw[xl _ _ hc]at hj⊢;rw[zr];split
     ·exact av _ hj
     ·exact hj
   by_cases e:j=n
   ·subst e;rw[Bf,g0,g1];refine⟨Eo _ (.inr fun e=>aB (kz e)) (h.wi.wc j hn).1,?_⟩;rw[xl _ _ XA,zr,qai rfl];simp
   ·rw[AF j e]at hl⊢;have :=h.wi.wc j hl;exact⟨Eo _ (.inl e) this.1,Eo _ (.inl e) this.2⟩
  ·intro hl e he;rw[Cz,ad]at he;rw[Cz];have aM:e∈S.R:=List.mem_of_mem_take he;by_cases ej:j=n
   ·subst ej;rw[Bf,g0,g1];refine⟨fun J=> ?_,fun J=> ?_⟩
    ·obtain⟨e',fj,h4,h5⟩:=(h.wt j hn e he).1 J;rw[h1]at h4;exact(qy h.ok fj sq h4).elim
    ·have :S.val x<0:=(val_neg h.ok).2 ⟨e,aM,J⟩;omega
   ·rw[AF j ej]at hl⊢;exact h.wt j hl e he
  ·have ej:j≠n:=fun e=>Vj (e▸hj);intro hl e he;rw[AF j ej]at hl⊢;rw[Cz];exact h.wk j hj hl e he
theorem zN{S:Sv}{l:List Int}:∀(f k:Nat),l.length<=f+k->S.iu l f k=none->∀j,k<=j->j<l.length->S.val l[j]! <0
 |0,k,hf,h,j,h1,J=>by omega
 |f+1,k,hf,h,j,h1,J=>by
  simp only[iu]at h;rw[qai (by omega)]at h;split at h
  ·cases h
  ·by_cases e:j=k
   ·rw[e];omega
   ·exact zN f (k+1) (by omega) h j (by omega) J
theorem VI.TW{S:Sv}{e0:St}{n:Nat}{r keep:List Nat}(h:S.VI e0 (n::r) keep)(hn:(S.rc n).lits≠[])(h1:(S.rc n).lits[1]! = -e0.x)(hm:¬(S.dO n).2=true):
  ∃ls,(S.rc n).lits=(S.rc n).lits[0]! ::ls/\(-e0.x)∈ls/\∀y∈ls,∃e∈S.R,e.x= -y:=by
 have h2:=qae h.ok hn;obtain⟨sq,K2,oD⟩:=h.at;have hk:S.iu (S.rc n).lits (S.rc n).lits.length 2=none:=by
  unfold Sv.dO at hm;cases hk:S.iu (S.rc n).lits (S.rc n).lits.length 2 with
  |none=>rfl
  |some k=>rw[hk]at hm;exact absurd rfl hm
 have hf:=zN _ _ (by omega) hk;generalize (S.rc n).lits=l at *
 match l,h2 with
 |x::y::ls,_=>
  have h1:y= -e0.x:=h1;refine⟨y::ls,rfl,by rw[h1];exact bM,fun z J=> ?_⟩;rcases ay.1 J with rfl |J
  ·exact⟨e0,sq,by omega⟩
  ·obtain⟨i,hi,hg⟩:=List.getElem_of_mem J;have :=hf (i+2) (by omega) (by simp;omega);rw[rV (by simp;omega)]at this;simp only[List.getElem_cons_succ]at this;rw[hg]at this;exact(val_neg h.ok).1 this
theorem VI.put{S:Sv}{e0:St}{n:Nat}{r keep:List Nat}(h:S.VI e0 (n::r) keep)(hn:(S.rc n).lits≠[])(h1:(S.rc n).lits[1]! = -e0.x)(hm:¬(S.dO n).2=true)(hv:S.val (S.rc n).lits[0]! =0):
  (S.put (S.rc n).lits[0]! (n+1)).VI e0 r (keep++[n]):=by
 have h2:=qae h.ok hn;have rz:=ru hn;obtain⟨sq,K2,oD⟩:=h.at;obtain⟨ls,oP,ar,gZ⟩:=h.TW hn h1 hm;have gY:=h.ok.lit (n:=n) (k:=0) (by omega);obtain⟨x,hx⟩:∃x,(S.rc n).lits[0]! =x:=⟨_,rfl⟩
 rw[hx]at gY hv oP⊢;have lP:=h.ok.vl;have ab:1<=tv x/\tv x<=S.vars:=by
  unfold tv;split
  ·omega
  ·split
   ·omega
   ·omega
 have hb:=lK h.ok ab.1 ab.2 hv;have hR:=sA (r:=(n:Int)+1) h.ok hb;have ad:=Ok.put h.ok (x:=x) (r:=(n:Int)+1) (by omega);have hle:(S.put x (n+1)).T.levels=S.T.levels:=ee S x (n+1);have ha:(keep++[n])++r=keep++n::r:=by simp
 have mO:∀e∈S.R,e∈(S.put x (n+1)).R:=fun e he=>by rw[hR];exact av _ he
 have yi:(S.put x (n+1)).R.take (S.put x (n+1)).head=S.R.take S.head:=by show(S.put x (n+1)).R.take S.head=_;rw[hR,oO (by omega)]
 refine⟨ad.less (by simp;omega),h.lT,?_,?_,?_,?_,h.OB,by rw[ha];exact⟨h.wi.nd,h.wi.wd,h.wi.wc⟩,fun j hl e he=> ?_,fun j hj hl e he=> ?_⟩
 ·intro A e B Fv hr;rw[hR]at Fv;rcases oX Fv.symm with⟨h3,h4,J⟩ |⟨B',h3,h4⟩
  ·subst h4;rw[J];exact⟨n,rfl,ls,oP,gZ⟩
  ·exact h.wu A e B' h4 hr
 ·intro A e B Fv hr;rw[hR]at Fv;rcases oX Fv.symm with⟨h3,h4,J⟩ |⟨B',h3,h4⟩
  ·rw[J]at hr;have hr:(n:Int)+1=0:=hr;omega
  ·exact h.dec A e B' h4 hr
 ·intro e he;have he:e∈(S.put x (n+1)).R.drop S.head:=he;rw[hle];rw[hR,List.drop_append_of_le_length (by omega)]at he;rcases ah.1 he with h3 |h3
  ·exact h.hd e h3
  ·rw[ag.1 h3]
 ·show(S.put x (n+1)).R[S.head]? =_;rw[hR,cV K2];exact h.at_
 ·rw[yi]at he;obtain⟨h3,h4⟩:=h.wt j hl e he;refine⟨fun J=> ?_,fun J=> ?_⟩
  ·obtain⟨e',fj,h6⟩:=h3 J;exact⟨e',mO e' fj,h6⟩
  ·obtain⟨e',fj,h6⟩:=h4 J;exact⟨e',mO e' fj,h6⟩
 ·rcases ah.1 hj with hj |hj
  ·obtain⟨h3,h4⟩:=h.wk j hj hl e he;refine⟨fun J=> ?_,fun J=> ?_⟩
   ·obtain⟨e',fj,h6⟩:=h3 J;exact⟨e',mO e' fj,h6⟩
   ·obtain⟨e',fj,h6⟩:=h4 J;exact⟨e',mO e' fj,h6⟩
  ·have QS:=ag.1 hj;subst QS;rw[ag.1 he];refine⟨fun J=> ?_,fun J=>⟨⟨x,S.T.levels.length,(j:Int)+1⟩,by rw[hR];simp,hx.symm,by simp[oD]⟩⟩;have J:e0.x= -(S.rc j).lits[0]! :=J;rw[hx]at J;have :S.val x<0:=(val_neg h.ok).2 ⟨e0,sq,J⟩;omega
theorem VI.cfl{S:Sv}{e0:St}{n:Nat}{r keep:List Nat}(h:S.VI e0 (n::r) keep)(hn:(S.rc n).lits≠[])(h1:(S.rc n).lits[1]! = -e0.x)(hm:¬(S.dO n).2=true)(hv:S.val (S.rc n).lits[0]! <0):S.Of n:=by
 obtain⟨sq,K2,oD⟩:=h.at;obtain⟨ls,oP,ab,gZ⟩:=h.TW hn h1 hm;refine⟨fun y J=> ?_,-e0.x,by rw[oP];exact bU _ ab,e0,sq,by omega,oD⟩;rw[oP]at J;rcases ay.1 J with rfl |J
 ·exact(val_neg h.ok).1 hv
 ·exact gZ y J
end Sv
end Go.Proofs.YtpjbaobgnhjgoaaGreat
