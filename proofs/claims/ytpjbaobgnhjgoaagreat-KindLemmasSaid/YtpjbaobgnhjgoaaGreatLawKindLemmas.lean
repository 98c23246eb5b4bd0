/- Parts of a proof. -/
import Derived.Test.YtpjbaobgnhjgoaaGreatGAV
import Derived.Lib.SmallJoins
set_option linter.unusedVariables false
set_option linter.unusedSimpArgs false
namespace Go.Proofs.YtpjbaobgnhjgoaaGreat
section
open Go.ChangeShapes Go.WideShapes Go.ChangeAt Go.RowKit
theorem JO{H:Type}{enc:TypeId×Value->H}{P:Program}{f:Func}{s:ChangeSpec}{apart fresh handsOn again:Bool}{W W':World}{args:Array Value}{v:Value}{ds gs:List (DataW H)}{before pa pv:List MemPlace}
  (hW:DataW.Whole enc P f.params.toList s.vars apart W args.toList ds gs before)
  (gz:∀(b:Nat)(sp:Nat->Bool)(hd:Bool),DataW.TrodAll enc P W' b sp hd f.resultTypes.toList (v.resultList f.resultTypes.size) (s.fn H (ds++gs)).results [])
  (TA:∀sp:Nat->Bool,(∀p∈before,sp p.block=true)->DataW.TrodAll enc P W' 0 sp true f.params.toList args.toList (s.fn H (ds++gs)).args pa)
  (Zg:∀sp:Nat->Bool,(∀p∈before,sp p.block=true)->DataW.TrodVars enc P W' sp s.vars (s.fn H (ds++gs)).vars pv)
  (J:before=pa++pv) (hb:Below W.heap.size W W')
  (ab:∀(j:Nat)(t:TypeId)(r:Value),f.resultTypes[j]? =some t->(v.resultList f.resultTypes.size)[j]? =some r->Value.okWide P W' .any 0 t r):
  s.post enc P f apart fresh handsOn again W args v W':=by
 have old:∀p∈before,p.block<W.heap.size:=fun p hp=>hW.lt p hp;have Zd:∀p∈before,(fun b=>decide (b<W.heap.size)) p.block=true:=fun p hp=>by simpa using old p hp
 refine⟨ds,gs,before,[],pa,pv,hW,gz _ _ _,TA _ Zd,Zg _ Zd,?_,fun _=> ?_⟩
 ·refine World.keptBut_mono (fun p hp=>⟨hp,?_⟩) (hb.frame (· ∈before));rw[J,ah]at hp;exact Or.inr hp
 ·obtain⟨_,_,_,_,_,hz,hn⟩:=hW;refine⟨ab,_,_,([]++pa)++pv,⟨[]++pa,pv,trodAll_append (TA _ (fun _ _=>rfl)) (gz _ _ _),Zg _ (fun _ _=>rfl),rfl,?_,?_⟩,?_⟩
  ·intro b off hp;have mO:MemPlace.cell b off∈before:=by rw[J];simpa using hp
   rw[hb.frozen (old _ mO)];exact hz b off mO
  ·intro ha;have :=hn ha;rw[J]at this;simpa using this
  ·intro p hp _;rw[J];simpa using hp
end
section
open Go.ChangeShapes Go.WideShapes Go.ChangeAt Go.RowKit Go.Deep
theorem laid:laidOutB Tryz.prog=true:=by kernel_rfl
theorem uk{H:Type}{enc:TypeId×Value->H}{t:TypeId}(hr:Tryz.prog.readableRec t=true)(iP:t<Tryz.prog.types.size){W W':World}{v:Value}{d:DataW H}{J:List MemPlace}{sp:Nat->Bool}
  (h:DataW.Trod enc Tryz.prog W 0 (fun _=>true) true t v d J) (hb:Below W.heap.size W W') (bt:∀x∈J,x.block<W.heap.size) (hs:∀p∈J,sp p.block=true):
  DataW.Trod enc Tryz.prog W' 0 sp true t v d J:=
 WideElems.Trod_stays laid hr iP h (fun x hx=>hb.same (bt x hx)) hs
section
variable {H:Type} {enc:TypeId×Value->H} {P:Program} {w:World} {base:Nat} {spare:Nat->Bool} {held:Bool}
end
end
section
open Go.ChangeShapes Go.WideShapes Go.ChangeAt Go.RowKit Go.Deep Go.Joins
section
variable {H:Type} {enc:TypeId×Value->H} {w:World} {base:Nat} {spare:Nat->Bool} {held:Bool}
theorem xS:Tryz.prog.cellsOf 27 =8:=by kernel_rfl
theorem BA:Tryz.prog.cellsOf 62 =3:=by kernel_rfl
theorem Is:Tryz.prog.cellsOf 69 =3:=by kernel_rfl
theorem uF:Tryz.prog.cellsOf 122 =3:=by kernel_rfl
theorem jK:Tryz.prog.cellsOf 3 =1:=by kernel_rfl
theorem ET:Tryz.prog.cellsOf 22 =1:=by kernel_rfl
theorem ES:Tryz.prog.cellsOf 23 =1:=by kernel_rfl
theorem EU:Tryz.prog.cellsOf 24 =1:=by kernel_rfl
theorem Ir:Tryz.prog.cellsOf 25 =1:=by kernel_rfl
theorem Ac:Tryz.prog.cellsOf 9 =1:=by kernel_rfl
theorem Iu:Tryz.prog.bytesOf 3 =8:=by kernel_rfl
theorem BE:Tryz.prog.bytesOf 62 =24:=by kernel_rfl
theorem Iv:Tryz.prog.bytesOf 69 =24:=by kernel_rfl
theorem EV:Tryz.prog.bytesOf 122 =40:=by kernel_rfl
theorem yZ{a:Addr}{v:Value}(h:w.cell? a=some v):∃b o,a=⟨b,o,none⟩:=by
 obtain⟨b,o,s⟩:=a;unfold World.cell? at h;split at h
 ·split at h
  ·cases h
  ·rename_i J;exact⟨b,o,by cases s<;>simp_all⟩
 ·cases h
theorem N2(a:Addr):a.add 0=a:=by unfold Addr.add;exact qai rfl
theorem LM(b o n:Nat):(Addr.mk b o none).add n=⟨b,o+n,none⟩:=by unfold Addr.add;split<;>simp_all
theorem mF{n:Nat}{cs:List Value}{x:DataW H×List MemPlace}(h:DataW.trod enc Tryz.prog w base spare held n 22 cs=some x)(hb:∀n∈x.1.weights Tryz.prog 22,n<=reachBytes):
  ∃(A:Option Addr)(c:Nat)(l:List Int),cs=[.slice A l.length c]/\l.length<=c/\c<=maxLen/\Rd w A l/\Ra l/\l.length<=17592186044416/\(A=none->l.length=0/\c=0):=by
 rcases open_ints Tryz.underlying22 Tryz.underlying3 jK h with⟨e1,gU⟩ |⟨a,len,cap,J,e1,Bo,AI,hm,hz,gU,sr,ab⟩
 ·exact⟨none,0,[],e1,aq _,by simp[maxLen],fun h=>absurd h (aD _),fun j hj=>absurd hj (aD _),by simp,fun _=>⟨rfl,rfl⟩⟩
 ·have hle:len<=J.length:=by rw[hz];split<;>omega
  have Ze:(J.take len).length=len:=by rw[bz];omega
  refine⟨some a,cap,J.take len,by rw[e1,Ze],by omega,hm,fun hp=> ?_,fun j hj=> ?_,?_,fun h=>by cases h⟩
  ·rw[Ze]at hp;obtain⟨b,o,rfl⟩:=yZ (sr 0 (by omega));refine⟨b,o,rfl,fun j hj=> ?_⟩;rw[Ze]at hj;have :=sr j (by omega);rw[LM]at this;rw[this];have Te:j<J.length:=by omega
   simp[aa,hj]
  ·rw[Ze]at hj;have Te:j<J.length:=by omega
   have :=Go.Joins.in64_of_wf (ab J[j] (gu Te));have e:(J.take len)[j]! =J[j]:=by simp[aa,hj,Te]
   rw[e];exact this
  ·have h1:=hb ((len+(J.length-len))*8) (by rw[gU];simp[DataW.weights,Tryz.underlying22,Iu,lits];omega);rw[Ze];simp only[reachBytes]at h1;omega
theorem FV{t e:TypeId}{f0 f1 f2:Field}(ht:Tryz.prog.underlying t=some (.slice e))(he:Tryz.prog.underlying e=some (.struct #[f0,f1,f2]))(ce:Tryz.prog.cellsOf e=3)(be:Tryz.prog.bytesOf e=24)
  (o0:f0.offset=0/\f0.type=3) (o1:f1.offset=1/\f1.type=3) (o2:f2.offset=2/\f2.type=3)
  {n:Nat} {cs:List Value} {x:DataW H×List MemPlace} (h:DataW.trod enc Tryz.prog w base spare held n t cs=some x) (hb:∀n∈x.1.weights Tryz.prog t,n<=reachBytes):
  ∃(A:Option Addr)(c:Nat)(l:List T3),cs=[.slice A l.length c]/\ZT w A l/\Rt l/\l.length<=5864062014635/\(A=none->l.length=0/\c=0):=by
 rcases open_slice ht h with⟨h0,_⟩ |⟨a,len,cap,m,n',D,Pl,h0,Bo,hl,hm,Eo,xE,hx⟩
 ·exact⟨none,0,[],h0,fun h=>absurd h (aD _),fun j J=>absurd J (aD _),by simp,fun _=>⟨rfl,rfl⟩⟩
 ·have Po:len<=m:=by rw[Eo];split<;>omega
  have K4:∀i,i<len->∃z:T3,(eJ z.a/\eJ z.b/\eJ z.c)/\w.cell? (a.add (i*3))=some (.int .i64 z.a)/\w.cell? ((a.add (i*3)).add 1)=some (.int .i64 z.b)/\w.cell? ((a.add (i*3)).add 2)=some (.int .i64 z.c):=by
   intro i hi;obtain⟨ab,hc,SC⟩:=hx i (by omega);rw[ce]at hc;obtain⟨y0,y1,y2,n2,_,hlen,g0,g1,g2⟩:=trod_struct3 he SC;rw[ce]at hlen;rw[o0.1,o0.2,jK]at g0;rw[o1.1,o1.2,jK]at g1;rw[o2.1,o2.2,jK]at g2
   match ab,hlen with
   |[v0,v1,v2],_=>
    simp only[List.drop_zero,List.drop_succ_cons,List.take_succ_cons,List.take_zero]at g0 g1 g2;obtain⟨z0,e0,_,w0⟩:=DataW.trod_int Tryz.underlying3 g0;obtain⟨z1,e1,_,w1⟩:=DataW.trod_int Tryz.underlying3 g1;obtain⟨z2,e2,_,w2⟩:=DataW.trod_int Tryz.underlying3 g2;cases e0;cases e1;cases e2;obtain⟨_,_,j4⟩:=World.cells?_some hc;have a0:=j4 0 (by omega);have a1:=j4 1 (by omega);have a2:=j4 2 (by omega);rw[N2]at a0;exact⟨⟨z0,z1,z2⟩,⟨Go.Joins.in64_of_wf w0,Go.Joins.in64_of_wf w1,Go.Joins.in64_of_wf w2⟩,a0,a1,a2⟩
  obtain⟨F,hF⟩:=choose_lt K4;refine⟨some a,cap,(List.range len).map F,by simp[h0],fun xH=> ?_,fun j J=> ?_,?_,fun h=>by cases h⟩
  ·simp only[aG,de]at xH;have Q0:=(hF 0 xH).2.1;rw[Nat.zero_mul]at Q0;rw[N2]at Q0;obtain⟨b,o,rfl⟩:=yZ Q0;refine⟨b,o,rfl,fun j J=> ?_⟩;simp only[aG,de]at J;have :=(hF j J).2;simp only[LM]at this;simp only[aa,aZ,List.getElem?_range J,dA,aJ];exact this
  ·simp only[aG,de]at J;simp only[aa,aZ,List.getElem?_range J,dA,aJ];exact(hF j J).1
  ·have h1:=hb ((len+(m-len))*24) (by rw[xE];simp[DataW.weights,ht,be]);simp only[reachBytes]at h1;simp only[aG,de];omega
theorem R8{n:Nat}{cs:List Value}{x:DataW H×List MemPlace}(h:DataW.trod enc Tryz.prog w base spare held n 25 cs=some x)(hb:∀n∈x.1.weights Tryz.prog 25,n<=reachBytes):
  ∃(A:Option Addr)(c:Nat)(l:List Nm),cs=[.slice A l.length c]/\RdM w A l/\Rm l/\l.length<=3518437208781/\(A=none->l.length=0/\c=0):=by
 rcases open_slice Tryz.underlying25 h with⟨h0,_⟩ |⟨a,len,cap,m,n',D,Pl,h0,Bo,hl,hm,Eo,xE,hx⟩
 ·exact⟨none,0,[],h0,fun h=>absurd h (aD _),fun j J=>absurd J (aD _),by simp,fun _=>⟨rfl,rfl⟩⟩
 ·have Po:len<=m:=by rw[Eo];split<;>omega
  have K4:∀i,i<len->∃z:Nm,(z.k.size<=maxLen/\eJ z.i/\z.t.size<=maxLen)/\w.cell? (a.add (i*3))=some (.string z.k)/\w.cell? ((a.add (i*3)).add 1)=some (.int .i64 z.i)/\w.cell? ((a.add (i*3)).add 2)=some (.string z.t):=by
   intro i hi;obtain⟨ab,hc,SC⟩:=hx i (by omega);rw[uF]at hc;obtain⟨y0,y1,y2,n2,_,hlen,g0,g1,g2⟩:=trod_struct3 Tryz.underlying122 SC;rw[uF]at hlen;simp only[jK,Ac]at g0 g1 g2
   match ab,hlen with
   |[v0,v1,v2],_=>
    simp only[List.drop_zero,List.drop_succ_cons,List.take_succ_cons,List.take_zero]at g0 g1 g2;obtain⟨z0,e0,_,w0⟩:=DataW.trod_string Tryz.underlying9 g0;obtain⟨z1,e1,_,w1⟩:=DataW.trod_int Tryz.underlying3 g1;obtain⟨z2,e2,_,w2⟩:=DataW.trod_string Tryz.underlying9 g2;cases e0;cases e1;cases e2;obtain⟨_,_,j4⟩:=World.cells?_some hc;have a0:=j4 0 (by omega);have a1:=j4 1 (by omega);have a2:=j4 2 (by omega);rw[N2]at a0;exact⟨⟨z0,z1,z2⟩,⟨w0,Go.Joins.in64_of_wf w1,w2⟩,a0,a1,a2⟩
  obtain⟨F,hF⟩:=choose_lt K4;refine⟨some a,cap,(List.range len).map F,by simp[h0],fun xH=> ?_,fun j J=> ?_,?_,fun h=>by cases h⟩
  ·simp only[aG,de]at xH;have Q0:=(hF 0 xH).2.1;rw[Nat.zero_mul]at Q0;rw[N2]at Q0;obtain⟨b,o,rfl⟩:=yZ Q0;refine⟨b,o,rfl,fun j J=> ?_⟩;simp only[aG,de]at J;have :=(hF j J).2;simp only[LM]at this;simp only[aa,aZ,List.getElem?_range J,dA,aJ];exact this
  ·simp only[aG,de]at J;simp only[aa,aZ,List.getElem?_range J,dA,aJ];exact(hF j J).1
  ·have h1:=hb ((len+(m-len))*40) (by rw[xE];simp[DataW.weights,Tryz.underlying25,EV]);simp only[reachBytes]at h1;simp only[aG,de];omega
theorem Y8{α:Type}{l:List α}(h:l.length=8):∃a b c d e f g h,l=[a,b,c,d,e,f,g,h]:=by
 match l,h with
 |[a,b,c,d,e,f,g,h],_=>exact⟨a,b,c,d,e,f,g,h,rfl⟩
theorem Dp{P:Program}{t:TypeId}{f0 f1 f2 f3 f4 f5 f6 f7:Field}{fuel:Nat}{cs:List Value}{x:DataW H×List MemPlace}(ht:P.underlying t=some (.struct #[f0,f1,f2,f3,f4,f5,f6,f7]))(h:DataW.trod enc P w base spare held fuel t cs=some x):
  ∃y0 y1 y2 y3 y4 y5 y6 y7 n,x.1= .agg ([y0,y1,y2,y3,y4,y5,y6,y7].map (·.1))/\cs.length=P.cellsOf t/\DataW.trod enc P w base spare held n f0.type ((cs.drop f0.offset).take (P.cellsOf f0.type))=some y0/\DataW.trod enc P w base spare held n f1.type ((cs.drop f1.offset).take (P.cellsOf f1.type))=some y1/\DataW.trod enc P w base spare held n f2.type ((cs.drop f2.offset).take (P.cellsOf f2.type))=some y2/\DataW.trod enc P w base spare held n f3.type ((cs.drop f3.offset).take (P.cellsOf f3.type))=some y3/\DataW.trod enc P w base spare held n f4.type ((cs.drop f4.offset).take (P.cellsOf f4.type))=some y4/\DataW.trod enc P w base spare held n f5.type ((cs.drop f5.offset).take (P.cellsOf f5.type))=some y5/\DataW.trod enc P w base spare held n f6.type ((cs.drop f6.offset).take (P.cellsOf f6.type))=some y6/\DataW.trod enc P w base spare held n f7.type ((cs.drop f7.offset).take (P.cellsOf f7.type))=some y7:=by
 obtain⟨xs,n,_,hx,hl,hlen,J⟩:=DataW.trod_struct ht h;obtain⟨y0,y1,y2,y3,y4,y5,y6,y7,rfl⟩:=Y8 (l:=xs) hlen;exact⟨y0,y1,y2,y3,y4,y5,y6,y7,n,by rw[hx],hl,by simpa using J 0 f0 rfl,by simpa using J 1 f1 rfl,by simpa using J 2 f2 rfl,by simpa using J 3 f3 rfl,by simpa using J 4 f4 rfl,by simpa using J 5 f5 rfl,by simpa using J 6 f6 rfl,by simpa using J 7 f7 rfl⟩
set_option maxRecDepth 100000 in
theorem Lz{n:Nat}{cs:List Value}{x:DataW H×List MemPlace}(h:DataW.trod enc Tryz.prog w base spare held n 27 cs=some x)(hb:∀n∈x.1.weights Tryz.prog 27,n<=reachBytes):
  ∃(J:Hd)(C:Pc),cs=(fv J C).toList/\eZ w J C/\(J.iA=none->C.ins.length=0/\J.iC=0):=by
 obtain⟨y0,y1,y2,y3,y4,y5,y6,y7,n2,hx,hl,QV,di,cE,dN,fG,fT,gQ,jg⟩:=Dp Tryz.underlying27 h;rw[xS]at hl;obtain⟨v0,v1,v2,v3,v4,v5,v6,v7,rfl⟩:=Y8 hl;simp only[jK,ET,ES,EU,Ir,List.drop_zero,List.drop_succ_cons,List.take_succ_cons,List.take_zero]at QV di cE dN fG fT gQ jg;have hw:∀(j:Nat)(t:TypeId)(y:DataW H×List MemPlace),[3,22,23,22,22,22,24,25][j]? =some t->[y0,y1,y2,y3,y4,y5,y6,y7][j]? =some y->∀n∈y.1.weights Tryz.prog t,n<=reachBytes:=by
  intro j t y ht hy k hk;refine hb k ?_;rw[hx];have e:(DataW.agg ([y0,y1,y2,y3,y4,y5,y6,y7].map (·.1))).weights Tryz.prog 27 =DataW.weightsEach Tryz.prog [3,22,23,22,22,22,24,25] ([y0,y1,y2,y3,y4,y5,y6,y7].map (·.1)):=by rw[DataW.weights,Tryz.underlying27];rfl
  rw[e];exact DataW.weights_mem_each (j:=j) ht (by rw[aZ,hy];rfl) k hk
 obtain⟨mx,e0,_,w0⟩:=DataW.trod_int Tryz.underlying3 QV;obtain⟨A1,c1,l1,e1,_,_,r1,q1,b1,n1⟩:=mF di (hw 1 _ _ rfl rfl);obtain⟨A2,c2,l2,e2,r2,q2,b2,ab⟩:=FV Tryz.underlying23 Tryz.underlying62 BA BE ⟨rfl,rfl⟩ ⟨rfl,rfl⟩ ⟨rfl,rfl⟩ cE (hw 2 _ _ rfl rfl);obtain⟨A3,c3,l3,e3,_,_,r3,q3,b3,n3⟩:=mF dN (hw 3 _ _ rfl rfl);obtain⟨A4,c4,l4,e4,_,_,r4,q4,b4,n4⟩:=mF fG (hw 4 _ _ rfl rfl);obtain⟨A5,c5,l5,e5,_,_,r5,q5,b5,n5⟩:=mF fT (hw 5 _ _ rfl rfl);obtain⟨A6,c6,l6,e6,r6,q6,b6,n6⟩:=FV Tryz.underlying24 Tryz.underlying69 Is Iv ⟨rfl,rfl⟩ ⟨rfl,rfl⟩ ⟨rfl,rfl⟩ gQ (hw 6 _ _ rfl rfl);obtain⟨A7,c7,l7,e7,r7,q7,b7,n7⟩:=R8 jg (hw 7 _ _ rfl rfl);simp only[List.cons.injEq,and_true]at e0 e1 e2 e3 e4 e5 e6 e7;subst e0 e1 e2 e3 e4 e5 e6 e7;exact⟨⟨A1,c1,A2,c2,A3,c3,A4,c4,A5,c5,A6,c6,A7,c7⟩,⟨mx,l1,l2,l3,l4,l5,l6,l7⟩,rfl,
  ⟨r1,r2,r3,r4,r5,r6,r7,b1,b2,b3,b4,b5,b6,b7,Go.Joins.in64_of_wf w0,q1,q2,q3,q4,q5,q6,q7⟩,n1⟩
end
end
end Go.Proofs.YtpjbaobgnhjgoaaGreat
namespace Go.Proofs.YtpjbaobgnhjgoaaGreat.kindLemmas
open Go.ChangeShapes Go.WideShapes Go.ChangeAt Go.RowKit
theorem own:ownKnob Tryz.prog.godebug=none:=by kernel_rfl
set_option maxRecDepth 100000 in
theorem lifted(os:Os)(started:os.Started)(H:Type)(enc:TypeId×Value->H):
  ReturnsInHanded {} Tryz.checked os 4 .any (Rows.kindLemmasSpec.pre6 enc Tryz.prog Tryz.f4 Rows.kindLemmasRow.domain false) (Rows.kindLemmasSpec.post enc Tryz.prog Tryz.f4 false true false false):=by
 refine returnsInHanded_of_change_sized (C:=Tryz.checked) own started (by kernel_rfl) Tryz.func4
  (ChangeSpec.witness6 (enc:=enc) (C:=Tryz.checked) false ⟨#[],#[.agg #[.int .i64 0, .slice none 0 0, .slice none 0 0, .slice none 0 0, .slice none 0 0, .slice none 0 0, .slice none 0 0, .slice none 0 0], .slice none 0 0, .int .i64 0, .int .i64 0],[]⟩ 8 (by kernel_rfl) (by kernel_rfl) (by kernel_rfl) (by kernel_rfl)) ?_
 intro W base args ds gs before Zi hW bj ab _;have nM:(DataW.weightsEach Tryz.prog (Tryz.f4.params.toList++Rows.kindLemmasSpec.plain.varTypes Tryz.prog) (ds++gs)).all (· <=reachBytes)=true:=ab;clear ab;have mS:∀(j:Nat) t v,Tryz.f4.params[j]? =some t->args[j]? =some v->Value.okWide Tryz.prog W .any base t v:=Zi;have Vp:=hW;obtain⟨p,q,ad,hV,rfl,wY,Fm⟩:=hW;have hA:DataW.TrodAll enc Tryz.prog W 0 (fun _=>true) true Tryz.f4.params.toList args.toList ds p:=ad;rw[Tryz.params4]at hA mS nM;obtain⟨v0,bO,d0,bo,p0,q0,TA,rfl,rfl,h0,r0⟩:=trodAll_cons hA;obtain⟨v1,bS,d1,bB,p1,q1,rfl,rfl,rfl,h1,r1⟩:=trodAll_cons r0;obtain⟨v2,bT,d2,bG,p2,q2,rfl,rfl,rfl,h2,r2⟩:=trodAll_cons r1;obtain⟨v3,b0,d3,bI,p3,q3,rfl,rfl,rfl,h3,r3⟩:=trodAll_cons r2;obtain⟨rfl,rfl,rfl⟩:=trodAll_nil r3;obtain rfl :args=#[v0,v1,v2,v3]:=by cases args;simp_all
 obtain⟨rfl,rfl⟩:=trodVars_none hV;obtain⟨a2,rfl,rfl,rfl,w2⟩:=open_int Tryz.underlying3 (mS 2 3 v2 rfl rfl) h2;obtain⟨a3,rfl,rfl,rfl,w3⟩:=open_int Tryz.underlying3 (mS 3 3 v3 rfl rfl) h3;obtain⟨cs,rfl,kF⟩:=okWide_struct Tryz.underlying27 (mS 0 27 v0 rfl rfl);obtain⟨a1,aB,aM,rfl⟩:=okWide_slice Tryz.underlying22 (mS 1 22 v1 rfl rfl);have QN:∀n∈d0.weights Tryz.prog 27,n<=reachBytes:=fun n hn=>by have :=cR.1 nM _ (DataW.weights_mem_each (j:=0) (t:=27) rfl rfl n hn);simpa using this
 have eo:∀n∈d1.weights Tryz.prog 22,n<=reachBytes:=fun n hn=>by have :=cR.1 nM _ (DataW.weights_mem_each (j:=1) (t:=22) rfl rfl n hn);simpa using this
 have aT:=h0;have TI:=h1;obtain⟨bg,QV⟩:=h0;obtain⟨bb,di⟩:=h1;obtain⟨Hh,C,ba,vJ,gD⟩:=Lz QV QN;obtain⟨A,c,l,oD,-,-,sP,kQ,sQ,AH⟩:=mF di eo;have aK:cs=fv Hh C:=by
  have :cs.toList=(fv Hh C).toList:=by simpa[Value.cells]using ba
  exact Array.ext' this
 have Xh:Value.slice a1 aB aM= .slice A l.length c:=by simpa[Value.cells]using oD
 subst aK;rw[Xh]at TI⊢;clear ad Zi QV di;have bt:∀x∈p0++(p1++([]++([]++[])))++[],x.block<W.heap.size:=fun x J=>by simpa using Vp.lt x (by simpa using J)
 refine(J8 W Hh C vJ gD A c l sP kQ sQ AH a2 (Go.Joins.in64_of_wf w2) a3 (Go.Joins.in64_of_wf w3)).mono fun e W' ⟨he,hg⟩=> ?_;subst he;rw[Xh]at Vp;exact⟨_,rfl,JO (pa:=p0++(p1++([]++([]++[])))) (pv:=[]) Vp (fun _ _ _=>(trodAll_cons_mk (shut_bool Tryz.underlying4 _) trodAll_mk0))
  (fun sp ar=>trodAll_cons_mk (uk (by kernel_rfl) (of_decide_eq_true (by kernel_rfl)) aT hg.below (fun x J=>bt x (by simp[J])) (fun p hp=>ar p (by simp[hp])))
   (trodAll_cons_mk (uk (by kernel_rfl) (of_decide_eq_true (by kernel_rfl)) TI hg.below (fun x J=>bt x (by simp[J])) (fun p hp=>ar p (by simp[hp])))
   (trodAll_cons_mk (uk (by kernel_rfl) (of_decide_eq_true (by kernel_rfl)) h2 hg.below (fun x J=>by cases J) (fun p hp=>by cases hp))
   (trodAll_cons_mk (uk (by kernel_rfl) (of_decide_eq_true (by kernel_rfl)) h3 hg.below (fun x J=>by cases J) (fun p hp=>by cases hp)) trodAll_mk0)))) (fun _ _=>rfl) (by simp)
  hg.below (ok_one (by kernel_rfl) rfl (okWide_bool_mk Tryz.underlying4 _))⟩
theorem over:Rows.kindLemmasRow.holds Tryz.pinned (OpenSpec.ofChange Rows.kindLemmasSpec):=
 OpenClaim.holds_of_wide 4 Tryz.f4 rfl rfl rfl rfl rfl rfl rfl ⟨rfl,rfl,rfl,rfl,rfl⟩ rfl rfl rfl rfl rfl (by kernel_rfl) Tryz.func4 (by kernel_rfl)
  (of_decide_eq_true (by kernel_rfl)) (by unfold Func.isWrapper;first | (rw[qai (by decide+kernel)];kernel_rfl) | (rw[qah (by decide+kernel)];exact⟨rfl,rfl⟩))
  (fun os started H enc _=>lifted os started H enc)
theorem proved:Rows.KindLemmasSaid:=
 over
end Go.Proofs.YtpjbaobgnhjgoaaGreat.kindLemmas
