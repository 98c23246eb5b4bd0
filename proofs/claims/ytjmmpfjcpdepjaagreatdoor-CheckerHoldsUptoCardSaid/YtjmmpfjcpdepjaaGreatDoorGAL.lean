/- Parts of a proof. -/
import Derived.Test.YtjmmpfjcpdepjaaGreatDoorGAK
import Derived.Test.YtjmmpfjcpdepjaaGreatDoorGAF
set_option linter.unusedVariables false
set_option maxHeartbeats 4000000
set_option maxRecDepth 100000
namespace Go.Proofs.YtjmmpfjcpdepjaaGreatDoor
section
open Go.RowKit Go.Sort
def GP (x:Int):List Int->List Int
 |[]=>[x]
 |y::r=>if ltOf tx y x=true then y::GP x r else x::y::r
def isI (xs:List Int):List Int:=xs.foldr GP []
theorem tH (x:Int):∀l,(GP x l).Perm (x::l)
 |[]=>dy _
 |y::r=>by
  rw[GP];split
  ·exact((tH x r).cons y).trans (List.Perm.swap x y r)
  ·exact dy _
theorem D0:∀xs,(isI xs).Perm xs
 |[]=>dy _
 |x::r=>(tH x _).trans ((D0 r).cons x)
def wY (x y:Int):Bool:= !(ltOf tx) y x
theorem Ak (x y:Int):(wY x y ||wY y x)=true:=by unfold wY;rw[pn,pn];simp only[jt,j6,dX,Bool.and_eq_false_iff,decide_eq_false_iff_not];omega
theorem Aj (x y z:Int)(h1:wY x y=true)(h2:wY y z=true):wY x z=true:=by unfold wY at *;rw[pn]at *;simp only[j6,dX,Bool.and_eq_false_iff,decide_eq_false_iff_not]at *;omega
theorem PX (x y:Int)(h1:wY x y=true)(h2:wY y x=true):x=y:=by unfold wY at *;simp only[j6]at *;exact Ad x y h2 h1
theorem uo (x:Int):∀l:List Int,l.Pairwise (fun a b=>wY a b=true)->(GP x l).Pairwise (fun a b=>wY a b=true)
 |[],_=>by simp[GP]
 |y::r,h=>by
  rw[GP];have hy:=List.pairwise_cons.1 h;split
  ·rename_i hl;refine List.pairwise_cons.2 ⟨fun b hb=> ?_,uo x r hy.2⟩;rcases av.1 ((tH x r).mem_iff.1 hb)with rfl |hb
   ·have :=Ak y b;unfold wY at this⊢;rw[hl]at this;simpa using this
   ·exact hy.1 b hb
  ·rename_i hl;have Of:wY x y=true:=by unfold wY;simpa using hl
   refine List.pairwise_cons.2 ⟨fun b hb=> ?_,h⟩;rcases av.1 hb with rfl |hb
   ·exact Of
   ·exact Aj x y b Of (hy.1 b hb)
theorem rh:∀xs,(isI xs).Pairwise (fun a b=>wY a b=true)
 |[]=>List.Pairwise.nil
 |x::r=>uo x _ (rh r)
theorem zU:∀(a b:List Int),a.Perm b->a.Pairwise (fun a b=>wY a b=true)->b.Pairwise (fun a b=>wY a b=true)->a=b
 |[],b,h,_,_=>(List.nil_perm.1 h).symm▸rfl
 |x::a,[],h,_,_=>absurd h.length_eq (by simp)
 |x::a,y::b,h,ha,hb=>by
  have h1:=List.pairwise_cons.1 ha;have h2:=List.pairwise_cons.1 hb;have Of:x=y:=by
   rcases av.1 (h.mem_iff.1 (bD))with e |e
   ·exact e
   ·rcases av.1 (h.mem_iff.2 (bD))with e2 |e2
    ·exact e2.symm
    ·exact PX x y (h1.1 y e2) (h2.1 x e)
  subst Of;rw[zU a b (h.cons_inv) h1.2 h2.2]
theorem PO (xs:List Int):ko xs=isI xs:=by refine zU _ _ ((List.mergeSort_perm xs _).trans (D0 xs).symm) ?_ (rh xs);exact List.pairwise_mergeSort (le:=fun x y=>wY x y) (fun a b c=>Aj a b c) (fun a b=>Ak a b) xs
namespace Sv
def Gg (S:Sv):Bool:=decide (S.list.length<2199023255552)&&decide (S.used<2199023255552)&&decide (S.bump<=1073741824)&&decide (-1152921504606846976<=S.many)&&decide (S.many<=1152921504606846976)&&decide (S.bQ<=2199023255552)&&decide (S.T.levels.length<=4398046511104)&&S.core.isEmpty
theorem Pj {S:Sv}(h:S.Gg=true):S.Small:=by unfold Gg at h;simp only[ax,aal,List.isEmpty_iff]at h;obtain⟨⟨⟨⟨⟨⟨⟨h1,h2⟩,h3⟩,h4⟩,h5⟩,h6⟩,h7⟩,h8⟩:=h;exact⟨h1,h2,h3,h4,h5,h6,h7,h8⟩
def IY (budget:Int)(n:Nat)(K:Sv->Option (Sv×Int)):Option (Sv×Bool)->Option (Sv×Int)
 |none=>none
 |some (S2,false)=>some (S2,2)
 |some (S2,true)=>if budget<(n+1:Nat)then some (S2,0)else K S2
def Br (budget:Int)(us:List Int)(K:Nat->Nat->Sv->Option (Sv×Int)):Nat->Nat->Nat->Sv->Option (Sv×Int)
 |0,_,_,_=>none
 |d+1,next,n,S=>
  if S.Gg&&decide (n<2199023255552)&&decide (next <4398046511104)then
   match S.follow with
   | (SF,some c)=>IY budget n (K next (n+1)) (SF.cO.conflict c)
   | (SF,none)=>
    let SR:=SF.dt n next
    if(SR.bQ:Int)<SR.many then none
    else
     let q:=SR.aR us
     if q.2=0 then Br budget us K d (if next <=n then n+64 else next) n q.1 else some q
  else none
def Bp (budget:Int)(us:List Int)(D:Nat):Nat->Nat->Nat->Sv->Option (Sv×Int)
 |0,_,_,_=>none
 |c+1,next,n,S=>Br budget us (Bp budget us D c) D next n S
def Ge (budget:Int)(us:List Int)(D C:Nat)(S:Sv):Option (Sv×Int):=
 if(decide (budget<1) ||us.any (gv S.vars))=true then some (S.bI,0)
 else if S.bad=true then some (S.bI.cO,2)
 else(Bp budget us D C 64 0 S.bI.cO).map fun q=>(q.1.back 0,q.2)
theorem RH {budget:Int}{n:Nat}{K:Sv->Option (Sv×Int)}{K':Sv->Prop}{Q:Sv->Int->Prop}{P:Sv×Int->Prop}(hK:∀S q,K S=some q->P q->K' S)(hQ:∀S r,P (S,r)->Q S r):
  ∀(o:Option (Sv×Bool)) (q:Sv×Int),IY budget n K o=some q->P q->IZ budget n Q K' o
 |none,q,h,_=>by cases h
 |some (S2,false),q,h,hp=>by
  have :(S2,(2:Int))=q:=by simpa[IY]using h
  exact hQ S2 2 (by rw[this];exact hp)
 |some (S2,true),q,h,hp=>by
  show if budget<(n+1:Nat)then Q S2 0 else K' S2;have h':(if budget<(n+1:Nat)then some (S2,0)else K S2)=some q:=h;split
  ·rename_i hb;rw[aae hb]at h';have :(S2,(0:Int))=q:=by simpa using h'
   exact hQ S2 0 (by rw[this];exact hp)
  ·rename_i hb;rw[aac hb]at h';exact hK S2 q h' hp
theorem Dw {budget:Int}{us:List Int}{K:Nat->Nat->Sv->Option (Sv×Int)}{K':Nat->Nat->Sv->Prop}{Q:Sv->Int->Prop}{P:Sv×Int->Prop}(hK:∀next n S q,K next n S=some q->P q->K' next n S)(hQ:∀S r,P (S,r)->Q S r):
  ∀(d next n:Nat) (S:Sv) (q:Sv×Int),Br budget us K d next n S=some q->P q->iE false budget us Q K' d next n S
 |0,_,_,_,q,h,_=>by cases h
 |d+1,next,n,S,q,h,hp=>by
  rw[Br]at h;split at h
  ·rename_i hc;simp only[ax,aal]at hc;rw[iE];refine⟨Pj hc.1.1,hc.1.2,hc.2,?_⟩;split at h
   ·rename_i SF c hf;rw[hf];exact RH (fun S q=>hK next (n+1) S q) hQ _ q h hp
   ·rename_i SF hf;rw[hf];simp only at h⊢;unfold zS;split at h
    ·cases h
    ·rename_i ht;rw[aac ht];split at h
     ·rename_i h0;rw[aae h0];exact Dw hK hQ d _ n _ q h hp
     ·rename_i h0;rw[aac h0];refine hQ _ _ ?_;have :(SF.dt n next).aR us=q:=(by simpa using h)
      rw[this];exact hp
  ·cases h
theorem zV {budget:Int}{us:List Int}{D:Nat}{Q:Sv->Int->Prop}{P:Sv×Int->Prop}(hQ:∀S r,P (S,r)->Q S r):
  ∀(c next n:Nat) (S:Sv) (q:Sv×Int),Bp budget us D c next n S=some q->P q->fe false budget us Q D c next n S
 |0,_,_,_,q,h,_=>by cases h
 |c+1,next,n,S,q,h,hp=>Dw (fun next n S q=>zV hQ c next n S q) hQ D next n S q h hp
theorem Pi {budget:Int}{us:List Int}{D C:Nat}{S:Sv}{q:Sv×Int}(h:Ge budget us D C S=some q):me false budget us D C (fun S' r=>(S',r)=q) S:=by
 unfold Ge at h;unfold me;split at h
 ·rename_i h1;rw[aae h1];simpa using h
 ·rename_i h1;rw[aac h1];split at h
  ·rename_i h2;rw[aae h2];simpa using h
  ·rename_i h2;rw[aac h2];rw[Option.map_eq_some_iff]at h;obtain⟨q1,h3,h4⟩:=h;exact zV (P:=fun x=>x=q1) (fun S r e=>by rw[<-h4,<-e]) C 64 0 _ q1 h3 rfl
end Sv
structure Own (w0 w:World)(L:aO)(S:Sv):Prop where
 sv:aX w L S
 nw:∀k,k<w0.heap.size->(L.cY k).1≠L.id
 fr:Fr [] w0 w
theorem Own.keep {w0 w w':World}{L:aO}{S:Sv}(h:Own w0 w L S)(hf:Fr [] w w'):Own w0 w' L S:=⟨h.sv.keep hf,h.nw,h.fr.ag hf⟩
theorem Own.shut {w0 w:World}{L:aO}{S:Sv}(h:Own w0 w L S):Own w0 w (L.shut w) S:=
 ⟨h.sv.shut,fun k hk=>by simp only[aO.shut];rw[aae (aK hk h.fr.size)];exact h.nw k hk,h.fr⟩
theorem Own.next {w0 w w':World}{L L':aO}{S S':Sv}(h:Own w0 w L S)(h':aX w' L' S')(he:L.ext L' w)(hf:Fr (L.own w) w w'):Own w0 w' L' S':=
 ⟨h',fun k hk e=>h.nw k hk (he.2.2 k (aK hk h.fr.size) (e.trans he.2.1)),h.fr.trans hf (fun k hk=>by
  rcases bv k w0.heap.size with h1 |h1
  ·exact absurd (aO.bT.1 hk).2 (h.nw k h1)
  ·exact .inr h1)⟩
theorem T4 (w:World)(vars:Int)(h0: -9223372036854775808<=vars)(h1:vars<=9223372036854775807):
  Calls Tryz.prog 39 #[.int .i64 vars] w fun e w'=>∃L:aO,e= .returned (.pointer (some ⟨L.a,0,none⟩))/\Own w w' L (Sv.new vars):=
 (LQ w vars h0 h1).mono fun e w' ⟨L,he,h2,h3,h4⟩=>⟨L,he,h2,h3,h4⟩
theorem Sv.Ok.new (vars:Int):(Sv.new vars).Ok 0/\(Sv.new vars).vars=(min (max vars 0) 262143).toNat:=by refine⟨Sv.Ok.grow Sv.Ok.bare _ (by show 0+_<=262143;omega),?_⟩;show 0+_=_;omega
end
section
open Go.RowKit
theorem Gn (w:World)(a:Int)(h:eh a):Calls Tryz.prog 57 #[.int .i64 a] w fun e w'=>e= .returned (.int .i64 (tv a))/\w=w':=by
 have HM:Hid (max a (wrap64 (-a))=tv a):=by
  show _=_;by_cases hl:a<wrap64 (-a)
  ·rw[<-JD h hl];omega
  ·rw[<-JE h hl];omega
 go_enter Tryz.func57,Tryz.ntmps57;go_wp2_with fail;go_ret;exact⟨by rw[<-HM.out];rfl,rfl⟩
theorem Bx (w:World)(vars:Int)(A:Option Addr)(c:Nat)(xs:List Int)(h:Rd w A xs)(hr:Ra xs):
  Calls Tryz.prog 28 #[.int .i64 vars, .slice A xs.length c] w fun e w'=>e= .returned (.int .i64 (ft vars xs))/\w=w':=by
 by_cases hl:1024<xs.length
 ·have HC:Hid (ft vars xs=5):=aae hl;rw[HC.out];have MZ:(1024:Int)<(xs.length:Int):=by omega
  clear h hr;go_enter Tryz.func28,Tryz.ntmps28;go_wp2_with fail;go_ret;exact⟨rfl,rfl⟩
 ·have MZ:(xs.length:Int)<=(1024:Int):=by omega
  obtain⟨q,hq⟩:∃q,xs.any (gv vars)=q:=⟨_,rfl⟩
  have HC:Hid (ft vars xs=if q=true then 4 else 0):=by show _=_;unfold ft;rw[aac hl,hq]
  have HQ:=aa hq;have HR:=aa h;have rD:=aa hr;obtain⟨CK,hCK⟩:∃CK,ft vars xs=CK:=⟨_,rfl⟩
  rw[hCK]at HC⊢;have KA:=aa (fun x hx=>Gn w x hx);clear h hr hq hCK;go_enter Tryz.func28,Tryz.ntmps28;go_wp2_with fail;go_loopg [5] xs.length (fun g x5 wr=>∃k:Nat,k+g=xs.length/\x5= .int .i64 k/\Hid (dF xs (gv vars) k)/\w=wr);case atStart=>exact⟨0,by omega,rfl,dF.zero _ _,rfl⟩
  case round=>
   obtain⟨k,hk,rfl,HN,rfl⟩:=hrel;have HK:=aa hk;have jg:k<=xs.length:=by omega
   clear hk;by_cases bw:k<xs.length
   ·obtain⟨b,o,x,hA,he,cx,fN,gd⟩:=HR.out.one rD.out bw;subst hA;have KX:=aa (KA.out x ⟨fN,gd⟩);obtain⟨t,ht⟩:∃t,tv x=t:=⟨_,rfl⟩
    rw[ht]at KX;have Si:Hid (gv vars xs[k]! =(decide (t<1) ||decide (vars<t))):=by show _=_;unfold gv;rw[he.out,ht]
    clear ht;by_cases h1:t<1
    ·have hd:decide (t<1)=true:=aai h1;have HF:Hid (CK=4):=by show _=_;rw[HC.out,aae (by rw[<-HQ.out];exact kM xs _ k bw (by rw[Si.out,hd];rfl))]
     have hf:=HF.out;subst hf;go_wp2_with fail;refine KX.out.mono ?_;rintro e w1 ⟨rfl,rfl⟩;go_wp2_with fail;go_ret;exact⟨rfl,rfl⟩
    ·have hd:decide (t<1)=false:=aah h1;by_cases h2:vars<t
     ·have qj:decide (vars<t)=true:=aai h2;have HF:Hid (CK=4):=by show _=_;rw[HC.out,aae (by rw[<-HQ.out];exact kM xs _ k bw (by rw[Si.out,hd,qj];rfl))]
      have hf:=HF.out;subst hf;go_wp2_with fail;refine KX.out.mono ?_;rintro e w1 ⟨rfl,rfl⟩;go_wp2_with fail;refine KX.out.mono ?_;rintro e w1 ⟨rfl,rfl⟩;go_wp2_with fail;go_ret;exact⟨rfl,rfl⟩
     ·have qj:decide (vars<t)=false:=aah h2;have jw:Hid (dF xs (gv vars) (k+1)):=dF.step HN.out (by rw[Si.out,hd,qj];rfl);go_wp2_with fail;refine KX.out.mono ?_;rintro e w1 ⟨rfl,rfl⟩;go_wp2_with fail;refine KX.out.mono ?_;rintro e w1 ⟨rfl,rfl⟩;go_wp2_with fail;go_roundg (gk-1);case measure=>have :=HK.out;omega
      case rel=>exact⟨k+1,by have :=HK.out;omega,by go_num,jw.out,rfl⟩
   ·have HF:Hid (CK=0):=by show _=_;rw[HC.out,aac (by rw[<-HQ.out,HN.out.all bw];simp)]
    have hf:=HF.out;subst hf;clear HK;go_wp2_with fail;go_ret;exact⟨rfl,rfl⟩
theorem kD (w:World)(xs:List Int)(h:xs.length<=maxLen):Ints (w.alloc (.cells (xs.map (Value.int .i64)).toArray 3)) (some ⟨w.heap.size,0,none⟩) xs.length xs:=by have :=World.ownsRow_lit (base:=0) (e:=3) (size:=1) w (xs.map (Value.int .i64)).toArray xs.length (bR _) h (by simp);unfold Ints;simpa using this
def NM (x y:Int):Prop:=ig x<ig y\/(ig x=ig y/\x<y)
theorem NM.trans {x y z:Int}(h:NM x y)(k:NM y z):NM x z:=by unfold NM at *;omega
theorem YO {x y:Int}(h:wY x y=true)(hn:x≠y):NM x y:=by unfold wY at h;rw[pn]at h;simp only[j6,dX,Bool.and_eq_false_iff,decide_eq_false_iff_not]at h;unfold NM;omega
theorem uC {xs:List Int}(hs:xs.Pairwise (fun a b=>wY a b=true)):∀k,k<=xs.length->(gG xs k).Pairwise NM/\∀y∈gG xs k,y=xs[k-1]! \/NM y xs[k-1]!
 |0,_=>⟨List.Pairwise.nil,fun y hy=>by cases hy⟩
 |k+1,hk=>by
  obtain⟨h1,h2⟩:=uC hs k (by omega);rw[gG,fl];by_cases h0:k=0
  ·subst h0;rw[aae (.inl rfl)];exact⟨by simp[gG],fun y hy=> .inl (by simpa[gG]using hy)⟩
  ·have hle:wY xs[k-1]! xs[k]! =true:=by rw[mR (by omega),mR (by omega)];exact List.pairwise_iff_getElem.1 hs (k-1) k (by omega) (by omega) (by omega)
   by_cases he:xs[k]! ≠xs[k-1]!
   ·rw[aae (.inr he)];have bw:=YO hle (fun e=>he e.symm);have ip:∀y∈gG xs k,NM y xs[k]! :=fun y hy=>by
     rcases h2 y hy with h3 |h3
     ·rw[h3];exact bw
     ·exact h3.trans bw
    refine⟨?_,fun y hy=> ?_⟩
    ·rw[List.pairwise_append];exact⟨h1,List.pairwise_singleton _ _,fun y hy z hz=>by rw[ai.1 hz];exact ip y hy⟩
    ·rcases ah.1 hy with h3 |h3
     ·exact .inr (ip y h3)
     ·exact .inl (ai.1 h3)
   ·rw[aac (fun h=>h.elim h0 he)];have he:xs[k]! =xs[k-1]! :=Classical.byContradiction he;rw[he];exact⟨h1,h2⟩
theorem Le {x:Int}{v:Nat}(h1: -(v:Int)<=x)(h2:x<=v)(hv:v<=262143):ig x=tv x/\tv x=if x<0 then -x else x:=by
 have :wrap64 (-x)= -x:=by unfold wrap64;omega
 unfold ig tv;rw[this,aac (by omega:¬x= -9223372036854775808)];constructor
 ·split<;>split<;>omega
 ·rfl
theorem wN {l:List Int}{v:Nat}(hr:∀x∈nrm l,-(v:Int)<=x/\x<=v)(hv:v<=262143)(ht:qu (nrm l)=false):((nrm l).map tv).Nodup:=by
 have hs:(nrm l).Pairwise NM:=(uC (by rw[PO];exact rh _) _ (ap _)).1;generalize nrm l=ys at *;have aeW:∀i,i+1<ys.length->tv ys[i]! <tv ys[i+1]! :=fun i hi=>by
  have h1:NM ys[i]! ys[i+1]! :=by rw[mR (by omega),mR (by omega)];exact List.pairwise_iff_getElem.1 hs i (i+1) (by omega) (by omega) (by omega)
  have hx:=hr _ (get_mem (l:=ys) (i:=i) (by omega));have hy:=hr _ (get_mem (l:=ys) (i:=i+1) (by omega));have Tg:mb ys i=false:=by
   unfold qu at ht;cases hq:mb ys i with
   |false=>rfl
   |true=>
    exfalso;have :(List.range (ys.length-1)).any (mb ys)=true:=cq.2 ⟨i,cH.2 (by omega),hq⟩;rw[this]at ht;cases ht
  unfold mb at Tg;generalize ys[i]! =x at *;generalize ys[i+1]! =y at *;have hax:=Le hx.1 hx.2 hv;have hay:=Le hy.1 hy.2 hv;have hw:wrap64 (-y)= -y:=by unfold wrap64;omega
  rw[hw]at Tg;have dS:x≠ -y:=by simpa using Tg
  unfold NM at h1;rw[hax.1,hay.1]at h1;rw[hax.2,hay.2]at h1⊢;split at h1<;>split at h1<;>omega
 have Ke:∀d i,i+d+1<ys.length->tv ys[i]! <tv ys[i+d+1]! :=by
  intro d;induction d with
  |zero=>exact aeW
  |succ d ih=>
   intro i hi;have h1:=ih i (by omega);have h2:=aeW (i+d+1) (by omega);have :i+(d+1)+1=i+d+1+1:=by omega
   rw[this];omega
 unfold List.Nodup;rw[List.pairwise_map,List.pairwise_iff_getElem];intro i j hi hj tM;have :=Ke (j-i-1) i (by omega);rw[show i+(j-i-1)+1=j by omega,mR hi,mR hj]at this;omega
namespace Sv
theorem Inv.bI {S:Sv}(h:S.Inv):S.bI.Inv:=h.congr h.ok.bI rfl rfl (fun _=>rfl) rfl
theorem Inv.cO {S:Sv}(h:S.Inv):S.cO.Inv:=h.congr h.ok.cO rfl rfl (fun _=>rfl) rfl
theorem Inv.ia {S:Sv}(h:S.Inv)(h0:S.T.levels.length=0){out:List Int}(h1:out.length<=1048576)(hl:∀x∈out,x≠0/\ -(S.vars:Int)<=x/\x<=S.vars)(hd:(out.map tv).Nodup)(hv:∀x∈out,S.val x=0)(hr:S.list.length<2199023255552):
  (S.ia out).Inv/\(S.ia out).T.levels.length=0:=by
 unfold Sv.ia;by_cases e0:out.length=0
 ·rw[aae e0];exact⟨h.congr (h.ok.Bm true) rfl rfl (fun _=>rfl) rfl,h0⟩
 ·rw[aac e0];have hm:=get_mem (l:=out) (i:=0) (by omega);by_cases e1:out.length=1
  ·rw[aae e1];have ht:=qt (hl _ hm).1 (hl _ hm).2.1 (hl _ hm).2.2 h.ok.vl;exact⟨(h.put (r:=0) (i9 h.ok ht.1 ht.2 (hv _ hm)) (by omega) (fun h=>absurd rfl h) (fun _=> .inl h0)).1,by rw[dO];exact h0⟩
  ·rw[aac e1];have mz:=get_mem (l:=out) (i:=1) (by omega);obtain⟨k1,k2,k3⟩:=h.attach ⟨by omega,h1,hl⟩ hd false hr;have hs:=cE S out false;refine⟨k1.whole ?_,by rw[hs.1];exact h0⟩;intro dS e he;rw[k2];have heR:e∈S.R:=by have :=List.mem_of_mem_take he;rw[dJ hs.1]at this;exact this
   exact⟨fun hx=>absurd hx (iZ h.ok (hv _ hm) e heR).2,fun hx=>absurd hx (iZ h.ok (hv _ mz) e heR).2⟩
theorem Inv.fT {S:Sv}(h:S.Inv)(h0:S.T.levels.length=0){l:List Int}(mi:Ra l)(hr:S.list.length<2199023255552):(S.fT l).1.Inv/\(S.fT l).1.T.levels.length=0:=by
 unfold Sv.fT;split
 ·rename_i hc;split
  ·exact⟨h.bI,h0⟩
  ·rename_i hs;obtain⟨h1,h2⟩:=pk (S:=S) mi hc;have hs:S.n9 (nrm l)=false:=by simpa using hs
   unfold n9 at hs;rw[dX]at hs;have yH:=pX mi hc;have hd:=wN (l:=l) (v:=S.vars) (fun x hx=>(yH.2 x (lS hx).1).2) h.ok.vl hs.1;refine h.bI.ia h0 (by omega) h2 ?_ (fun x hx=> ?_) hr
   ·unfold leftOf;exact hd.sublist (List.Sublist.map tv (List.filter_sublist))
   ·unfold leftOf at hx;rw[dx]at hx;have h3:¬S.val x<0:=(by simpa using hx.2)
    have h4:¬0<S.val x:=fun h5=>by have :(nrm l).any (fun x=>decide (0<S.val x))=true:=cq.2 ⟨x,hx.1,by simpa using h5⟩;rw[this]at hs;cases hs.2
    show S.val x=0;omega
 ·exact⟨h,h0⟩
theorem AE (S:Sv)(l:List Int):(S.fT l).1.used=S.used/\(S.fT l).1.bump=S.bump/\(S.fT l).1.many=S.many/\(S.fT l).1.bQ=S.bQ/\(S.fT l).1.list.length<=S.list.length+1:=by
 unfold fT;split
 ·split
  ·exact⟨rfl,rfl,rfl,rfl,by show S.list.length<=_;omega⟩
  ·unfold ia;split
   ·exact⟨rfl,rfl,rfl,rfl,by show S.list.length<=_;omega⟩
   ·split
    ·exact⟨rfl,rfl,rfl,rfl,by show S.list.length<=_;omega⟩
    ·refine⟨rfl,rfl,rfl,rfl,?_⟩;have :=(cE S.bI (S.leftOf (nrm l)) false).2.2.1;rw[this];show S.list.length+1<=_;omega
 ·exact⟨rfl,rfl,rfl,rfl,by show S.list.length<=_;omega⟩
theorem Inv.new (vars:Int):(Sv.new vars).Inv/\(Sv.new vars).T.levels.length=0/\(Sv.new vars).many=0/\(Sv.new vars).bQ=400/\(Sv.new vars).list=[]/\(Sv.new vars).used=0/\(Sv.new vars).bump=1:=by
 have ok:=(Sv.Ok.new vars).1;have hR:(Sv.new vars).R=[]:=rfl;have eE:∀n,(Sv.new vars).rc n=⟨[],false,0⟩:=fun n=>nD (bR _);have hw:∀c,(Sv.new vars).fY c=[]:=fun c=>by have :(Sv.new vars).watch=List.replicate 2 []++List.replicate (2*(min (max vars 0) 262143).toNat) []:=rfl;unfold fY;rw[this,List.replicate_append_replicate,ae,List.getElem?_replicate];split<;>rfl
 refine⟨⟨ok,fun n=>by rw[eE];exact List.nodup_nil,fun A e B h1 h2=> ?_,fun A e B h1 h2=> ?_,fun e he=> ?_,⟨fun c=>by rw[hw];exact List.nodup_nil,fun c n hn=> ?_,fun n hl=> ?_⟩,fun n hl=> ?_⟩,rfl,rfl,rfl,rfl,rfl,rfl⟩
 ·rw[hR]at h1;simp at h1
 ·rw[hR]at h1;simp at h1
 ·rw[hR]at he;simp at he
 ·rw[hw]at hn;cases hn
 ·rw[eE]at hl;exact absurd rfl hl
 ·rw[eE]at hl;exact absurd rfl hl
end Sv
theorem AB (met:List Int):∀(us core:List Int),(Sv.hJ met us core).length<=core.length+us.length
 |[],core=>by simp[Sv.hJ]
 |x::r,core=>by
  rw[Sv.hJ];have :=AB met r (if x∈met/\x∉core then core++[x]else core);split at this
  ·simp at this⊢;split<;>simp_all<;>omega
  ·simp at this⊢;split<;>simp_all<;>omega
namespace Sv
theorem AC (level:Int):∀(r:List Int) (S:Sv),(dY level r S).has=S.has/\(dY level r S).model=S.model
 |[],S=>⟨rfl,rfl⟩
 |l::r,S=>by
  rw[dY];split
  ·exact⟨rfl,rfl⟩
  ·exact AC level r _
theorem ye (S:Sv)(level:Nat):(S.back level).has=S.has/\(S.back level).model=S.model:=by
 unfold back;split
 ·exact⟨rfl,rfl⟩
 ·exact AC _ _ _
theorem GJ (S:Sv)(l:List Int):(S.bu l).ch.has=S.has:=by
 unfold bu;split
 ·rfl
 ·rfl
structure Fin (us:List Int)(S:Sv):Prop where
 inv:S.Inv
 model:S.has=true->S.model.length=S.vars+1
 core:S.core.length<=us.length
theorem xZ {S:Sv}{us:List Int}(h:S.Inv)(hf:S.head=S.T.lits.length)(hh:S.has=false)(hc:S.core=[]):Fin us S.choose.1/\(S.choose.2=0->S.choose.1.has=false):=by
 have hI:=(choose_spec h hf).1;have EJ:=(gI S).1;have gZ:S.choose.1.core.length<=us.length:=by rw[EJ,hc];exact bR _
 have hph:∀(f:Nat) (S:Sv),(cQ f S).1.has=S.has:=by
  intro f;induction f with
  |zero=>intro S;rfl
  |succ f ih=>
   intro S;rw[cQ];split
   ·rfl
   ·simp only;split
    ·exact ih _
    ·rfl
 have hp:S.pick.1.has=false:=(hph _ S).trans hh;unfold choose at hI gZ⊢;by_cases h0:S.pick.2=0
 ·rw[aae h0]at hI gZ⊢;exact⟨⟨hI,fun _=>by simp[Sv.keep],gZ⟩,fun h=>by cases h⟩
 ·rw[aac h0]at hI gZ⊢;have e:(S.pick.1.deep.put S.pick.2 0).has=false:=hp;exact⟨⟨hI,fun h=>by have h:(S.pick.1.deep.put S.pick.2 0).has=true:=h;rw[e]at h;exact Bool.noConfusion h,gZ⟩,fun _=>e⟩
theorem uB {us:List Int}:∀(f:Nat) (S:Sv),S.Inv->S.head=S.T.lits.length->(∀x∈us,x≠0/\ -(S.vars:Int)<=x/\x<=S.vars)->S.has=false->S.core=[]->Fin us (bz us f S).1/\((bz us f S).2=0->(bz us f S).1.has=false)
 |0,S,h,hf,hu,hh,hc=>xZ h hf hh hc
 |f+1,S,h,hf,hu,hh,hc=>by
  rw[bz];split
  ·rename_i hd;have ha:=hu _ (get_mem (l:=us) hd);simp only;split
   ·refine⟨⟨h.congr (h.ok.pJ _) rfl rfl (fun _=>rfl) rfl,fun h=> ?_,?_⟩,fun h=>by cases h⟩
    ·have h:S.has=true:=h;rw[hh]at h;cases h
    ·show(hJ _ us S.core).length<=us.length;have :=AB (S.dL S.T.lits.reverse [tv us[S.T.levels.length]!] [us[S.T.levels.length]!]) us S.core;rw[hc]at this⊢;simpa using this
   ·split
    ·rename_i h1 h2;obtain⟨k1,k2⟩:=h.choice hf ha.1 ha.2.1 ha.2.2 h2;exact⟨⟨k1,fun h=>by have h:S.has=true:=h;rw[hh]at h;exact Bool.noConfusion h,by show S.core.length<=_;rw[hc];exact bR _⟩,fun _=>hh⟩
    ·exact uB f S.deep (h.deep hf) hf hu hh hc
  ·exact xZ h hf hh hc
theorem Dz {S:Sv}(h:S.Inv)(hf:S.head=S.T.lits.length)(n next :Nat):(S.dt n next).Inv/\(S.dt n next).head=(S.dt n next).T.lits.length:=by
 unfold Sv.dt;split
 ·refine⟨h.back 0,?_⟩;by_cases hl:0<S.T.levels.length
  ·obtain⟨b1,b2,b3,b4,B,b5,b6,b7⟩:=fS h.ok hl;have h1:(S.back 0).R.length<=S.R.length:=by rw[b5];simp
   have h2:=jn S;have h3:=jn (S.back 0);rw[b4];omega
  ·have :S.back 0=S:=by unfold Sv.back;rw[aae (by omega)]
   rw[this];exact hf
 ·exact⟨h,hf⟩
def mu (S:Sv)(next n:Nat):Nat:=S.vars-S.T.lits.length+(if next <=n then S.vars+2 else 0)
end Sv
structure Ls where
 A:Option Addr
 c:Nat
 l:List Int
instance:Inhabited Ls:=⟨⟨none,0,[]⟩⟩
def Ls.val (h:Ls):Value:= .slice h.A h.l.length h.c
def zy (w:World)(h:Ls):Prop:=Rd w h.A h.l/\Ra h.l/\h.l.length<=17592186044416/\(h.A=none->h.l.length=0/\h.c=0)
theorem zy.keep {w w':World}{h:Ls}(k:zy w h)(hf:Fr [] w w'):zy w' h:=⟨k.1.keep hf,k.2⟩
def j3 (w:World)(A:Option Addr)(hs:List Ls):Prop:=(0<hs.length->∃b o,A=some ⟨b,o,none⟩/\∀j:Nat,j<hs.length->w.cell? ⟨b,o+j,none⟩=some (hs[j]!).val)/\∀j:Nat,j<hs.length->zy w hs[j]!
theorem j3.keep {w w':World}{A:Option Addr}{hs:List Ls}(k:j3 w A hs)(hf:Fr [] w w'):j3 w' A hs:=by refine⟨fun h0=> ?_,fun j hj=>(k.2 j hj).keep hf⟩;obtain⟨b,o,hA,hx⟩:=k.1 h0;exact⟨b,o,hA,fun j hj=>hf.aN (hx j hj)⟩
theorem j3.one {w:World}{A:Option Addr}{hs:List Ls}(k:j3 w A hs){j:Nat}(hj:j<hs.length):∃b o B d l,A=some ⟨b,o,none⟩/\Hid (hs[j]! =⟨B,d,l⟩)/\w.cell? ⟨b,o+j,none⟩=some (.slice B l.length d)/\zy w ⟨B,d,l⟩:=by obtain⟨b,o,hA,hx⟩:=k.1 (by omega);exact⟨b,o,_,_,_,hA,rfl,hx j hj,k.2 j hj⟩
theorem GG {hs:List Ls}{k:Nat}(h:k<hs.length):(hs.map (·.l)).drop k=(hs[k]!).l::(hs.map (·.l)).drop (k+1):=by rw[List.drop_eq_getElem_cons (by simpa using h),List.getElem_map];simp only[ae,af h,ay]
theorem NH (S:Sv)(l:List Int):(S.fT l).2=ft S.vars l:=by
 unfold Sv.fT;split
 ·rename_i h;exact h.symm
 ·rfl
theorem Own.old {w w1 w2:World}{L:aO}{S:Sv}(h:Own w1 w2 L S)(hf:Fr [] w w1):Own w w2 L S:=
 ⟨h.sv,fun k hk=>h.nw k (aK hk hf.size),hf.ag h.fr⟩
structure OwnX (X:List Nat)(w0 w:World)(L:aO)(S:Sv):Prop where
 own:Own w0 w L S
 fx:∀k∈X,k<w.heap.size/\(L.cY k).1≠L.id
def Stay (X:List Nat)(w w':World):Prop:=∃T,Fr T w w'/\∀k∈X,k∉T
namespace Stay
variable {X:List Nat} {w w' w2:World}
theorem of (h:Fr [] w w'):Stay X w w':=⟨[],h,fun _ _ hm=>by cases hm⟩
theorem size (h:Stay X w w'):w.heap.size<=w'.heap.size:=by obtain⟨T,h1,_⟩:=h;exact h1.size
theorem at_ (h:Stay X w w'){g:Nat}{t:TypeId}{cs:Array Value}(hg:At w g t cs)(hx:g∈X):At w' g t cs:=by obtain⟨T,h1,h2⟩:=h;exact h1.at_ hg (h2 g hx)
theorem rd (h:Stay X w w'){A:Option Addr}{xs:List Int}(hr:Rd w A xs)(hx:∀k,k∈ak A->k∈X):Rd w' A xs:=by obtain⟨T,h1,h2⟩:=h;intro h0;obtain⟨b,o,rfl,h3⟩:=hr h0;refine⟨b,o,rfl,fun j hj=> ?_⟩;have h4:=h3 j hj;rw[World.cell?_of_block (h1.block b (bM h4) (h2 b (hx b (by simp[ak]))))];exact h4
theorem less (h:Stay X w w'){Y:List Nat}(hY:∀k∈Y,k∈X):Stay Y w w':=by obtain⟨T,h1,h2⟩:=h;exact⟨T,h1,fun k hk=>h2 k (hY k hk)⟩
theorem ag (h:Stay X w w')(h':Stay X w' w2)(hX:∀k∈X,k<w.heap.size):Stay X w w2:=by
 obtain⟨T,h1,h2⟩:=h;obtain⟨T',h3,h4⟩:=h';refine⟨T++T',⟨h3.os.trans h1.os,h3.tape.trans h1.tape,h3.output.trans h1.output,aE h1.size h3.size,fun k hk hm=> ?_⟩,fun k hk hm=> ?_⟩
 ·simp only[ah,not_or]at hm;exact(h3.block k (aK hk h1.size) hm.2).trans (h1.block k hk hm.1)
 ·rcases ah.1 hm with h5 |h5
  ·exact h2 k hk h5
  ·exact h4 k hk h5
end Stay
def OxP (X:List Nat)(v:Value)(S':Sv)(a:Nat)(w0 w:World)(e:Ending)(w':World):Prop:=e= .returned v/\∃L',L'.a=a/\OwnX X w0 w' L' S'/\Stay X w w'
namespace OwnX
variable {X:List Nat} {w0 w w':World} {L L':aO} {S S':Sv}
theorem next (h:OwnX X w0 w L S)(h':aX w' L' S')(he:L.ext L' w)(hf:Fr (L.own w) w w'):OwnX X w0 w' L' S'/\Stay X w w':=
 ⟨⟨h.own.next h' he hf,fun k hk=>⟨aK (h.fx k hk).1 hf.size,fun e=>(h.fx k hk).2 (he.2.2 k (h.fx k hk).1 (e.trans he.2.1))⟩⟩,
  ⟨L.own w,hf,fun k hk hm=>(h.fx k hk).2 (aO.bT.1 hm).2⟩⟩
theorem of {v:Value}{e:Ending}(h:OwnX X w0 w L S)(k:pz v S' L w e w'):OxP X v S' L.a w0 w e w':=by obtain⟨rfl,L',h1,h2,h3⟩:=k;obtain⟨h4,h5⟩:=h.next h1 h2 h3;exact⟨rfl,L',h2.1,h4,h5⟩
theorem keep (h:OwnX X w0 w L S)(hf:Fr [] w w'):OwnX X w0 w' L S:=⟨h.own.keep hf,fun k hk=>⟨aK (h.fx k hk).1 hf.size,(h.fx k hk).2⟩⟩
theorem more (h:OwnX X w0 w L S)(hf:Fr [] w w'){Y:List Nat}(hY:∀k∈Y,w.heap.size<=k/\k<w'.heap.size):OwnX (X++Y) w0 w' (L.shut w) S:=
 ⟨h.own.shut.keep hf,fun k hk=>by
  rcases ah.1 hk with h1 |h1
  ·exact⟨aK (h.fx k h1).1 hf.size,by rw[aO.ww (h.fx k h1).1];exact(h.fx k h1).2⟩
  ·exact⟨(hY k h1).2,aO.jR (hY k h1).1⟩⟩
theorem less {Y:List Nat}(h:OwnX X w0 w L S)(hY:∀k∈Y,k∈X):OwnX Y w0 w L S:=⟨h.own,fun k hk=>h.fx k (hY k hk)⟩
theorem B7 (h:OwnX X w0 w L S){A:Option Addr}{xs:List Int}(hr:Rd w A xs)(hx:∀k,k∈ak A->k∈X):CU w L A xs:=⟨hr,fun _ k hk=>(h.fx k (hx k hk)).2⟩
theorem add (h:OwnX X w0 w L S)(ok:S.Ok 0)(A:Option Addr)(c:Nat)(l:List Int)(ta:CU w L A l)(mi:Ra l)(hn:A=none->c=0)(hr:S.list.length<2199023255552)(hu:S.used<=2199023255552):
  Calls Tryz.prog 41 #[.pointer (some ⟨L.a,0,none⟩), .slice A l.length c] w (OxP X (.int .i64 (S.fT l).2) (S.fT l).1 L.a w0 w):=
 (NG w L S h.own.sv ok A c l ta mi hn hr hu).mono fun _ _ k=>h.of k
theorem solve (h:OwnX X w0 w L S)(red:Bool)(rC:red=true->I7)(ok:S.Ok 0)(A:Option Addr)(c:Nat)(us:List Int)(ta:CU w L A us)(mi:Ra us)(oy:us.length<=c)(zc:us.length<=1099511627776)(budget:Int)(D C:Nat)(Q:Sv->Int->Prop)(Am:S.used<4611686018427387904)(hW:S.me red budget us D C Q):
  Calls Tryz.prog 74 #[.pointer (some ⟨L.a,0,none⟩), .int .i64 budget, .slice A us.length c] w fun e w'=>∃(S':Sv) (r:Int),Q S' r/\S'.Ok 0/\OxP X (.int .i64 r) S' L.a w0 w e w':=
 (Dq red rC w L S h.own.sv ok A c us ta mi oy zc budget D C Q Am hW).mono fun _ _ ⟨S',r,hq,ho,k⟩=>⟨S',r,hq,ho,h.of k⟩
end OwnX
theorem Own.mark {w0 w w':World}{L:aO}{S:Sv}(h:Own w0 w L S)(hf:Fr [] w w'){Y:List Nat}(hY:∀k∈Y,w.heap.size<=k/\k<w'.heap.size):OwnX Y w0 w' (L.shut w) S:=
 (OwnX.mk (X:=[]) h (fun k hk=>by cases hk)).more hf hY
def Fk (A:Option Addr)(c:Nat)(xs cT:List Int)(w:World)(e:Ending)(w':World):Prop:=e= .returned (.tuple #[])/\∃ys:List Int,ys.Perm xs/\Ints w' A c ys/\Fr (ak A) w w'/\ys=cT
theorem Ints.swap {w:World}{g c:Nat}{xs:List Int}(h:Ints w (some ⟨g,0,none⟩) c xs)(i j:Nat):Ints ((w.setCell ⟨g,i,none⟩ (.int .i64 xs[j]!)).setCell ⟨g,j,none⟩ (.int .i64 xs[i]!)).drew (some ⟨g,0,none⟩) c (cS xs i j):=((h.eu i xs[j]!).eu j xs[i]!).drew
theorem Fr.swap (w:World)(g:Nat)(i j:Nat)(u v:Value):Fr (ak (some ⟨g,0,none⟩)) w ((w.setCell ⟨g,i,none⟩ u).setCell ⟨g,j,none⟩ v).drew:=(((Fr.refl [g] w).setCell (.inl (by simp)) _).setCell (.inl (by simp)) _).drew
theorem j8 (w:World)(A:Option Addr)(c:Nat)(xs:List Int)(h:Ints w A c xs)(hl:xs.length<=17592186044416)(a b n:Nat)(hab:a<b)(u5:b+n<=xs.length)(g:Nat)(cb:Array Value):
  Calls Tryz.prog 224 #[.slice A xs.length c, .int .i64 a, .int .i64 b, .int .i64 n, .func (.func g) #[] cb] w (Fk A c xs (nq a b n 0 xs) w):=by
 obtain⟨cT,de⟩:∃cT,nq a b n 0 xs=cT:=⟨_,rfl⟩
 rw[de];have dM:=aa de;clear de;have HH:=aa h;clear h;go_enter Tryz.func224,Tryz.ntmps224;go_wp2_with fail;go_loopg [10] n (fun g x wr=>∃(k:Nat) (ys:List Int),k+g=n/\x= .int .i64 k/\Hid (ys.Perm xs)/\Hid (Ints wr A c ys)/\Hid (Fr (ak A) w wr)/\Hid (nq a b (n-k) k ys=cT));case atStart=>exact⟨0,xs,by omega,rfl,dy _,HH.out,Fr.refl _ _,dM.out⟩
 case round=>
  obtain⟨k,ys,hk,rfl,HP,HI,HF,HE⟩:=hrel;have HK:=aa hk;have jg:k<=n:=by omega
  have hlen:=HP.out.length_eq;clear hk;by_cases bw:k<n
  ·obtain⟨p,hp⟩:∃p,a+k=p:=⟨_,rfl⟩
   obtain⟨q,hq⟩:∃q,b+k=q:=⟨_,rfl⟩
   have Ln:Hid (nq a b (n-(k+1)) (k+1) (cS ys p q)=cT):=by have :=HE.out;rw[Lz bw,hp,hq]at this;exact this
   have Ap:p<ys.length:=by omega
   have hql:q<ys.length:=by omega
   obtain⟨gb,hA,uy⟩:=HI.out.pos Ap;subst hA;have c1:=HI.out.cell Ap;have c2:=HI.out.cell hql;have f1:=HI.out.frozen p;have f2:=HI.out.frozen q;have dS:¬p=q:=by omega
   have w1:IntKind.i64.wrap ((a:Int)+(k:Int))=(p:Int):=by rw[IntWalk.i64_in _ (by omega)];omega
   have w2:IntKind.i64.wrap ((b:Int)+(k:Int))=(q:Int):=by rw[IntWalk.i64_in _ (by omega)];omega
   have hpx:(p:Int)<(xs.length:Int):=by omega
   have hqx:(q:Int)<(xs.length:Int):=by omega
   have HL:=aa hlen;have Ll:=aa bw;have Yb:Hid (cS ys p q |>.Perm xs):=(gR Ap hql).trans HP.out;have FT:=aa (HI.out.swap p q);have oz:=aa (HF.out.ag (Fr.swap wr gb p q (.int .i64 ys[q]!) (.int .i64 ys[p]!)));obtain⟨u,hu⟩:∃u,ys[p]! =u:=⟨_,rfl⟩
   obtain⟨v,hv⟩:∃v,ys[q]! =v:=⟨_,rfl⟩
   rw[hu]at c1 FT oz;rw[hv]at c2 FT oz;clear hlen Ap hql hu hv hp hq HI HF HP HE;go_wp2_with fail;go_region;clear c1 c2 f1 f2;go_wp2_with fail;go_roundg (gk-1);case measure=>have :=HK.out;omega
   case rel=>exact⟨k+1,cS ys p q,by have :=HK.out;omega,by go_num,Yb.out,FT.out,oz.out,Ln.out⟩
  ·obtain rfl :k=n:=by omega
   have FF:Hid (Fk A c xs cT w (.returned (.tuple #[])) wr):=⟨rfl,ys,HP.out,HI.out,HF.out,by have :=HE.out;rw[Pd]at this;exact this⟩
   go_wp2_with fail;go_end0;exact FF.out
def zK (g:Nat)(cb:Array Value)(q:Int->Int->Int)(A:Option Addr)(xs:List Int)(w:World):Prop:=
 ∀W,Fr (ak A) w W->∀x∈xs,∀y∈xs,Calls Tryz.prog g (#[.int .i64 x, .int .i64 y]++cb) W fun e W'=>e= .returned (.int .i64 (q x y))/\Fr [] W W'
theorem zK.ag {g:Nat}{cb:Array Value}{q:Int->Int->Int}{A:Option Addr}{xs ys:List Int}{w w':World}(h:zK g cb q A xs w)(hf:Fr (ak A) w w')(hp:ys.Perm xs):zK g cb q A ys w':=
 fun W hW x hx y hy=>h W (hf.ag hW) x (hp.mem_iff.1 hx) y (hp.mem_iff.1 hy)
theorem uT (w:World)(A:Option Addr)(c:Nat)(xs:List Int)(h:Ints w A c xs)(hl:xs.length<=17592186044416)(a b:Nat)(hab:a<=b)(u5:b<=xs.length)(g:Nat)(cb:Array Value)(q:Int->Int->Int)(eg:∀args w,(callFunc g args).run Tryz.prog w= .ok (.enter g args) w)(hc:zK g cb q A xs w):
  Calls Tryz.prog 178 #[.slice A xs.length c, .int .i64 a, .int .i64 b, .func (.func g) #[] cb] w (Fk A c xs (po q a (b-(a+1)) (a+1) xs) w):=by
 obtain⟨cT,de⟩:∃cT,po q a (b-(a+1)) (a+1) xs=cT:=⟨_,rfl⟩
 rw[de];have dM:=aa de;clear de;have HH:=aa h;have HC:=aa hc;clear h hc;have w0:IntKind.i64.wrap ((a:Int)+1)=(a:Int)+1:=IntWalk.i64_in _ (by omega);go_enter Tryz.func178,Tryz.ntmps178;go_wp2_with fail;clear w0;go_loopg [8] (b-a) (fun g x wr=>∃(i:Nat) (ys:List Int),b<=i+g/\a+1<=i/\x= .int .i64 i/\Hid (ys.Perm xs)/\Hid (Ints wr A c ys)/\Hid (Fr (ak A) w wr)/\Hid (po q a (b-i) i ys=cT));case atStart=>exact⟨a+1,xs,by omega,by omega,by go_num,dy _,HH.out,Fr.refl _ _,dM.out⟩
 case round=>
  obtain⟨i,ys,hi,hai,rfl,HP,HI,HF,HE⟩:=hrel;have HK:=aa hi;clear hi;by_cases bw:i<b
  ·obtain⟨NK,hZ⟩:∃Z,tI q a i ys=Z:=⟨_,rfl⟩
   have Ln:Hid (po q a (b-(i+1)) (i+1) NK=cT):=by have :=HE.out;rw[Mi bw,hZ]at this;exact this
   have HZ:=aa hZ;clear hZ HE;go_wp2_with fail;go_loopg [9] (i-a) (fun g x wr=>∃(j:Nat) (ys:List Int),j=a+g/\j<=i/\x= .int .i64 j/\Hid (ys.Perm xs)/\Hid (Ints wr A c ys)/\Hid (Fr (ak A) w wr)/\Hid (tI q a j ys=NK));case atStart=>exact⟨i,ys,by omega,by omega,rfl,HP.out,HI.out,HF.out,HZ.out⟩
   case round=>
    obtain⟨j,zs,hj,rG,rfl,CG,nZ,cw,dn⟩:=hrel;have HJ:=aa hj;clear hj HP HI HF HZ;have wi:IntKind.i64.wrap ((i:Int)+1)=(i:Int)+1:=IntWalk.i64_in _ (by omega);by_cases hja:a<j
    ·have hlen:=CG.out.length_eq;obtain⟨p,hp⟩:∃p,j-1=p:=⟨_,rfl⟩
     have Ap:p<zs.length:=(by omega)
     have M1:j<zs.length:=(by omega)
     obtain⟨gb,hA,uy⟩:=nZ.out.pos Ap;subst hA;have c1:=nZ.out.cell Ap;have c2:=nZ.out.cell M1;have m1:=a8 Ap;have m2:=a8 M1;have wj:IntKind.i64.wrap ((j:Int)-1)=(p:Int):=by rw[IntWalk.i64_in _ (by omega)];omega
     have hpx:(p:Int)<(xs.length:Int):=(by omega)
     have hjx:(j:Int)<(xs.length:Int):=(by omega)
     have dS:¬j=p:=(by omega)
     have hpj:p<=i:=(by omega)
     have Yb:Hid ((cS zs j p).Perm xs):=(gR M1 Ap).trans CG.out;have HPJ:Hid (p=a+(gk-1)):=by have :=HJ.out;show _=_;omega
     have HEY:Hid (q zs[j]! zs[p]! <0->tI q a p (cS zs j p)=NK):=fun h=>by rw[<-dn.out,P5 hp hja h]
     have HEN:Hid (¬q zs[j]! zs[p]! <0->zs=NK):=fun h=>by rw[<-dn.out,Us hp hja h]
     have FT:=aa (fun W (hW:Fr [] wr W)=>(nZ.out.fD hW).swap j p);have oz:=aa (fun W (hW:Fr [] wr W)=>(cw.out.ag (hW.mono (fun k hk=>by cases hk))).ag (Fr.swap W gb j p (.int .i64 zs[p]!) (.int .i64 zs[j]!)));have HKC:=aa (fun u:Ext wr=>HC.out u.v (cw.out.ag (u.fr.mono (fun k hk=>by cases hk))) _ (CG.out.mem_iff.1 m2) _ (CG.out.mem_iff.1 m1));obtain⟨x,hx⟩:∃x,zs[j]! =x:=⟨_,rfl⟩
     obtain⟨y,hy⟩:∃y,zs[p]! =y:=⟨_,rfl⟩
     rw[hx]at c2 FT oz HKC HEY HEN;rw[hy]at c1 FT oz HKC HEY HEN;obtain⟨r,hr⟩:∃r,q x y=r:=⟨_,rfl⟩
     rw[hr]at HKC HEY HEN;have e1:=Ext.cell c1;have e2:=Ext.cell c2;clear hr hx hy m1 m2 hlen Ap M1 hp;have hjj:(a:Int)<(j:Int):=(by omega)
     have hdj:decide ((a:Int)<(j:Int))=true:=aai hjj;by_cases kp:r<0
     ·have hd:decide (r<0)=true:=aai kp;have Fy:=aa (HEY.out kp);clear HEY HEN;go_wp2_with fail;refine au (by kernel_rfl) (by kernel_rfl) ?_;repeat (go_big_quiet_step (exact bX (HKC.out _)))
      refine aak ?_;rintro w2 ⟨u2,b8⟩;have bj:Hid (Fr [] wr w2):=b8▸u2.fr;clear b8 u2;clear e1 e2;have c1:=bj.out.aN c1;have c2:=bj.out.aN c2;have f1:=(nZ.out.fD bj.out).frozen p;have f2:=(nZ.out.fD bj.out).frozen j;go_wp2_with fail;go_region;clear c1 c2 f1 f2;go_wp2_with fail;go_roundg (gk-1);case measure=>have :=HJ.out;omega
      case rel=>exact⟨p,cS zs j p,HPJ.out,hpj,by go_num,Yb.out,FT.out _ bj.out,oz.out _ bj.out,Fy.out⟩
     ·have Zq:0<=r:=(by omega)
      have hd:decide (r<0)=false:=aah kp;have Fy:=aa (HEN.out kp);clear HEY HEN;have Sx:=aa (fun W (hW:Fr [] wr W)=>nZ.out.fD hW);have oo:=aa (fun W (hW:Fr [] wr W)=>cw.out.ag (hW.mono (fun k hk=>by cases hk)));clear FT oz Yb;go_wp2_with fail;refine au (by kernel_rfl) (by kernel_rfl) ?_;repeat (go_big_quiet_step (exact bX (HKC.out _)))
      refine aak ?_;rintro w2 ⟨u2,b8⟩;have bj:Hid (Fr [] wr w2):=b8▸u2.fr;clear b8 u2;clear e1 e2 c1 c2;go_wp2_with fail;go_roundg (b-(i+1));case measure=>have :=HK.out;omega
      case rel=>exact⟨i+1,zs,by omega,by omega,by go_num,CG.out,Sx.out _ bj.out,oo.out _ bj.out,by rw[Fy.out];exact Ln.out⟩
    ·have hjj:(j:Int)<=(a:Int):=(by omega)
     have hdj:decide ((a:Int)<(j:Int))=false:=aah (by omega);have Fy:Hid (zs=NK):=(by rw[<-dn.out,P6 hja]:zs=NK)
     go_wp2_with fail;refine au (by kernel_rfl) (by kernel_rfl) ?_;repeat (go_big_quiet_step (fail))
     refine aak ?_;rintro w2 ⟨u2,b8⟩;have bj:Hid (Fr [] wr w2):=b8▸u2.fr;clear b8 u2;go_wp2_with fail;go_roundg (b-(i+1));case measure=>have :=HK.out;omega
     case rel=>exact⟨i+1,zs,by omega,by omega,by go_num,CG.out,nZ.out.fD bj.out,cw.out.ag (bj.out.mono (fun k hk=>by cases hk)),by rw[Fy.out];exact Ln.out⟩
  ·have FF:Hid (Fk A c xs cT w (.returned (.tuple #[])) wr):=⟨rfl,ys,HP.out,HI.out,HF.out,by have :=HE.out;rw[P7 bw]at this;exact this⟩
   go_wp2_with fail;go_end0;exact FF.out
theorem Bs (w:World)(A:Option Addr)(c:Nat)(xs:List Int)(h:Ints w A c xs)(hl:xs.length<=17592186044416)(a m b:Nat)(ss:a<m)(Ot:m<b)(u5:b<=xs.length)(g:Nat)(cb:Array Value):
  Calls Tryz.prog 223 #[.slice A xs.length c, .int .i64 a, .int .i64 m, .int .i64 b, .func (.func g) #[] cb] w (Fk A c xs (oq m (b-a) (m-a) (b-m) xs) w):=by
 obtain⟨cT,de⟩:∃cT,oq m (b-a) (m-a) (b-m) xs=cT:=⟨_,rfl⟩
 rw[de];have HH:=aa h;clear h;obtain⟨i0,Vr⟩:∃i0,m-a=i0:=⟨_,rfl⟩
 obtain⟨j0,oK⟩:∃j0,b-m=j0:=⟨_,rfl⟩
 rw[Vr,oK]at de;have dM:=aa de;clear de;have w0:IntKind.i64.wrap ((m:Int)-(a:Int))=(i0:Int):=by rw[IntWalk.i64_in _ (by omega)];omega
 have w1:IntKind.i64.wrap ((b:Int)-(m:Int))=(j0:Int):=by rw[IntWalk.i64_in _ (by omega)];omega
 go_enter Tryz.func223,Tryz.ntmps223;go_wp2_with fail;clear w0 w1;go_loopg [10,11] (i0+j0) (fun g OX Lr wr=>∃(i j:Nat) (ys:List Int),i+j=g/\0<i/\0<j/\i<=m-a/\j<=b-m/\OX= .int .i64 i/\Lr= .int .i64 j/\Hid (ys.Perm xs)/\Hid (Ints wr A c ys)/\Hid (Fr (ak A) w wr)/\Hid (∃f,i+j<=f/\oq m f i j ys=cT));case atStart=>exact⟨i0,j0,xs,rfl,by omega,by omega,by omega,by omega,rfl,rfl,dy _,HH.out,Fr.refl _ _,⟨b-a,by omega,dM.out⟩⟩
 case round=>
  obtain⟨i,j,ys,hg,hi,hj,hia,hjb,rfl,rfl,HP,HI,HF,HE⟩:=hrel;have HG:=aa hg;have hlen:=HP.out.length_eq;clear hg Vr oK;obtain⟨p,hp⟩:∃p,m-i=p:=⟨_,rfl⟩
  have w1:IntKind.i64.wrap ((m:Int)-(i:Int))=(p:Int):=by rw[IntWalk.i64_in _ (by omega)];omega
  rcases Nat.lt_trichotomy i j with tM |tM |tM
  ·obtain⟨q,hq⟩:∃q,m+j=q:=⟨_,rfl⟩
   obtain⟨r,hr⟩:∃r,q-i=r:=⟨_,rfl⟩
   obtain⟨j1,hj1⟩:∃j1,j-i=j1:=⟨_,rfl⟩
   have w2:IntKind.i64.wrap ((m:Int)+(j:Int))=(q:Int):=by rw[IntWalk.i64_in _ (by omega)];omega
   have w3:IntKind.i64.wrap ((q:Int)-(i:Int))=(r:Int):=by rw[IntWalk.i64_in _ (by omega)];omega
   have w4:IntKind.i64.wrap ((j:Int)-(i:Int))=(j1:Int):=by rw[IntWalk.i64_in _ (by omega)];omega
   have KS:=aa (j8 wr A c ys HI.out (by omega) p r i (by omega) (by omega) g cb);rw[hlen]at KS;have Ln:Hid (∃f,i+j1<=f/\oq m f i j1 (nq p r i 0 ys)=cT):=by obtain⟨f,h1,h2⟩:=HE.out;rw[TQ (by omega) tM,hp,hj1,hq,hr]at h2;exact⟨f-1,by omega,h2⟩
   have dS:¬(i:Int)=(j:Int):=by omega
   have hle:(i:Int)<=(j:Int):=by omega
   have HJ:Hid (0<j1/\j1<=b-m/\i+j1<gk):=⟨by omega,by omega,by have :=HG.out;omega⟩
   clear hlen hp hq hr hj1 HI HE;go_wp2_with fail;refine KS.out.mono ?_;clear KS;rintro e w2 ⟨rfl,zs,z1,z2,z3,rfl⟩;have CG:=aa (z1.trans HP.out);have nZ:=aa z2;have cw:=aa (HF.out.ag z3);clear z1 z2 z3 HP HF;go_wp2_with fail;go_roundg (i+j1);case measure=>have :=HJ.out;omega
   case rel=>exact⟨i,j1,_,rfl,hi,HJ.out.1,hia,HJ.out.2.1,rfl,rfl,CG.out,nZ.out,cw.out,Ln.out⟩
  ·subst tM;have KS:=aa (j8 wr A c ys HI.out (by omega) p m i (by omega) (by omega) g cb);rw[hlen]at KS;have Ln:Hid (nq p m i 0 ys=cT):=by obtain⟨f,h1,h2⟩:=HE.out;rw[TS (by omega),hp]at h2;exact h2
   clear hlen hp HI HE;go_wp2_with fail;refine KS.out.mono ?_;clear KS;rintro e w2 ⟨rfl,zs,z1,z2,z3,rfl⟩;have FF:Hid (Fk A c xs cT w (.returned (.tuple #[])) w2):=⟨rfl,_,z1.trans HP.out,z2,HF.out.ag z3,Ln.out⟩
   clear z1 z2 z3 HP HF;go_wp2_with fail;go_end0;exact FF.out
  ·obtain⟨i1,Ie⟩:∃i1,i-j=i1:=⟨_,rfl⟩
   have w4:IntKind.i64.wrap ((i:Int)-(j:Int))=(i1:Int):=by rw[IntWalk.i64_in _ (by omega)];omega
   have KS:=aa (j8 wr A c ys HI.out (by omega) p m j (by omega) (by omega) g cb);rw[hlen]at KS;have Ln:Hid (∃f,i1+j<=f/\oq m f i1 j (nq p m j 0 ys)=cT):=by obtain⟨f,h1,h2⟩:=HE.out;rw[TR (by omega) tM,hp,Ie]at h2;exact⟨f-1,by omega,h2⟩
   have dS:¬(i:Int)=(j:Int):=by omega
   have hle:(j:Int)<(i:Int):=by omega
   have HJ:Hid (0<i1/\i1<=m-a/\i1+j<gk):=⟨by omega,by omega,by have :=HG.out;omega⟩
   clear hlen hp Ie HI HE;go_wp2_with fail;refine KS.out.mono ?_;clear KS;rintro e w2 ⟨rfl,zs,z1,z2,z3,rfl⟩;have CG:=aa (z1.trans HP.out);have nZ:=aa z2;have cw:=aa (HF.out.ag z3);clear z1 z2 z3 HP HF;go_wp2_with fail;go_roundg (i1+j);case measure=>have :=HJ.out;omega
   case rel=>exact⟨i1,j,_,rfl,HJ.out.1,hj,HJ.out.2.1,hjb,rfl,rfl,CG.out,nZ.out,cw.out,Ln.out⟩
def Ym (w:World)(g:Nat)(cb:Array Value)(p:List Int->Bool)(hs:List Ls):Prop:=∀W,Fr [] w W->∀h,h∈hs->zy W h->
 Calls Tryz.prog g (#[h.val]++cb) W fun e w'=>e= .returned (.bool (p h.l))/\Fr [] W w'
theorem D4 (w:World)(A:Option Addr)(c:Nat)(hs:List Ls)(g:Nat)(cb:Array Value)(p:List Int->Bool)(eg:∀args w,(callFunc g args).run Tryz.prog w= .ok (.enter g args) w)(h:j3 w A hs)(hl:hs.length<=17592186044416)(hp:Ym w g cb p hs):
  Calls Tryz.prog 51 #[.slice A hs.length c, .func (.func g) #[] cb] w (zA (hs.any fun h=>p h.l) w):=by
 have HH:=aa h;have HP:=aa hp;have oh:Hid (∀(n:Nat) W,n<=17592186044416->(hs.any fun h=>p h.l)=true->Fr [] w W->zA (hs.any fun h=>p h.l) w (.returned (.int .i64 (n:Int))) W):=fun n W h1 h2 h3=>⟨n,rfl,by omega,by omega,by rw[h2];exact aai (by omega),h3⟩
 have NO:Hid (∀W,(hs.any fun h=>p h.l)=false->Fr [] w W->zA (hs.any fun h=>p h.l) w (.returned (.int .i64 (-1))) W):=fun W h2 h3=>⟨-1,rfl,by omega,by omega,by rw[h2];rfl,h3⟩
 clear h hp;go_enter Tryz.func51,Tryz.ntmps51;go_wp2_with fail;go_loopg [8] hs.length (fun g i wr=>∃k:Nat,k+g=hs.length/\i= .int .i64 k/\Fr [] w wr/\dF hs (fun h=>p h.l) k);case atStart=>exact⟨0,by omega,rfl,Fr.refl _ _,dF.zero _ _⟩
 case round=>
  obtain⟨k,hk,rfl,hx,hn⟩:=hrel;have HK:=aa hk;have HX:=aa hx;have HN:=aa hn;have jg:k<=hs.length:=by omega
  clear hk hx hn;by_cases bw:k<hs.length
  ·obtain⟨b,o,B,d,l,hA,he,cx,ok⟩:=(HH.out.keep HX.out).one bw;subst hA;obtain⟨q,HQ⟩:∃q,Hid (p l=q):=⟨_,rfl⟩
   have KC:=HP.out wr HX.out ⟨B,d,l⟩ (by rw[<-he.out];exact a8 bw) ok;have HC:Hid (Calls Tryz.prog g (#[.slice B l.length d]++cb) wr fun e w'=>e= .returned (.bool (p l))/\Fr [] wr w'):=KC;clear ok KC;go_wp2_with fail;refine HC.out.mono ?_;rw[HQ.out];rintro e w2 ⟨rfl,hf⟩;have HF:=aa (HX.out.ag hf);clear hf;cases q with
   |true=>
    go_wp2_with fail;go_ret;exact oh.out k _ (by omega) (kM _ _ k bw (by rw[he.out];exact HQ.out)) HF.out
   |false=>
    go_wp2_with fail;go_roundg (gk-1);case measure=>have :=HK.out;omega
    case rel=>exact⟨k+1,by have :=HK.out;omega,by go_num,HF.out,HN.out.step (by rw[he.out];exact HQ.out)⟩
  ·have HT:=aa (HN.out.all bw);clear HN HK;go_wp2_with fail;go_ret;exact NO.out _ HT.out HX.out
theorem lu (w:World)(A:Option Addr)(c:Nat)(hs:List Ls)(g:Nat)(cb:Array Value)(p:List Int->Bool)(eg:∀args w,(callFunc g args).run Tryz.prog w= .ok (.enter g args) w)(h:j3 w A hs)(hl:hs.length<=17592186044416)(hp:Ym w g cb p hs):
  Calls Tryz.prog 24 #[.slice A hs.length c, .func (.func g) #[] cb] w fun e w'=>e= .returned (.bool (hs.any fun h=>p h.l))/\Fr [] w w':=by
 have HC:=aa (D4 w A c hs g cb p eg h hl hp);clear h hp;go_enter Tryz.func24,Tryz.ntmps24;go_wp2_with fail;refine HC.out.mono ?_;rintro e w2 ⟨n,rfl,h1,h2,h3,hf⟩;have H3:=aa h3;have HF:=aa hf;clear h3 hf;go_wp2_with fail;go_ret;exact⟨by rw[<-H3.out];rfl,HF.out⟩
def dE (b l:Int):Int:=if l%2=1 then -(b+l/2+1)else b+l/2+1
theorem Ae (w:World)(b v:Int)(hb:0<=b/\b<=1000000)(hv:0<=v/\v<=1000000):
  Calls Tryz.prog 111 #[.int .i64 b, .int .i64 v] w fun e w'=>e= .returned (.int .i64 (b+v+1))/\w=w':=by
 have h1:IntKind.i64.wrap (b+v)=b+v:=IntWalk.i64_in _ (by omega);have h2:IntKind.i64.wrap (b+v+1)=b+v+1:=IntWalk.i64_in _ (by omega);go_enter Tryz.func111,Tryz.ntmps111;go_wp2_with fail;go_ret;exact⟨rfl,rfl⟩
theorem nK (w:World)(b l:Int)(hb:0<=b/\b<=1000000)(hl:0<=l/\l<=1000000):
  Calls Tryz.prog 76 #[.int .i64 b, .int .i64 l] w fun e w'=>e= .returned (.int .i64 (dE b l))/\w=w':=by
 have KN:=aa (pR w l hl.1 (by omega));have KV:=aa (jc w l hl.1 (by omega));have KO:=aa (Ae w b (l/2) hb (by omega));by_cases h1:l%2=1
 ·have d1:(l%2==1)=true:=by rw[h1];rfl
  have HT:Hid (dE b l= -(b+l/2+1)):=aae h1;rw[HT.out];have hw:IntKind.i64.wrap (-(b+l/2+1))= -(b+l/2+1):=IntWalk.i64_in _ (by omega);clear h1;go_enter Tryz.func76,Tryz.ntmps76;go_wp2_with fail;refine KN.out.mono ?_;rintro e w1 ⟨rfl,rfl⟩;go_wp2_with fail;refine KV.out.mono ?_;rintro e w1 ⟨rfl,rfl⟩;go_wp2_with fail;refine KO.out.mono ?_;rintro e w1 ⟨rfl,rfl⟩;go_wp2_with fail;go_ret;exact⟨rfl,rfl⟩
 ·have d1:(l%2==1)=false:=by rw[aar];exact h1
  have HT:Hid (dE b l=b+l/2+1):=aac h1;rw[HT.out];clear h1;go_enter Tryz.func76,Tryz.ntmps76;go_wp2_with fail;refine KN.out.mono ?_;rintro e w1 ⟨rfl,rfl⟩;go_wp2_with fail;refine KV.out.mono ?_;rintro e w1 ⟨rfl,rfl⟩;go_wp2_with fail;refine KO.out.mono ?_;rintro e w1 ⟨rfl,rfl⟩;go_wp2_with fail;go_ret;exact⟨rfl,rfl⟩
theorem AD (w:World)(b:Int)(hb:0<=b/\b<=262144):
  Calls Tryz.prog 75 #[.int .i64 b] w fun e w'=>e= .returned (.int .i64 b)/\w=w':=by
 have h1:decide (b<0)=false:=aah (by omega);have h2:decide (262144<b)=false:=aah (by omega);go_enter Tryz.func75,Tryz.ntmps75;go_wp2_with fail;go_ret;exact⟨rfl,rfl⟩
theorem tE (w:World)(b l:Int)(hb:0<=b/\b<=262144)(hl:0<=l/\l<=4097):
  Calls Tryz.prog 37 #[.int .i64 b, .int .i64 l] w fun e w'=>e= .returned (.int .i64 (dE b l))/\w=w':=by
 have KA:=aa (AD w b hb);have KL:=aa (nK w b l (by omega) (by omega));have hm:min l 4097=l:=by omega
 go_enter Tryz.func37,Tryz.ntmps37;go_wp2_with fail;refine KA.out.mono ?_;rintro e w1 ⟨rfl,rfl⟩;go_wp2_with fail;refine KL.out.mono ?_;rintro e w1 ⟨rfl,rfl⟩;go_wp2_with fail;go_ret;exact⟨rfl,rfl⟩
theorem dT {C:Pc}(h:Valid C):∀x∈cK C,2<=x/\x<=2*C.mx/\x%2=0:=by intro x hx;obtain⟨j,hj,hg⟩:=List.getElem_of_mem hx;have :=h.own j hj;simp only[kZ,ax,aal]at this;rw[ae,af hj,ay,hg]at this;exact⟨this.1.1.1,this.1.2,this.1.1.2⟩
theorem eX {C:Pc}(h:Valid C)(j:Nat)(hj:j<C.aM.length):2<=(C.aM[j]!).a/\(C.aM[j]!).a<=2*C.mx/\(C.aM[j]!).a%2=0:=by refine dT h _ ?_;rw[ae,af hj];simp only[cK,ah,aG,ay];exact .inl (.inr ⟨_,j5 hj,rfl⟩)
def fF (C:Pc)(f:Int):Int:=f*(C.mx+1)
theorem p9 {C:Pc}(h0:0<=C.mx)(h1:C.mx<=2048){f:Int}(hf:0<=f/\f<=81):0<=fF C f/\fF C f<=165969:=by
 unfold fF;have h2:f*(C.mx+1)<=81*2049:=by have h3:f*(C.mx+1)<=81*(C.mx+1):=Int.mul_le_mul_of_nonneg_right hf.2 (by omega);omega
 exact⟨Int.mul_nonneg hf.1 (by omega),by omega⟩
theorem lN (w:World)(H:Hd)(C:Pc)(h0:0<=C.mx)(h1:C.mx<=2048)(f:Int)(hf:0<=f/\f<=81):
  Calls Tryz.prog 68 #[dj H C, .int .i64 f] w fun e w'=>e= .returned (.int .i64 (fF C f))/\Fr [] w w':=by
 have HX:=aa (Cx.start w H C);have hb:=p9 h0 h1 hf;have dP:IntKind.i64.wrap (C.mx+1)=C.mx+1:=IntWalk.i64_in _ (by omega);have oG:IntKind.i64.wrap (f*(C.mx+1))=f*(C.mx+1):=IntWalk.i64_in _ (by unfold fF at hb;omega);have HB:Hid (fF C f=f*(C.mx+1)):=(rfl :fF C f=f*(C.mx+1))
 rw[HB.out];clear hb HB;obtain⟨mx,ins,aM,outs,aT,aU,az,bY⟩:=C;obtain⟨iA,iC,lA,lC,oA,oC,bA,bC,vA,vC,gA,gC,nA,nC⟩:=H;simp only[dj,iz]at *;obtain⟨c0,c1,c2,c3,c4,c5,c6,c7⟩:=HX.out.cells;simp only at c0 c1 c2 c3 c4 c5 c6 c7;go_enter Tryz.func68,Tryz.ntmps68;go_wp2_with fail;go_ret;exact⟨rfl,HX.out.fr⟩
theorem i8 (w:World)(H:Hd)(C:Pc)(h:fH w H C)(hv:Valid C)(f:Int)(hf:0<=f/\f<=80):
  Calls Tryz.prog 66 #[dj H C, .int .i64 f] w fun e w'=>e= .returned (.bool true)/\Fr [] w w':=by
 have HX:=aa (Cx.start w H C);have KC:Hid (Calls Tryz.prog 23 #[dj H C] (w.alloc (.cells (iz H C) 27)) fun e w'=>e= .returned (.int .i64 0)/\Fr [] (w.alloc (.cells (iz H C) 27)) w'):=(l8 _ H C (h.keep HX.out.fr)).mono fun e w' ⟨h1,h2⟩=>by
  rcases h1 with⟨h3,_⟩ |⟨_,h3⟩
  ·exact⟨h3,h2⟩
  ·exact absurd hv h3
 have d0:decide (0<=f)=true:=aai hf.1;have d1:decide (f<=80)=true:=aai hf.2;clear h hv;obtain⟨mx,ins,aM,outs,aT,aU,az,bY⟩:=C;obtain⟨iA,iC,lA,lC,oA,oC,bA,bC,vA,vC,gA,gC,nA,nC⟩:=H;simp only[dj,iz]at *;obtain⟨c0,c1,c2,c3,c4,c5,c6,c7⟩:=HX.out.cells;simp only at c0 c1 c2 c3 c4 c5 c6 c7;go_enter Tryz.func66,Tryz.ntmps66;go_wp2_with fail;refine KC.out.mono ?_;rintro e w1 ⟨rfl,cX⟩;have HF:=aa (HX.out.fr.ag cX);clear cX;go_wp2_with fail;go_ret;exact⟨rfl,HF.out⟩
theorem Db (w:World)(H:Hd)(C:Pc)(h:fH w H C)(hv:Valid C)(f:Int)(hf:0<=f/\f<=80):
  Calls Tryz.prog 80 #[dj H C, .int .i64 f] w fun e w'=>e= .returned (.int .i64 (fF C f))/\Fr [] w w':=by
 have HX:=aa (Cx.start w H C);have KR:=aa (i8 _ H C (h.keep HX.out.fr) hv f hf);have KB:=aa (fun W=>lN W H C hv.m0 hv.m1 f (by omega));obtain⟨B,hB⟩:∃B,fF C f=B:=⟨_,rfl⟩
 simp only[hB]at KB⊢;clear h hv hB;obtain⟨mx,ins,aM,outs,aT,aU,az,bY⟩:=C;obtain⟨iA,iC,lA,lC,oA,oC,bA,bC,vA,vC,gA,gC,nA,nC⟩:=H;simp only[dj,iz]at *;obtain⟨c0,c1,c2,c3,c4,c5,c6,c7⟩:=HX.out.cells;simp only at c0 c1 c2 c3 c4 c5 c6 c7;go_enter Tryz.func80,Tryz.ntmps80;go_wp2_with fail;refine KR.out.mono ?_;rintro e w1 ⟨rfl,cX⟩;have jH:=aa (HX.out.keep cX);obtain⟨d0,d1,d2,d3,d4,d5,d6,d7⟩:=jH.out.cells;simp only at d0 d1 d2 d3 d4 d5 d6 d7;clear cX c0 c1 c2 c3 c4 c5 c6 c7;go_wp2_with fail;refine(KB.out w1).mono ?_;rintro e w2 ⟨rfl,bW⟩;have HF:=aa (jH.out.fr.ag bW);clear bW;go_wp2_with fail;go_ret;exact⟨rfl,HF.out⟩
theorem C9 (w:World)(H:Hd)(C:Pc)(h:fH w H C)(hv:Valid C)(f:Int)(hf:0<=f/\f<=80):
  Calls Tryz.prog 40 #[dj H C, .int .i64 f] w fun e w'=>e= .returned (.int .i64 (fF C f))/\Fr [] w w':=by
 have HX:=aa (Cx.start w H C);have KB:=aa (Db _ H C (h.keep HX.out.fr) hv f hf);clear h hv;obtain⟨mx,ins,aM,outs,aT,aU,az,bY⟩:=C;obtain⟨iA,iC,lA,lC,oA,oC,bA,bC,vA,vC,gA,gC,nA,nC⟩:=H;simp only[dj,iz]at *;obtain⟨c0,c1,c2,c3,c4,c5,c6,c7⟩:=HX.out.cells;simp only at c0 c1 c2 c3 c4 c5 c6 c7;go_enter Tryz.func40,Tryz.ntmps40;go_wp2_with fail;refine KB.out.mono ?_;rintro e w2 ⟨rfl,bW⟩;have HF:=aa (HX.out.fr.ag bW);clear bW;go_wp2_with fail;go_ret;exact⟨rfl,HF.out⟩
def jp (C:Pc)(f n:Int):Int:=if n<0 then -(dE (fF C f) (C.aM[(-n-1).toNat]!).a)else dE (fF C f) (C.aM[(n-1).toNat]!).a
theorem ng (w:World)(H:Hd)(C:Pc)(h:fH w H C)(hv:Valid C)(f:Int)(hf:0<=f/\f<=80)(n:Int)(hn:n≠0/\ -(C.aM.length:Int)<=n/\n<=C.aM.length):
  Calls Tryz.prog 67 #[dj H C, .int .i64 f, .int .i64 n] w fun e w'=>e= .returned (.int .i64 (jp C f n))/\Fr [] w w':=by
 obtain⟨wb,fh⟩:∃W,w.alloc (.cells (iz H C) 27)=W:=⟨_,rfl⟩
 have hx:=Cx.start w H C;rw[fh]at hx;have HX:=aa hx;have xo:=hv.l;obtain⟨j,hj,To⟩:∃j:Nat,j<C.aM.length/\(n=(j:Int)+1\/n= -((j:Int)+1)):=by
  by_cases h0:n<0
  ·exact⟨(-n-1).toNat,by omega, .inr (by omega)⟩
  ·exact⟨(n-1).toNat,by omega, .inl (by omega)⟩
 obtain⟨b,o,x,y,z,hA,he,cx,-⟩:=(h.keep hx.fr).l.one h.lr hj;have dw:=eX hv j hj;rw[he.out]at dw;have hb:=p9 hv.m0 hv.m1 (f:=f) (by omega);have KB:=aa (fun W=>lN W H C hv.m0 hv.m1 f (by omega));have mz:=hv.m1;have KL:=aa (fun W=>tE W (fF C f) x (by omega) (by simp only at dw;omega));obtain⟨B,hB⟩:∃B,fF C f=B:=⟨_,rfl⟩
 have yE:1<=dE B x/\dE B x<=1000000:=by unfold dE;rw[hB]at hb;simp only at dw;rw[aac (by omega)];omega
 obtain⟨t,ht⟩:∃t,dE B x=t:=⟨_,rfl⟩
 have zI:Hid (jp C f n=if n<0 then -t else t):=by
  show _=_;unfold jp;rw[hB];rcases To with rfl |rfl
  ·rw[aac (by omega),aac (by omega),show((j:Int)+1-1).toNat=j by omega,he.out,ht]
  ·rw[aae (by omega),aae (by omega),show(-(-((j:Int)+1))-1).toNat=j by omega,he.out,ht]
 rw[zI.out];simp only[hB,ht]at KB KL;rw[ht]at yE;have M1:(j:Int)<(C.aM.length:Int):=by omega
 have R7:=aa fh;clear h hv hx dw hb hB ht zI he fh;obtain⟨mx,ins,aM,outs,aT,aU,az,bY⟩:=C;obtain⟨iA,iC,lA,lC,oA,oC,bA,bC,vA,vC,gA,gC,nA,nC⟩:=H;simp only[dj,iz]at *;try simp only at hA
 subst hA;obtain⟨c0,c1,c2,c3,c4,c5,c6,c7⟩:=HX.out.cells;simp only at c0 c1 c2 c3 c4 c5 c6 c7;obtain⟨e0,e1,e2,e3,e4,e5,e6,e7⟩:=HX.out.ext;simp only at e0 e1 e2 e3 e4 e5 e6 e7;have ex:=Ext.cell cx;have fh:=R7.out;try simp only[iz]at fh
 rcases To with rfl |rfl
 ·have d0:decide ((j:Int)+1<0)=false:=aah (by omega);rw[aac (by omega)];have dP:IntKind.i64.wrap (-((j:Int)+1))= -((j:Int)+1):=IntWalk.i64_in _ (by omega);have rF:max ((j:Int)+1) (-((j:Int)+1))=(j:Int)+1:=by omega
  have oG:IntKind.i64.wrap ((j:Int)+1-1)=(j:Int):=by rw[show(j:Int)+1-1=(j:Int) by omega];exact IntWalk.i64_in _ (by omega)
  go_enter Tryz.func67,Tryz.ntmps67;go_upto_region 1 with fail;refine au (by kernel_rfl) (by kernel_rfl) ?_;repeat (go_big_quiet_step (first |exact bX (KB.out _) |exact bh (KL.out _)))
  refine aak ?_;rintro w2 ⟨u2,b8⟩;have bj:Hid (Fr [] wb w2):=b8▸u2.fr;clear b8 u2;go_wp2_with fail;go_ret;exact⟨rfl,HX.out.fr.ag bj.out⟩
 ·have d0:decide (-((j:Int)+1)<0)=true:=aai (by omega);rw[aae (by omega)];have dP:IntKind.i64.wrap (- -((j:Int)+1))=(j:Int)+1:=by rw[Int.neg_neg];exact IntWalk.i64_in _ (by omega)
  have rF:max (-((j:Int)+1)) ((j:Int)+1)=(j:Int)+1:=by omega
  have oG:IntKind.i64.wrap ((j:Int)+1-1)=(j:Int):=by rw[show(j:Int)+1-1=(j:Int) by omega];exact IntWalk.i64_in _ (by omega)
  have vz:IntKind.i64.wrap (-t)= -t:=IntWalk.i64_in _ (by omega);go_enter Tryz.func67,Tryz.ntmps67;go_upto_region 1 with fail;refine au (by kernel_rfl) (by kernel_rfl) ?_;repeat (go_big_quiet_step (first |exact bX (KB.out _) |exact bh (KL.out _)))
  refine aak ?_;rintro w2 ⟨u2,b8⟩;have bj:Hid (Fr [] wb w2):=b8▸u2.fr;clear b8 u2;go_wp2_with fail;go_ret;exact⟨rfl,HX.out.fr.ag bj.out⟩
theorem AT (w:World)(H:Hd)(C:Pc)(h:fH w H C)(hv:Valid C)(f:Int)(hf:0<=f/\f<=80)(n:Int)(hn:n≠0/\ -(C.aM.length:Int)<=n/\n<=C.aM.length):
  Calls Tryz.prog 73 #[dj H C, .int .i64 f, .int .i64 n] w fun e w'=>e= .returned (.int .i64 (jp C f n))/\Fr [] w w':=by
 have HX:=aa (Cx.start w H C);have KR:=aa (i8 _ H C (h.keep HX.out.fr) hv f hf);have KL:=aa (fun W (hW:Fr [] w W)=>ng W H C (h.keep hW) hv f hf n hn);have xo:=hv.l;obtain⟨B,hB⟩:∃B,jp C f n=B:=⟨_,rfl⟩
 simp only[hB]at KL⊢;have d0:(n==(0:Int))=false:=by rw[aar];exact hn.1
 have d1:decide ((C.aM.length:Int)<n)=false:=aah (by omega);have d2:decide (n< -(C.aM.length:Int))=false:=aah (by omega);have hw:IntKind.i64.wrap (-(C.aM.length:Int))= -(C.aM.length:Int):=IntWalk.i64_in _ (by omega);clear h hv hB hn;obtain⟨mx,ins,aM,outs,aT,aU,az,bY⟩:=C;obtain⟨iA,iC,lA,lC,oA,oC,bA,bC,vA,vC,gA,gC,nA,nC⟩:=H;simp only[dj,iz]at *;obtain⟨c0,c1,c2,c3,c4,c5,c6,c7⟩:=HX.out.cells;simp only at c0 c1 c2 c3 c4 c5 c6 c7;go_enter Tryz.func73,Tryz.ntmps73;go_wp2_with fail;refine KR.out.mono ?_;rintro e w1 ⟨rfl,cX⟩;have jH:=aa (HX.out.keep cX);obtain⟨e0,e1,e2,e3,e4,e5,e6,e7⟩:=jH.out.cells;simp only at e0 e1 e2 e3 e4 e5 e6 e7;clear cX c0 c1 c2 c3 c4 c5 c6 c7;go_wp2_with fail;refine(KL.out w1 jH.out.fr).mono ?_;rintro e w2 ⟨rfl,bW⟩;have HF:=aa (jH.out.fr.ag bW);clear bW;go_wp2_with fail;go_ret;exact⟨rfl,HF.out⟩
structure Qn where
 C:Pc
 am:List Ls
 ls:List Ls
 ks:List Ls
 bad:Int
 dep:Int
 yL:Int
structure Qh where
 H:Hd
 aA:Option Addr
 aC:Nat
 lA:Option Addr
 lC:Nat
 kA:Option Addr
 kC:Nat
def mZ (H:Qh)(q:Qn):Array Value:=
 #[.int .i64 q.C.mx, .slice H.H.iA q.C.ins.length H.H.iC, .slice H.H.lA q.C.aM.length H.H.lC, .slice H.H.oA q.C.outs.length H.H.oC, .slice H.H.bA q.C.aT.length H.H.bC, .slice H.H.vA q.C.aU.length H.H.vC, .slice H.H.gA q.C.az.length H.H.gC, .slice H.H.nA q.C.bY.length H.H.nC,
  .slice H.aA q.am.length H.aC, .slice H.lA q.ls.length H.lC, .slice H.kA q.ks.length H.kC, .int .i64 q.bad, .int .i64 q.dep, .int .i64 q.yL]
def lD (H:Qh)(q:Qn):Value:= .agg (mZ H q)
structure qm (w:World)(H:Qh)(q:Qn):Prop where
 c:fH w H.H q.C
 a:j3 w H.aA q.am
 l:j3 w H.lA q.ls
 k:j3 w H.kA q.ks
 aL:q.am.length<=5864062014805
 lL:q.ls.length<=5864062014805
 kL:q.ks.length<=5864062014805
 br:eh q.bad
 dr:eh q.dep
 ur:eh q.yL
theorem qm.keep {w w':World}{H:Qh}{q:Qn}(h:qm w H q)(hf:Fr [] w w'):qm w' H q:=⟨h.c.keep hf,h.a.keep hf,h.l.keep hf,h.k.keep hf,h.aL,h.lL,h.kL,h.br,h.dr,h.ur⟩
def qd (mx:Int)(l:List Int):Bool:=decide (1024<(l.length:Int)) || !Uv mx l
theorem Pg (W:World)(g:Nat)(mx:Int)(hc:W.cell? ⟨g,0,none⟩=some (.int .i64 mx))(h0:0<=mx)(h1:mx<=2048)(h:Ls)(hk:zy W h):
  Calls Tryz.prog 52 #[h.val, .pointer (some ⟨g,0,none⟩)] W fun e w'=>e= .returned (.bool (qd mx h.l))/\Fr [] W w':=by
 obtain⟨A,c,l⟩:=h;have KL:=aa (BI W mx A c l h0 h1 hk.1 hk.2.1 hk.2.2.1);show Calls Tryz.prog 52 #[.slice A l.length c, .pointer (some ⟨g,0,none⟩)] W fun e w'=>e= .returned (.bool (qd mx l))/\Fr [] W w';obtain⟨Y,hY⟩:∃Y,qd mx l=Y:=⟨_,rfl⟩
 rw[hY];have HY:=aa hY;clear hk hY;by_cases hl:1024<(l.length:Int)
 ·have d0:decide (1024<(l.length:Int))=true:=aai hl;have hf:Y=true:=by rw[<-HY.out];unfold qd;rw[d0];rfl
  subst hf;go_enter Tryz.func52,Tryz.ntmps52;go_wp2_with fail;go_ret;exact⟨rfl,Fr.refl _ _⟩
 ·have d0:decide (1024<(l.length:Int))=false:=aah hl;obtain⟨b,hb⟩:∃b,Uv mx l=b:=⟨_,rfl⟩
  rw[hb]at KL;have hf:Y= !b:=by rw[<-HY.out];unfold qd;rw[d0,hb];rfl
  subst hf;clear hb HY hl;cases b with
  |true=>
   go_enter Tryz.func52,Tryz.ntmps52;go_wp2_with fail;refine KL.out.mono ?_;rintro e w2 ⟨rfl,hf⟩;have HF:=aa hf;clear hf;simp only[lcI];go_wp2_with fail;go_ret;exact⟨rfl,HF.out⟩
  |false=>
   go_enter Tryz.func52,Tryz.ntmps52;go_wp2_with fail;refine KL.out.mono ?_;rintro e w2 ⟨rfl,hf⟩;have HF:=aa hf;clear hf;simp only[lcI];go_wp2_with fail;go_ret;exact⟨rfl,HF.out⟩
theorem u9:∀args w,(callFunc 52 args).run Tryz.prog w= .ok (.enter 52 args) w:=enters_of Tryz.func52 (by kernel_rfl) rfl
theorem yR (w:World)(H:Hd)(C:Pc):
  Calls Tryz.prog 25 #[dj H C] w fun e w'=>e= .returned (.func (.func 52) #[] #[.pointer (some ⟨w.heap.size,0,none⟩)])/\w'=w.alloc (.cells (iz H C) 27):=by
 obtain⟨mx,ins,aM,outs,aT,aU,az,bY⟩:=C;obtain⟨iA,iC,lA,lC,oA,oC,bA,bC,vA,vC,gA,gC,nA,nC⟩:=H;simp only[dj,iz]at *;go_enter Tryz.func25,Tryz.ntmps25;go_wp2_with fail;go_ret;exact⟨rfl,rfl⟩
theorem Bg (w:World)(H:Hd)(C:Pc):
  Calls Tryz.prog 25 #[dj H C] w fun e w'=>∃g,e= .returned (.func (.func 52) #[] #[.pointer (some ⟨g,0,none⟩)])/\w'.cell? ⟨g,0,none⟩=some (.int .i64 C.mx)/\Fr [] w w':=
 (yR w H C).mono fun e w' ⟨h1,h2⟩=>⟨w.heap.size,h1,by rw[h2];exact(RA w H C).cell 0,h2▸eW _ _⟩
theorem pS:(Tryz.prog.info? 22).map (fun i=>(i.zero,i.size,i.bytes))=some (some (.slice none 0 0),1,24):=by kernel_rfl
theorem Dv {w:World}{e e':TypeId}{size acK n n' c c':Nat}{A A':Option Addr}{vs vs':List Value}(h:w.ownsRow 0 e size (.slice A n c) n vs)(h':w.ownsRow 0 e' acK (.slice A' n' c') n' vs')(dS:e≠e'):∀k,k∈ak A->k∉ak A':=by
 intro k hk qG;rcases h.2 with⟨h1,_⟩ |⟨g,cap,cur,hv,_,hg,_⟩
 ·simp only[Value.slice.injEq]at h1;rw[h1.1]at hk;simp[ak]at hk
 ·rcases h'.2 with⟨h1,_⟩ |⟨g',alT,atv,hv',_,pU,_⟩
  ·simp only[Value.slice.injEq]at h1;rw[h1.1]at qG;simp[ak]at qG
  ·simp only[Value.slice.injEq,true_and]at hv hv';obtain⟨rfl,rfl⟩:=hv;obtain⟨rfl,rfl⟩:=hv';simp[ak]at hk qG;subst hk qG;rw[hg]at pU;simp only[Option.some.injEq,Obj.cells.injEq]at pU;exact dS pU.2.1
structure NwLs (w:World)(B:Nat)(A:Option Addr)(c:Nat)(hs:List Ls):Prop where
 row:w.ownsRow 0 22 1 (.slice A hs.length c) hs.length (hs.map Ls.val)
 new:∀k,k∈ak A->B<=k
 each:∀h∈hs,Ints w h.A h.c h.l/\Ra h.l/\h.l.length<=1048576/\∀k,k∈ak h.A->B<=k
namespace NwLs
variable {w w':World} {B:Nat} {A:Option Addr} {c:Nat} {hs:List Ls}
theorem keep (k:NwLs w B A c hs)(hf:Fr [] w w'):NwLs w' B A c hs:=⟨hf.own k.row (by simp),k.new,fun h hh=>⟨(k.each h hh).1.fr hf (fun _ _ hm=>by cases hm),(k.each h hh).2⟩⟩
theorem low {B':Nat}(k:NwLs w B A c hs)(h:B'<=B):NwLs w B' A c hs:=⟨k.row,fun j hj=>aE h (k.new j hj),fun x hx=>⟨(k.each x hx).1,(k.each x hx).2.1,(k.each x hx).2.2.1,fun j hj=>aE h ((k.each x hx).2.2.2 j hj)⟩⟩
theorem nil (w:World)(B:Nat):NwLs w B none 0 []:=⟨World.ownsRow_nil _ 0 _ 1,by simp[ak],fun h hh=>by cases hh⟩
theorem okl (k:NwLs w B A c hs):∀h∈hs,zy w h:=fun h hh=>⟨(k.each h hh).1.rd,(k.each h hh).2.1,by have :=(k.each h hh).2.2.1;omega,fun e=>by
 rcases(k.each h hh).1.form with⟨_,h1,h2⟩ |⟨g,h1,_⟩
 ·exact⟨by rw[h2];rfl,h1⟩
 ·rw[e]at h1;cases h1⟩
theorem more {wa:World}{A':Option Addr}{c':Nat}{ms:List Ls}(k:NwLs w B A c hs)(CN:Fr [] w wa)(hm:∀h∈ms,Ints wa h.A h.c h.l/\Ra h.l/\h.l.length<=1048576/\∀k,k∈ak h.A->B<=k)(hf:Fr (ak A) wa w')
  (gV:w'.ownsRow 0 22 1 (.slice A' (hs.length+ms.length) c') (hs.length+ms.length) (hs.map Ls.val++ms.map Ls.val))(lF:∀k,k∈ak A'->k∈ak A\/k=wa.heap.size)(hB:B<=wa.heap.size):NwLs w' B A' c' (hs++ms):=by
 have ka:=k.keep CN;have gN:∀x:Ls,Ints wa x.A x.c x.l->Ints w' x.A x.c x.l:=fun x hx=>hx.fr hf (fun j hj hm=>Dv hx ka.row (by decide) j hj hm);refine⟨by simpa using gV,fun j hj=> ?_,fun x hx=> ?_⟩
 ·rcases lF j hj with h1 |h1
  ·exact k.new j h1
  ·omega
 ·rcases ah.1 hx with h1 |h1
  ·have :=ka.each x h1;exact⟨gN x this.1,this.2⟩
  ·have :=hm x h1;exact⟨gN x this.1,this.2⟩
end NwLs
theorem rV (w:World)(ty:TypeId)(A:Option Addr)(c:Nat)(hs:List Ls)(dw:w.ownsRow 0 22 1 (.slice A hs.length c) hs.length (hs.map Ls.val))(ad:Addr)(m d:Nat)(ms:List Ls)(hm:m=ms.length)
  (hr:∀j:Nat,j<ms.length->w.cell? (ad.add j)=some (ms[j]!).val)(hlen:hs.length+ms.length<=4194304):
  ∃A' cap w',(Builtin.append_ #[28,28] ty #[.slice A hs.length c, .slice (some ad) m d]).run Tryz.prog w= .ok (.slice A' (hs.length+m) cap) w'/\w'.ownsRow 0 22 1 (.slice A' (hs.length+ms.length) cap) (hs.length+ms.length) (hs.map Ls.val++ms.map Ls.val)/\Fr (ak A) w w'/\(∀k,k∈ak A'->k∈ak A\/k=w.heap.size)/\w.heap.size<=w'.heap.size:=by
 subst hm;obtain⟨A',cap,w',iV,h2,h3,h4,h5,h6,h7⟩:=eN w 28 ty 22 (.slice none 0 0) 1 24 Tryz.underlying28 pS rfl (by decide) A c hs.length (hs.map Ls.val) dw ad ms.length d (ms.map Ls.val) (by simp) (fun j u hu=>by simp only[aJ,Option.map_eq_some_iff]at hu;obtain⟨y,hy,rfl⟩:=hu;have hj:=(lH.1 hy).1;have :=hr j hj;rw[ae,hy]at this;exact this) (by intro u hu;obtain⟨y,_,rfl⟩:=aG.1 hu;rfl) (by unfold maxLen;omega) (by omega);exact⟨A',cap,w',iV,h2,h3,h4,h5⟩
theorem ed (w:World){ops:Array Oper}{rest:List Oper}{o:Oper}{a:Act}{Q:Exit->Act->World->Prop}(ow:o.guard=none)(s x:Operand)
  (ho:o.op= .call { callee:= .builtin .append,args:=#[s,x],argTypes:=#[28,28] })(A:Option Addr)(c:Nat)(hs:List Ls)(n:Nat)(Th:a.eval s= .slice A n c)(hn:n=hs.length)(dw:w.ownsRow 0 22 1 (.slice A hs.length c) hs.length (hs.map Ls.val))
  (ad:Addr) (m d:Nat) (ms:List Ls) (hx:a.eval x= .slice (some ad) m d) (hm:m=ms.length) (hr:∀j:Nat,j<ms.length->w.cell? (ad.add j)=some (ms[j]!).val) (hlen:hs.length+ms.length<=4194304)
  (h:∀A' cap w',w'.ownsRow 0 22 1 (.slice A' (hs.length+ms.length) cap) (hs.length+ms.length) (hs.map Ls.val++ms.map Ls.val)->Fr (ak A) w w'->(∀k,k∈ak A'->k∈ak A\/k=w.heap.size)->w.heap.size<=w'.heap.size->wpList Tryz.prog ops Q rest (a.put o.dst (.slice A' (n+m) cap)) w'):
  wpList Tryz.prog ops Q (o::rest) a w:=by
 subst hn;refine wpList_plain ow fun K hK=> ?_;obtain⟨A',cap,w',iV,h2,h3,h4,h5⟩:=rV w o.type A c hs dw ad m d ms hm hr hlen;unfold Oper.wp execOp;simp only[ho,resolve,invoke,builtin,Sem.run_bind,Sem.run_pure,Result.andThen_ok,List.map_toArray,cj,dv,Th,hx,iV];exact hK _ _ (h A' cap w' h2 h3 h4 h5)
theorem TW {x:Int}(h:eh x):Ra [x]:=fun j hj=>by
 have :j=0:=by simp at hj;omega
 subst this;exact h
theorem J3 {C:Pc}(hv:Valid C){f n:Int}(hf:0<=f/\f<=81)(hn:n≠0/\ -(C.aM.length:Int)<=n/\n<=C.aM.length):eh (jp C f n):=by
 have hb:=p9 hv.m0 hv.m1 hf;have hm:=hv.m1;have key:∀j:Nat,j<C.aM.length->1<=dE (fF C f) (C.aM[j]!).a/\dE (fF C f) (C.aM[j]!).a<=1000000:=fun j hj=>by have :=eX hv j hj;unfold dE;rw[aac (by omega)];omega
 unfold jp eh;split
 ·have :=key (-n-1).toNat (by omega);omega
 ·have :=key (n-1).toNat (by omega);omega
def IE (C:Pc)(i:Nat):List (List Int):=if(C.aM[i]!).c=0 then[[jp C 0 (-(i:Int)-1)]]else if(C.aM[i]!).c=1 then[[jp C 0 ((i:Int)+1)]]else[]
def sA (C:Pc)(k:Nat):List (List Int):=(List.range k).flatMap (IE C)
theorem Ay (C:Pc)(k:Nat):sA C (k+1)=sA C k++IE C k:=by unfold sA;rw[List.range_succ,List.flatMap_append];simp
theorem xz (C:Pc)(k:Nat):(sA C k).length<=k:=by
 induction k with
 |zero=>simp[sA]
 |succ k ih=>
  rw[Ay,aj];have :(IE C k).length<=1:=by unfold IE;split<;>(try split)<;>simp
  omega
theorem AV (w:World)(H:Hd)(C:Pc)(h:fH w H C)(hv:Valid C):
  Calls Tryz.prog 33 #[dj H C] w fun e w'=>∃A c hs,e= .returned (.slice A hs.length c)/\NwLs w' w.heap.size A c hs/\hs.map (·.l)=sA C C.aM.length/\Fr [] w w':=by
 have HX:=aa (Cx.start w H C);have KR:=aa (i8 _ H C (h.keep HX.out.fr) hv 0 (by omega));have KL:=aa (fun W (hW:Fr [] w W) n hn=>ng W H C (h.keep hW) hv 0 (by omega) n hn);have xo:=hv.l;have HH:=aa h;have sV:=aa h.lr;clear h;obtain⟨mx,ins,aM,outs,aT,aU,az,bY⟩:=C;obtain⟨iA,iC,lA,lC,oA,oC,bA,bC,vA,vC,gA,gC,nA,nC⟩:=H;simp only[dj,iz]at *;obtain⟨c0,c1,c2,c3,c4,c5,c6,c7⟩:=HX.out.cells;simp only at c0 c1 c2 c3 c4 c5 c6 c7;go_enter Tryz.func33,Tryz.ntmps33;go_wp2_with fail;refine KR.out.mono ?_;rintro e w1 ⟨rfl,cX⟩;have jH:=aa (HX.out.keep cX);obtain⟨e0,e1,e2,e3,e4,e5,e6,e7⟩:=jH.out.cells;simp only at e0 e1 e2 e3 e4 e5 e6 e7;clear cX c0 c1 c2 c3 c4 c5 c6 c7 KR;go_wp2_with fail;go_loopg [3,12] aM.length (fun g x3 Yq wr=>∃(k:Nat) (A':Option Addr) (c':Nat) (hs:List Ls),k+g=aM.length/\x3= .slice A' hs.length c'/\Yq= .int .i64 k/\Hid (NwLs wr (w.heap.size+1) A' c' hs)/\Hid (hs.map (·.l)=sA ⟨mx,ins,aM,outs,aT,aU,az,bY⟩ k)/\Hid (Cx w wr ⟨iA,iC,lA,lC,oA,oC,bA,bC,vA,vC,gA,gC,nA,nC⟩ ⟨mx,ins,aM,outs,aT,aU,az,bY⟩));case atStart=>exact⟨0,none,0,[],by omega,rfl,rfl,NwLs.nil _ _,rfl,jH.out⟩
 case round=>
  obtain⟨k,A',c',hs,hk,rfl,rfl,HN,HE,eQ⟩:=hrel;have HK:=aa hk;have jg:k<=aM.length:=by omega
  have rl:hs.length<=k:=by have :=xz ⟨mx,ins,aM,outs,aT,aU,az,bY⟩ k;rw[<-HE.out,aq]at this;exact this
  obtain⟨d0,d1,d2,d3,d4,d5,d6,d7⟩:=eQ.out.cells;simp only at d0 d1 d2 d3 d4 d5 d6 d7;clear hk jH e0 e1 e2 e3 e4 e5 e6 e7;by_cases bw:k<aM.length
  ·obtain⟨b,o,x,y,z,hA,he,cx,cy,cz,hx,hy,hz⟩:=(HH.out.keep eQ.out.fr).l.one sV.out bw;simp only at hA he;subst hA;have mW:=aa (Ay ⟨mx,ins,aM,outs,aT,aU,az,bY⟩ k);have cX:IE ⟨mx,ins,aM,outs,aT,aU,az,bY⟩ k=if z=0 then[[jp ⟨mx,ins,aM,outs,aT,aU,az,bY⟩ 0 (-(k:Int)-1)]]else if z=1 then[[jp ⟨mx,ins,aM,outs,aT,aU,az,bY⟩ 0 ((k:Int)+1)]]else[]:=by unfold IE;simp only[he.out]
   have dI:=aa cX;clear cX;by_cases vy:z=0
   ·have b0:(z==(0:Int))=true:=by simp[vy]
    rw[aae vy]at dI;clear vy;go_upto_region 7 with fail;obtain⟨wx,jY⟩:∃W,wr.alloc (.cells #[.int .i64 x, .int .i64 y, .int .i64 z] 63)=W:=⟨_,rfl⟩
    have yA:At wx wr.heap.size 63 #[.int .i64 x, .int .i64 y, .int .i64 z]:=jY▸At.new _ _ _;have oz:Hid (Fr [] wr wx):=jY▸aH _ _;have f2:=yA.cell 2;simp at f2;have ym:=aa (eQ.out.keep oz.out);obtain⟨e0,e1,e2,e3,e4,e5,e6,e7⟩:=ym.out.cells;simp only at e0 e1 e2 e3 e4 e5 e6 e7;rw[jY];clear jY yA d0 d1 d2 d3 d4 d5 d6 d7;have Fm:=aa (KL.out wx ym.out.fr (-(k:Int)-1) (by show _/\ -(aM.length:Int)<=_/\_<=(aM.length:Int);omega));obtain⟨v,oH⟩:∃v,jp ⟨mx,ins,aM,outs,aT,aU,az,bY⟩ 0 (-(k:Int)-1)=v:=⟨_,rfl⟩
    rw[oH]at Fm dI;have xg:eh v:=by rw[<-oH];exact J3 hv (by omega) (by simp only;omega)
    have vO:=aa xg;clear oH xg;have dP:IntKind.i64.wrap (-(k:Int))= -(k:Int):=IntWalk.i64_in _ (by omega);have oG:IntKind.i64.wrap (-(k:Int)-1)= -(k:Int)-1:=IntWalk.i64_in _ (by omega);go_wp2_with fail;refine Fm.out.mono ?_;clear Fm;rintro e w3 ⟨rfl,dh⟩;have db:=aa (oz.out.ag dh);clear dh e0 e1 e2 e3 e4 e5 e6 e7 f2 cx cy cz;obtain⟨wb,fh⟩:∃W,(w3.alloc (.cells #[.int .i64 v] 3)).alloc (.cells #[.slice (some ⟨w3.heap.size,0,none⟩) 1 1] 22)=W:=⟨_,rfl⟩
    have qq:Hid (Ints wb (some ⟨w3.heap.size,0,none⟩) 1 [v]):=fh▸(kD w3 [v] (by simp[maxLen])).alloc _;have gm:Hid (Fr [] w3 wb):=fh▸((aH _ _).ag (aH _ _));have oM:wb.cell? ⟨w3.heap.size+1,0,none⟩=some (.slice (some ⟨w3.heap.size,0,none⟩) 1 1):=by have :=(At.new (w3.alloc (.cells #[.int .i64 v] 3)) 22 #[.slice (some ⟨w3.heap.size,0,none⟩) 1 1]).cell 0;rw[fh]at this;simpa using this
    have yv:=aa oM;have sU:Hid (w.heap.size+1<=w3.heap.size):=(aE eQ.out.bx.lt db.out.size:w.heap.size+1<=w3.heap.size)
    go_wp2_with (at_builtin;(refine ed _ rfl _ _ rfl A' c' hs hs.length rfl rfl (HN.out.keep (db.out.ag gm.out)).row ⟨w3.heap.size+1,0,none⟩ 1 1 [⟨some ⟨w3.heap.size,0,none⟩,1,[v]⟩] rfl rfl (fun j hj=>by(have :j=0:=by simpa using hj);subst this;rw[dH];exact yv.out) (by simp;omega) ?_;intro A4 c4 w4 BU eS BV Hq;have yq:=aa ((HN.out.keep db.out).more gm.out (fun h hh=>by(have :=ai.1 hh);subst this;exact⟨qq.out,TW vO.out,by simp,fun k hk=>by simp[ak]at hk;subst hk;exact sU.out⟩) eS BU BV (aE sU.out gm.out.size));have jV:Hid (Cx w w4 ⟨iA,iC,some ⟨b,o,none⟩,lC,oA,oC,bA,bC,vA,vC,gA,gC,nA,nC⟩ ⟨mx,ins,aM,outs,aT,aU,az,bY⟩):=⟨((eQ.out.fr.ag db.out).ag gm.out).trans eS (fun k hk=> .inr (by have :=HN.out.new k hk;omega)),eS.at_ ((eQ.out.bx.keep db.out).keep gm.out) (fun hm=>by have :=HN.out.new _ hm;omega)⟩;clear BU eS BV Hq oM))
    clear fh;go_roundg (gk-1);case measure=>have :=HK.out;omega
    case rel=>exact⟨k+1,A4,c4,hs++[(⟨some ⟨w3.heap.size,0,none⟩,1,[v]⟩:Ls)],by have :=HK.out;omega,by simp,by go_num,yq.out,(by rw[bH,HE.out,mW.out,dI.out];rfl :_=_),jV.out⟩
   ·have b0:(z==(0:Int))=false:=by simp[vy]
    rw[aac vy]at dI;by_cases nN:z=1
    ·have b1:(z==(1:Int))=true:=(by simp[nN])
     rw[aae nN]at dI;clear vy nN;go_upto_region 7 with fail;obtain⟨wx,jY⟩:∃W,wr.alloc (.cells #[.int .i64 x, .int .i64 y, .int .i64 z] 63)=W:=⟨_,rfl⟩
     have yA:At wx wr.heap.size 63 #[.int .i64 x, .int .i64 y, .int .i64 z]:=jY▸At.new _ _ _;have oz:Hid (Fr [] wr wx):=jY▸aH _ _;have f2:=yA.cell 2;simp at f2;have ym:=aa (eQ.out.keep oz.out);obtain⟨e0,e1,e2,e3,e4,e5,e6,e7⟩:=ym.out.cells;simp only at e0 e1 e2 e3 e4 e5 e6 e7;rw[jY];clear jY yA d0 d1 d2 d3 d4 d5 d6 d7;have Fm:=aa (KL.out wx ym.out.fr ((k:Int)+1) (by show _/\ -(aM.length:Int)<=_/\_<=(aM.length:Int);omega));obtain⟨v,oH⟩:∃v,jp ⟨mx,ins,aM,outs,aT,aU,az,bY⟩ 0 ((k:Int)+1)=v:=⟨_,rfl⟩
     rw[oH]at Fm dI;have xg:eh v:=by rw[<-oH];exact J3 hv (by omega) (by simp only;omega)
     have vO:=aa xg;clear oH xg;have dP:IntKind.i64.wrap ((k:Int)+1)=(k:Int)+1:=IntWalk.i64_in _ (by omega);go_wp2_with fail;refine Fm.out.mono ?_;clear Fm;rintro e w3 ⟨rfl,dh⟩;have db:=aa (oz.out.ag dh);clear dh e0 e1 e2 e3 e4 e5 e6 e7 f2 cx cy cz;obtain⟨wb,fh⟩:∃W,(w3.alloc (.cells #[.int .i64 v] 3)).alloc (.cells #[.slice (some ⟨w3.heap.size,0,none⟩) 1 1] 22)=W:=⟨_,rfl⟩
     have qq:Hid (Ints wb (some ⟨w3.heap.size,0,none⟩) 1 [v]):=fh▸(kD w3 [v] (by simp[maxLen])).alloc _;have gm:Hid (Fr [] w3 wb):=fh▸((aH _ _).ag (aH _ _));have oM:wb.cell? ⟨w3.heap.size+1,0,none⟩=some (.slice (some ⟨w3.heap.size,0,none⟩) 1 1):=by have :=(At.new (w3.alloc (.cells #[.int .i64 v] 3)) 22 #[.slice (some ⟨w3.heap.size,0,none⟩) 1 1]).cell 0;rw[fh]at this;simpa using this
     have yv:=aa oM;have sU:Hid (w.heap.size+1<=w3.heap.size):=(aE eQ.out.bx.lt db.out.size:w.heap.size+1<=w3.heap.size)
     go_wp2_with (at_builtin;(refine ed _ rfl _ _ rfl A' c' hs hs.length rfl rfl (HN.out.keep (db.out.ag gm.out)).row ⟨w3.heap.size+1,0,none⟩ 1 1 [⟨some ⟨w3.heap.size,0,none⟩,1,[v]⟩] rfl rfl (fun j hj=>by(have :j=0:=by simpa using hj);subst this;rw[dH];exact yv.out) (by simp;omega) ?_;intro A4 c4 w4 BU eS BV Hq;have yq:=aa ((HN.out.keep db.out).more gm.out (fun h hh=>by(have :=ai.1 hh);subst this;exact⟨qq.out,TW vO.out,by simp,fun k hk=>by simp[ak]at hk;subst hk;exact sU.out⟩) eS BU BV (aE sU.out gm.out.size));have jV:Hid (Cx w w4 ⟨iA,iC,some ⟨b,o,none⟩,lC,oA,oC,bA,bC,vA,vC,gA,gC,nA,nC⟩ ⟨mx,ins,aM,outs,aT,aU,az,bY⟩):=⟨((eQ.out.fr.ag db.out).ag gm.out).trans eS (fun k hk=> .inr (by have :=HN.out.new k hk;omega)),eS.at_ ((eQ.out.bx.keep db.out).keep gm.out) (fun hm=>by have :=HN.out.new _ hm;omega)⟩;clear BU eS BV Hq oM))
     clear fh;go_roundg (gk-1);case measure=>have :=HK.out;omega
     case rel=>exact⟨k+1,A4,c4,hs++[(⟨some ⟨w3.heap.size,0,none⟩,1,[v]⟩:Ls)],by have :=HK.out;omega,by simp,by go_num,yq.out,(by rw[bH,HE.out,mW.out,dI.out];rfl :_=_),jV.out⟩
    ·have b1:(z==(1:Int))=false:=(by simp[nN])
     rw[aac nN]at dI;clear vy nN;go_upto_region 7 with fail;obtain⟨wx,jY⟩:∃W,wr.alloc (.cells #[.int .i64 x, .int .i64 y, .int .i64 z] 63)=W:=⟨_,rfl⟩
     have yA:At wx wr.heap.size 63 #[.int .i64 x, .int .i64 y, .int .i64 z]:=jY▸At.new _ _ _;have oz:Hid (Fr [] wr wx):=jY▸aH _ _;have f2:=yA.cell 2;simp at f2;have ym:=aa (eQ.out.keep oz.out);obtain⟨e0,e1,e2,e3,e4,e5,e6,e7⟩:=ym.out.cells;simp only at e0 e1 e2 e3 e4 e5 e6 e7;rw[jY];clear jY yA d0 d1 d2 d3 d4 d5 d6 d7;go_wp2_with fail;go_roundg (gk-1);case measure=>have :=HK.out;omega
     case rel=>exact⟨k+1,A',c',hs,by have :=HK.out;omega,rfl,by go_num,HN.out.keep oz.out,(by rw[HE.out,mW.out,dI.out,bZ]:_=_),eQ.out.keep oz.out⟩
  ·obtain rfl :k=aM.length:=by omega
   clear HK;go_wp2_with fail;go_ret;exact⟨A',c',hs,rfl,HN.out.low (by omega),HE.out,eQ.out.fr⟩
end
end Go.Proofs.YtjmmpfjcpdepjaaGreatDoor
