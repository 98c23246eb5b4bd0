/- Parts of a proof. -/
import Derived.Test.YtpjbaobgnhjgoaaGreatGAE
import Derived.Laws.AppendOwnNone
import Derived.Shelf.Abstract
import Derived.Lib.ConvBytes
import Derived.Lib.Bytealg
set_option linter.unusedVariables false
set_option linter.unusedSimpArgs false
set_option maxHeartbeats 8000000
set_option maxRecDepth 100000
namespace Go.Proofs.YtpjbaobgnhjgoaaGreat
open Go.RowKit
def eW(c:UInt8):Bool:=decide ((c.toNat:Int)<33) ||decide (126<(c.toNat:Int))
def qad(t:ByteArray):Bool:=t.data.toList.any eW
def uo(C:Pc)(x:Nm):Bool:=decide (0<=x.i)&&decide (x.i<kS C x.k)&& !x.t.toList.isEmpty&&decide ((x.t.size:Int)<=32)
def lD(C:Pc)(x:Nm):Bool:=uo C x&& !qad x.t
def jV(y x:Nm):Bool:=decide (rk x.k<rk y.k) || (y.k.toList==x.k.toList)&&decide (x.i<=y.i)
def lY(C:Pc)(k:Nat):Prop:=∀j:Nat,j<k->lD C C.bD[j]! =true/\(0<j->jV C.bD[j-1]! C.bD[j]! =false)
def pd(C:Pc):Bool:=(List.range C.bD.length).all fun j=>lD C C.bD[j]! &&(j==0 || !jV C.bD[j-1]! C.bD[j]!)
theorem rl(C:Pc):pd C=true↔lY C C.bD.length:=by
 unfold pd lY;rw[cR];constructor
 ·intro h j J;have :=h j (bl.2 J);simp only[ax,dI,beq_iff_eq,i8]at this;exact⟨this.1,fun h0=>this.2.resolve_left (by omega)⟩
 ·intro h j J;obtain⟨h1,h2⟩:=h j (bl.1 J);simp only[ax,dI,beq_iff_eq,i8];refine⟨h1,?_⟩;by_cases e:j=0
  ·exact .inl e
  ·exact .inr (h2 (by omega))
theorem lY.zero(C:Pc):lY C 0:=fun j J=>absurd J (aD _)
theorem lY.step{C:Pc}{k:Nat}(h:lY C k)(h1:lD C C.bD[k]! =true)(J:0<k->jV C.bD[k-1]! C.bD[k]! =false):lY C (k+1):=fun j hj=>by
 by_cases e:j=k
 ·subst e;exact⟨h1,J⟩
 ·exact h j (by omega)
theorem sK{C:Pc}{k:Nat}(hk:k<C.bD.length)(h:lD C C.bD[k]! =false):pd C=false:=by rw[fa];intro J;have :=((rl C).1 J k hk).1;rw[h]at this;cases this
theorem JV{C:Pc}{k:Nat}(hk:k<C.bD.length)(J:0<k)(h:jV C.bD[k-1]! C.bD[k]! =true):pd C=false:=by rw[fa];intro hh;have :=((rl C).1 hh k hk).2 J;rw[h]at this;cases this
theorem DK(w:World)(H:Hd)(C:Pc)(h:eZ w H C):
  Calls Tryz.prog 57 #[bY H C] w fun e w'=>e= .returned (.bool (pd C))/\Fr [] w w':=by
 have HH:=ae h;have bI:=h.nL;clear h;have hK:aj (∀s,pd C=s->Ending.returned (.bool s)= .returned (.bool (pd C))):=fun s h=>by rw[h]
 have HS:=ae (Cx.start w H C);have KC:=ae (fun W s=>DM W H C s);obtain⟨mx,ins,az,outs,aI,aH,au,bD⟩:=C;obtain⟨iA,iC,lA,lC,oA,oC,bA,bC,vA,vC,gA,gC,nA,nC⟩:=H;simp only[bY,fv]at *;go_enter Tryz.func57,Tryz.ntmps57;go_wp2_with fail;go_loopg [3] bD.length (fun g i wr=>∃k:Nat,k+g=bD.length/\i= .int .i64 k/\Cx w wr ⟨iA,iC,lA,lC,oA,oC,bA,bC,vA,vC,gA,gC,nA,nC⟩ ⟨mx,ins,az,outs,aI,aH,au,bD⟩/\lY ⟨mx,ins,az,outs,aI,aH,au,bD⟩ k);case atStart=>exact⟨0,by omega,rfl,HS.o,lY.zero _⟩
 case round=>
  obtain⟨k,hk,rfl,hx,hn⟩:=hrel;have HK:=ae hk;have HX:=ae hx;have HN:=ae hn;have iS:k<=bD.length:=by omega
  obtain⟨c0,c1,c2,c3,c4,c5,c6,c7⟩:=hx.cells;clear hk hx hn;by_cases bt:k<bD.length
  ·obtain⟨b,o,x,y,z,hA,he,cx,cy,cz,gU,⟨iO,ld⟩,pj⟩:=(HH.o.keep HX.o.fr).n.one HH.o.nr bt;simp only at hA;subst hA;unfold maxLen at gU pj;go_upto_region 5 with fail;obtain⟨W1,iQ⟩:∃W,wr.alloc (.cells #[.string x, .int .i64 y, .string z] 122)=W:=⟨_,rfl⟩
   rw[iQ];have hO:At W1 wr.heap.size 122 #[.string x, .int .i64 y, .string z]:=iQ▸At.new _ _ _;have dZ:aj (Fr [] wr W1):=iQ▸cQ _ _;clear iQ c0 c1 c2 c3 c4 c5 c6 c7 cx cy cz;generalize wr.heap.size=ob at hO⊢;have ia:=ae (HX.o.keep dZ.o);have HO:=ae hO;clear hO;have nx:W1.cell? ⟨ob,0,none⟩=some (.string x):=by rw[HO.o.cell];rfl
   have ny:W1.cell? ⟨ob,1,none⟩=some (.int .i64 y):=by rw[HO.o.cell];rfl
   have nz:W1.cell? ⟨ob,2,none⟩=some (.string z):=by rw[HO.o.cell];rfl
   obtain⟨hb,HB⟩:∃hb,aj (uo ⟨mx,ins,az,outs,aI,aH,au,bD⟩ ⟨x,y,z⟩=hb):=⟨_,rfl⟩
   go_cut [41] (fun st wx=>st= .bool (!hb)/\Fr [] W1 wx)
   case first =>
    have ex:=Ext.cell nx;have ey:=Ext.cell ny;have ez:=Ext.cell nz;obtain⟨e0,e1,e2,e3,e4,e5,e6,e7⟩:=ia.o.ext;by_cases h0:0<=y
    ·obtain⟨n,Mf⟩:∃n,aj (kS ⟨mx,ins,az,outs,aI,aH,au,bD⟩ x=n):=⟨_,rfl⟩
     have aB:=fun W=>KC.o W x;rw[Mf.o]at aB;have KQ:=ae aB;clear aB;have d0:decide (y<0)=false:=qaj (by omega);by_cases h1:y<n
     ·have d1:decide (n<=y)=false:=qaj (by omega);by_cases h2:z.toList.isEmpty=true
      ·go_wp2;refine ap ?_;repeat (go_big_quiet_step (exact bf (KQ.o _)))
       refine fq ?_;intro w2 J;go_wp2;go_meet;exact⟨by rw[<-HB.o,uo];simp[h2],J.o⟩
      ·have aM:=fa.2 h2;by_cases h3:(z.size:Int)<=32
       ·have d3:decide (32<(z.size:Int))=false:=qaj (by omega);go_wp2;refine ap ?_;repeat (go_big_quiet_step (exact bf (KQ.o _)))
        refine fq ?_;intro w2 J;go_wp2;go_meet;exact⟨by rw[<-HB.o,uo];simp[aM,h0,Mf.o,h1,h3],J.o⟩
       ·have d3:decide (32<(z.size:Int))=true:=qak (by omega);go_wp2;refine ap ?_;repeat (go_big_quiet_step (exact bf (KQ.o _)))
        refine fq ?_;intro w2 J;go_wp2;go_meet;exact⟨by rw[<-HB.o,uo];simp[aM,h0,Mf.o,h1,h3],J.o⟩
     ·have d1:decide (n<=y)=true:=qak (by omega);go_wp2;refine ap ?_;repeat (go_big_quiet_step (exact bf (KQ.o _)))
      refine fq ?_;intro w2 J;go_wp2;go_meet;exact⟨by rw[<-HB.o,uo];simp[Mf.o,h1],J.o⟩
    ·go_wp2;refine ap ?_;repeat (go_big_quiet_step (exact bf (KC.o _ _)))
     refine fq ?_;intro w2 J;go_wp2;go_meet;exact⟨by rw[<-HB.o,uo];simp[show ¬0<=y from by omega],J.o⟩
   case rest=>
    obtain⟨rfl,Nw⟩:=hcut;have aK:=ae Nw;clear Nw nx ny nz;have fZ:=ae (ia.o.keep aK.o);have qR:=ae (HO.o.keep aK.o);have nx:wc.cell? ⟨ob,0,none⟩=some (.string x):=by rw[qR.o.cell];rfl
    have ny:wc.cell? ⟨ob,1,none⟩=some (.int .i64 y):=by rw[qR.o.cell];rfl
    have nz:wc.cell? ⟨ob,2,none⟩=some (.string z):=by rw[qR.o.cell];rfl
    cases hb with
    |false=>
     go_wp2;go_ret;exact⟨hK.o _ (sK bt (by rw[he.o,lD,HB.o];rfl)),fZ.o.fr⟩
    |true=>
     go_wp2
     go_loop [5] (fun i=>∃m:Nat,m<=z.size/\i= .int .i64 m/\dT z.data.toList eW m) (fun i=>z.size-(intOf i).toNat)
     case atStart=>exact⟨0,aU _,rfl,dT.zero _ _⟩
     case round=>
      obtain⟨m,hm,rfl,a1⟩:=hrel;have HM:=ae a1;clear a1;by_cases yl:m<z.size
      ·have ab:m<z.data.toList.length:=yl;have oR:z.data.toList[m]! =z[m]:=by rw[aa,af ab];rfl
       by_cases tq:(z[m].toNat:Int)<33
       ·have d1:decide ((z[m].toNat:Int)<33)=true:=qak tq;have HQ:aj (eW (z.data.toList[m]!)=true):=(by rw[oR,eW,d1];rfl :eW (z.data.toList[m]!)=true)
        clear oR tq;go_wp2;go_ret;exact⟨hK.o _ (sK bt (by rw[he.o,lD,qad,kU _ _ m ab HQ.o,HB.o];rfl)),fZ.o.fr⟩
       ·have d1:decide ((z[m].toNat:Int)<33)=false:=qaj tq;by_cases vM:126<(z[m].toNat:Int)
        ·have d2:decide (126<(z[m].toNat:Int))=true:=qak vM;have HQ:aj (eW (z.data.toList[m]!)=true):=(by rw[oR,eW,d1,d2];rfl :eW (z.data.toList[m]!)=true)
         clear oR tq vM;go_wp2;go_ret;exact⟨hK.o _ (sK bt (by rw[he.o,lD,qad,kU _ _ m ab HQ.o,HB.o];rfl)),fZ.o.fr⟩
        ·have d2:decide (126<(z[m].toNat:Int))=false:=qaj vM;have HQ:aj (eW (z.data.toList[m]!)=false):=(by rw[oR,eW,d1,d2];rfl :eW (z.data.toList[m]!)=false)
         clear oR tq vM;go_wp2
         go_round
         case rel=>exact⟨m+1,by omega,by go_num,HM.o.step HQ.o⟩
         case measure=>simp[intOf];omega
      ·have ab:¬m<z.data.toList.length:=yl;have HT:aj (qad z=false):=HM.o.all ab;have xp:aj (lD ⟨mx,ins,az,outs,aI,aH,au,bD⟩ ⟨x,y,z⟩=true):=(by rw[lD,HB.o,HT.o];rfl :lD ⟨mx,ins,az,outs,aI,aH,au,bD⟩ ⟨x,y,z⟩=true)
       clear HM HT;obtain⟨c0,c1,c2,c3,c4,c5,c6,c7⟩:=fZ.o.cells;by_cases He:0<k
       ·obtain⟨j,rfl⟩:∃j,k=j+1:=⟨k-1,by omega⟩
        obtain⟨b',o',x',y',z',yp,fj,Jm,rF,XR,OT,⟨bg,bb⟩,ba⟩:=(HH.o.keep fZ.o.fr).n.one HH.o.nr (show j<bD.length by omega);simp only[Option.some.injEq,Addr.mk.injEq,and_true]at yp;obtain⟨rfl,rfl⟩:=yp;unfold maxLen at OT ba;have RK:=ae (fun W s=>F4 W s);go_upto_region 14 with fail;obtain⟨W3,ar⟩:∃W,wc.alloc (.cells #[.string x', .int .i64 y', .string z'] 122)=W:=⟨_,rfl⟩
        rw[ar];have ad:At W3 wc.heap.size 122 #[.string x', .int .i64 y', .string z']:=ar▸At.new _ _ _;have dG:aj (Fr [] wc W3):=ar▸cQ _ _;have fx:=dG.o.aF nx;have fy:=dG.o.aF ny;clear ar c0 c1 c2 c3 c4 c5 c6 c7 Jm rF XR nx ny nz;generalize wc.heap.size=oc at ad⊢;have gx:W3.cell? ⟨oc,0,none⟩=some (.string x'):=by rw[ad.cell];rfl
        have gy:W3.cell? ⟨oc,1,none⟩=some (.int .i64 y'):=by rw[ad.cell];rfl
        clear ad;obtain⟨pb,HP⟩:∃pb,aj (jV ⟨x',y',z'⟩ ⟨x,y,z⟩=pb):=⟨_,rfl⟩
        go_cut [89] (fun st wx=>st= .bool pb/\Fr [] W3 wx)
        case first =>
         have bj:=Ext.cell fx;have bo:=Ext.cell fy;have bB:=Ext.cell gx;have bG:=Ext.cell gy;clear fx fy gx gy;by_cases q0:rk x<rk x'
         ·have d0:decide (rk x<rk x')=true:=qak q0;go_wp2;refine ap ?_;repeat (go_big_quiet_step (exact bf (RK.o _ _)))
          refine fq ?_;intro w2 J;go_wp2;go_meet;exact⟨by rw[<-HP.o,jV];simp[q0],J.o⟩
         ·have d0:decide (rk x<rk x')=false:=qaj q0;rcases jw x'.toList x.toList with q1 |q1
          ·by_cases q2:y<=y'
           ·have d2:decide (y<=y')=true:=qak q2;go_wp2;refine ap ?_;repeat (go_big_quiet_step (exact bf (RK.o _ _)))
            refine fq ?_;intro w2 J;go_wp2;go_meet;exact⟨by rw[<-HP.o,jV];simp only[d0,q1,d2];rfl,J.o⟩
           ·have d2:decide (y<=y')=false:=qaj q2;go_wp2;refine ap ?_;repeat (go_big_quiet_step (exact bf (RK.o _ _)))
            refine fq ?_;intro w2 J;go_wp2;go_meet;exact⟨by rw[<-HP.o,jV];simp only[d0,q1,d2];rfl,J.o⟩
          ·go_wp2;refine ap ?_;repeat (go_big_quiet_step (exact bf (RK.o _ _)))
           refine fq ?_;intro w2 J;go_wp2;go_meet;exact⟨by rw[<-HP.o,jV];simp only[d0,q1];rfl,J.o⟩
        case rest=>
         obtain⟨rfl,Nw⟩:=hcut;rename_i wd;have kK:=ae (fZ.o.keep (dG.o.ak Nw));clear Nw fx fy gx gy;cases pb with
         |true=>
          go_wp2;go_ret;exact⟨hK.o _ (JV bt He (by rw[dt,he.o,fj.o];exact HP.o)),kK.o.fr⟩
         |false=>
          go_wp2;go_roundg (gk-1);case measure=>have :=HK.o;omega
          case rel=>exact⟨j+2,by have :=HK.o;omega,by go_num,kK.o,HN.o.step (by rw[he.o];exact xp.o) (fun h=>by rw[dt,he.o,fj.o];exact HP.o)⟩
       ·obtain rfl :k=0:=by omega
        go_wp2;go_roundg (gk-1);case measure=>have :=HK.o;omega
        case rel=>exact⟨1,by have :=HK.o;omega,by go_num,fZ.o,HN.o.step (by rw[he.o];exact xp.o) (fun h=>absurd h (da _))⟩
  ·have HT:=ae ((rl ⟨mx,ins,az,outs,aI,aH,au,bD⟩).2 (by rw[show bD.length=k from by omega];exact HN.o));go_wp2;go_ret;exact⟨hK.o _ HT.o,HX.o.fr⟩
theorem X2(g o n:Nat):(Addr.mk g o none).add n=⟨g,o+n,none⟩:=by unfold Addr.add;split<;>simp_all
def Rs(w:World)(A:Option Addr)(J:List Value):Prop:=0<J.length->∃b o,A=some ⟨b,o,none⟩/\∀j u,J[j]? =some u->w.cell? ⟨b,o+j,none⟩=some u
theorem Rd.rs{w:World}{A:Option Addr}{l:List Int}(h:Rd w A l):Rs w A (l.map (Value.int .i64)):=by intro h0;obtain⟨b,o,hA,hx⟩:=h (by simpa using h0);refine⟨b,o,hA,fun j u hu=> ?_⟩;simp only[aZ,Option.map_eq_some_iff]at hu;obtain⟨y,J,rfl⟩:=hu;have hj:=(mX.1 J).1;have :=hx j hj;rwa[aa,J]at this
theorem RX{w:World}{e:TypeId}{size n c:Nat}{A:Option Addr}{vs:List Value}(h:w.ownsRow 0 e size (.slice A n c) n vs):(A=none/\c=0/\n=0)\/∃g,A=some ⟨g,0,none⟩/\g<w.heap.size/\n<=c/\c<=maxLen:=by
 rcases h.2 with⟨h1,h2⟩ |⟨g,cap,cur,hv,_,hg,J,hm,_⟩
 ·simp only[Value.slice.injEq]at h1;exact .inl ⟨h1.1,h1.2.2,h2⟩
 ·simp only[Value.slice.injEq,true_and]at hv;obtain⟨rfl,rfl⟩:=hv;exact .inr ⟨g,rfl,At.lt (t:=e) hg,J,hm⟩
theorem RY{w:World}{e:TypeId}{size n c:Nat}{A:Option Addr}{J:List Value}(h:w.ownsRow 0 e size (.slice A n c) n J):∀k,k∈ao A->k<w.heap.size:=by
 rcases RX h with⟨rfl,_⟩ |⟨g,rfl,h1,_⟩
 ·simp[ao]
 ·simpa[ao]using h1
theorem qaa(w:World){ops:Array Oper}{rest:List Oper}{o:Oper}{a:Act}{Q:Exit->Act->World->Prop}(rA:o.guard=none)(s x:Operand)(t:TypeId)
  (ho:o.op= .call { callee:= .builtin .append,args:=#[s,x],argTypes:=#[t,t] }) (e:TypeId) (z:Value) (size bytes:Nat) (ht:Tryz.prog.underlying t=some (.slice e)) (hi:(Tryz.prog.info? e).map (fun i=>(i.zero,i.size,i.bytes))=some (some z,size,bytes)) (Cm:z.cells.size=size) (nM:0<size)
  (A:Option Addr) (c n:Nat) (hs:a.eval s= .slice A n c) (xs:List Value) (J:w.ownsRow 0 e size (.slice A n c) n xs)
  (A2:Option Addr) (m c2:Nat) (hx:a.eval x= .slice A2 m c2) (news:List Value) (hl:news.length=m*size) (gD:A2=none->m=0/\c2=0) (ly:Rs w A2 news)
  (h1:∀u∈news,u.oneCell'=true) (NA:n+m<=maxLen) (j3:(n+m)*bytes<=140737488355328)
  (h:∀A' cap w',w'.ownsRow 0 e size (.slice A' (n+m) cap) (n+m) (xs++news)->Fr (ao A) w w'->(∀k,k∈ao A'->k∈ao A\/k=w.heap.size)->w.heap.size<=w'.heap.size->(A'=none->A2=none\/m=0)->wpList Tryz.prog ops Q rest (a.put o.dst (.slice A' (n+m) cap)) w'):
  wpList Tryz.prog ops Q (o::rest) a w:=by
 cases A2 with
 |none=>
  obtain⟨rfl,rfl⟩:=gD rfl;obtain rfl :=aX (by simpa using hl);obtain⟨i0,hi,_⟩:=info_parts hi;refine wpList_append_own_none rA s x t ho 0 e i0 size ht hi (.slice A n c) n xs hs J hx ?_;have :=h A c w (by simpa using J) (Fr.refl _ _) (fun k hk=> .inl hk) (aq _) (fun _=> .inl rfl);simpa using this
 |some ad=>
  have mG:∀j u,news[j]? =some u->w.cell? (ad.add j)=some u:=fun j u hu=>by have hj:=(mX.1 hu).1;obtain⟨b,o,ab,hc⟩:=ly (by omega);cases ab;rw[X2];exact hc j u hu
  exact jS w rA s x t ho e z size bytes ht hi Cm nM A c n hs xs J ad m c2 hx news hl mG h1 NA j3
   fun A' cap w' q1 q2 q3 q4 q5 q6=>h A' cap w' q1 q2 q3 q4 (fun h=> .inr (q5 h).1)
def vh(x:T3):Bool:=decide (x.c=0) ||decide (x.c=1) ||decide (x.c=x.a)
def Bb(C:Pc)(x:T3):Bool:=vh x&&fh C x.b
def vQ(C:Pc)(p:Option Int)(x:T3):Bool:=(match p with |none=>true |some q=>decide (q<x.a))&&decide (x.b<x.a)&&decide (x.c<x.a)&&fh C x.b&&fh C x.c
def V8(l:List T3)(j:Nat):Option Int:=if j=0 then none else some (l[j-1]!).a
def cm(C:Pc):List Int:=C.ins++C.az.map (fun x=>x.a)++C.au.map (fun x=>x.a)
def kw(C:Pc)(l:List Int)(i:Nat):Bool:=decide (2<=l[i]!)&&decide (l[i]! %2=0)&&decide (l[i]! <=2*C.mx)&& !decide (l[i]! ∈l.take i)
structure Valid(C:Pc):Prop where
 m0:0<=C.mx
 m1:C.mx<=2048
 i:C.ins.length<=64
 l:C.az.length<=64
 n:pd C=true
 az:∀j:Nat,j<C.az.length->Bb C C.az[j]! =true
 au:∀j:Nat,j<C.au.length->vQ C (V8 C.au j) C.au[j]! =true
 own:∀j:Nat,j<(cm C).length->kw C (cm C) j=true
 o:nR C C.outs=true
 b:nR C C.aI=true
 v:nR C C.aH=true
def Vb(C:Pc)(w:World)(e:Ending)(w':World):Prop:=((e= .returned (.int .i64 0)/\Valid C)\/(e= .returned (.int .i64 9)/\¬Valid C))/\Fr [] w w'
theorem acc{C:Pc}{w w':World}(h:¬Valid C)(J:Fr [] w w'):Vb C w (.returned (.int .i64 9)) w':=⟨.inr ⟨rfl,h⟩,J⟩
theorem XV{C:Pc}{w w':World}(h:Valid C)(J:Fr [] w w'):Vb C w (.returned (.int .i64 0)) w':=⟨.inl ⟨rfl,h⟩,J⟩
structure Ck(w wr:World)(H:Hd)(C:Pc)(A:Option Addr)(c:Nat)(l:List Int):Prop where
 cx:Cx w wr H C
 own:Ints wr A c l
 new:∀k,k∈ao A->w.heap.size<k
theorem Ck.keep{w wr w':World}{H:Hd}{C:Pc}{A:Option Addr}{c:Nat}{l:List Int}(h:Ck w wr H C A c l)(J:Fr [] wr w'):Ck w w' H C A c l:=
 ⟨h.cx.keep J,h.own.fr J (fun _ _=>by simp),h.new⟩
theorem Ck.grow{w wr w':World}{H:Hd}{C:Pc}{A A':Option Addr}{c c':Nat}{l l':List Int}(h:Ck w wr H C A c l)(hi:Ints w' A' c' l')(J:Fr (ao A) wr w')(hg:∀k,k∈ao A'->k∈ao A\/k=wr.heap.size)(bt:w.heap.size<wr.heap.size):Ck w w' H C A' c' l':=
 ⟨⟨h.cx.fr.trans J (fun x hx=> .inr (Nat.le_of_lt (h.new x hx))),J.at_ h.cx.bx (fun hm=>da _ (h.new _ hm))⟩,hi,fun k hk=>by
  rcases hg k hk with h1 |h1
  ·exact h.new k h1
  ·omega⟩
theorem Cx.lt{w wr:World}{H:Hd}{C:Pc}(h:Cx w wr H C):w.heap.size<wr.heap.size:=h.bx.lt
def IR(C:Pc)(k:Nat):Prop:=∀j:Nat,j<k->Bb C C.az[j]! =true
def I9(C:Pc)(k:Nat):Prop:=∀j:Nat,j<k->vQ C (V8 C.au j) C.au[j]! =true
def xm(C:Pc)(l:List Int)(k:Nat):Prop:=∀j:Nat,j<k->kw C l j=true
theorem IR.zero(C:Pc):IR C 0:=fun j J=>absurd J (aD _)
theorem I9.zero(C:Pc):I9 C 0:=fun j J=>absurd J (aD _)
theorem xm.zero(C:Pc)(l:List Int):xm C l 0:=fun j J=>absurd J (aD _)
theorem IR.step{C:Pc}{k:Nat}(h:IR C k)(h1:Bb C C.az[k]! =true):IR C (k+1):=fun j J=>by
 by_cases e:j=k
 ·subst e;exact h1
 ·exact h j (by omega)
theorem I9.step{C:Pc}{k:Nat}(h:I9 C k)(h1:vQ C (V8 C.au k) C.au[k]! =true):I9 C (k+1):=fun j J=>by
 by_cases e:j=k
 ·subst e;exact h1
 ·exact h j (by omega)
theorem xm.step{C:Pc}{l:List Int}{k:Nat}(h:xm C l k)(h1:kw C l k=true):xm C l (k+1):=fun j J=>by
 by_cases e:j=k
 ·subst e;exact h1
 ·exact h j (by omega)
theorem tV(w:World)(H:Hd)(C:Pc)(h:eZ w H C)(gD:H.iA=none->C.ins.length=0/\H.iC=0)(hv:Valid C):
  Calls Tryz.prog 30 #[bY H C] w fun e w'=>e= .returned (.int .i64 0)/\Fr [] w w':=by
 have HH:=ae h;have aM:=ae gD;have AO:=ae hv;have bO:=h.gL;have b3:=h.lL;obtain⟨m0,m1,m2,m3,GQ,-,-,-,aT,WK,yh⟩:=hv;clear h gD;have HS:=ae (Cx.start w H C);have KC:aj (∀W l,eZ W H C->eJ l->fh C l=true->Calls Tryz.prog 58 #[bY H C, .int .i64 l] W fun e w'=>e= .returned (.bool true)/\Fr [] W w'):=fun W l hW hl hq=>by have :=tS W H C l hW hl;rw[hq]at this;exact this
 have KN:=ae (fun W (hW:eZ W H C)=>by have :=DK W H C hW;rw[GQ]at this;exact this);have KA:=ae (fun W A c xs hW hx hr hl=>JN W H C A c xs hW hx hr hl);clear GQ;obtain⟨mx,ins,az,outs,aI,aH,au,bD⟩:=C;obtain⟨iA,iC,lA,lC,oA,oC,bA,bC,vA,vC,gA,gC,nA,nC⟩:=H;simp only[bY,fv]at *;have d0:decide (mx<0)=false:=qaj (by omega);have d1:decide (2048<mx)=false:=qaj (by omega);have d2:decide (64<(ins.length:Int))=false:=qaj (by omega);have d3:decide (64<(az.length:Int))=false:=qaj (by omega);go_enter Tryz.func30,Tryz.ntmps30;go_wp2_with fail;refine(KN.o _ (HH.o.keep HS.o.fr)).mono ?_;rintro e w1 ⟨rfl,hf⟩;have J:=ae (HS.o.keep hf);clear hf;obtain⟨c0,c1,c2,c3,c4,c5,c6,c7⟩:=J.o.cells;have G9:=J.o.lt;go_upto_region 5 with(at_builtin;refine qaa _ rfl _ _ 22 rfl 3 (.int .i64 0) 1 8 Tryz.underlying22 nh rfl (by decide) none 0 0 rfl [] (World.ownsRow_nil _ 0 _ 1) iA ins.length iC rfl (ins.map (Value.int .i64)) (by simp) (aM.o) ((HH.o.keep J.o.fr).i.rs) (by simp[Value.oneCell']) (by unfold maxLen;omega) (by omega) ?_;intro A2 cap w2 oQ cE fu jB tm;have mi:=ae oQ;have df:=ae cE;have qT:=ae fu;clear oQ cE fu jB tm)
 have Fe:aj (∃l,Ck w w2 ⟨iA,iC,lA,lC,oA,oC,bA,bC,vA,vC,gA,gC,nA,nC⟩ ⟨mx,ins,az,outs,aI,aH,au,bD⟩ A2 cap l/\l=ins++(az.take 0).map (fun x=>x.a)):=⟨ins,⟨⟨(J.o.fr).trans df.o (fun x hx=>(by cases hx)),df.o.at_ J.o.bx (by simp[ao])⟩,by have :=mi.o;unfold Ints;simpa using this,fun k hk=>by
  rcases qT.o k hk with h |h
  ·simp[ao]at h
  ·rw[h];exact G9⟩,by simp⟩
 clear mi df qT c0 c1 c2 c3 c4 c5 c6 c7 G9;obtain⟨l0,pX,uZ⟩:=Fe;have vZ:=ae pX;have Z8:=ae uZ;have ar:aj (ins.length=l0.length):=(by rw[uZ];simp :ins.length=l0.length)
 clear pX uZ;go_wp2_with fail;go_loopg [3,4] az.length (fun g s3 i wr=>∃(k:Nat)(A:Option Addr)(c:Nat)(l:List Int),k+g=az.length/\i= .int .i64 k/\s3= .slice A l.length c/\Ck w wr ⟨iA,iC,lA,lC,oA,oC,bA,bC,vA,vC,gA,gC,nA,nC⟩ ⟨mx,ins,az,outs,aI,aH,au,bD⟩ A c l/\aj (l=ins++(az.take k).map (fun x=>x.a)));case atStart=>exact⟨0,A2,cap,l0,by omega,rfl,by rw[ar.o],vZ.o,Z8⟩
 case round=>
  obtain⟨k,A,c,l,hk,rfl,rfl,hx,hl⟩:=hrel;have HK:=ae hk;have J:=ae hx;have iS:k<=az.length:=by omega
  obtain⟨c0,c1,c2,c3,c4,c5,c6,c7⟩:=hx.cx.cells;clear hk hx;have hlen:l.length<=128:=by rw[hl.o];simp;omega
  by_cases bt:k<az.length
  ·obtain⟨b,o,x,y,z,hA,he,cx,cy,cz,⟨gU,jn⟩,⟨iO,ld⟩,_,_⟩:=(HH.o.keep J.o.cx.fr).l.one HH.o.lr bt;simp only at hA;subst hA;go_upto_region 9 with fail;obtain⟨W1,iQ⟩:∃W,wr.alloc (.cells #[.int .i64 x, .int .i64 y, .int .i64 z] 62)=W:=⟨_,rfl⟩
   rw[iQ];have hO:At W1 wr.heap.size 62 #[.int .i64 x, .int .i64 y, .int .i64 z]:=iQ▸At.new _ _ _;have ia:aj (Fr [] wr W1):=iQ▸cQ _ _;have UJ:aj (wr.heap.size∉ao A):=fun hm=>da _ (J.o.own.lt _ hm);have nM:wr.heap.size<W1.heap.size:=hO.lt;clear iQ c0 c1 c2 c3 c4 c5 c6 c7 cx cy cz;generalize wr.heap.size=ob at hO UJ nM⊢;have fZ:=ae (J.o.keep ia.o);have HO:=ae hO;have c0:W1.cell? ⟨ob,0,none⟩=some (.int .i64 x):=by rw[hO.cell];rfl
   clear hO;go_upto_region 10 with(at_builtin;refine cL _ rfl _ _ rfl A c l _ rfl rfl (fZ.o.own.alloc _) ⟨W1.heap.size,0,none⟩ 1 x rfl (by simp) (by omega) ?_;intro g2 cap w3 oQ cE fu jB;have mi:=ae oQ;have df:=ae cE;have qT:=ae fu;clear oQ cE fu jB)
   have nZ:=ae (df.o.at_ (HO.o.alloc _) UJ.o);have kK:=ae ((fZ.o.keep (cQ W1 _)).grow mi.o df.o (fun k hk=>by
    simp only[ao,dA,eD,ag]at hk;subst hk;rcases qT.o with h |h
    ·exact .inl h
    ·exact .inr h) (aS fZ.o.cx.lt (cQ W1 _).size))
   clear mi df qT c0;have c0:w3.cell? ⟨ob,0,none⟩=some (.int .i64 x):=by rw[nZ.o.cell];rfl
   have c1:w3.cell? ⟨ob,1,none⟩=some (.int .i64 y):=by rw[nZ.o.cell];rfl
   have c2:w3.cell? ⟨ob,2,none⟩=some (.int .i64 z):=by rw[nZ.o.cell];rfl
   have oD:=AO.o.az k bt;simp only at oD;rw[he.o,Bb,vh,ax,dI,dI,qam,qam,qam]at oD;have HQ:=ae oD.2;have hz:(z !=0)=false\/(z !=0)=true/\(z !=1)=false\/(z !=0)=true/\(z !=1)=true/\(z !=x)=false:=by simp only[bne_eq_false_iff_eq,bne_iff_ne];have :=oD.1;simp only at this;omega
   clear oD
   go_cut [76] (fun st wx=>st= .bool false/\Fr [] w3 wx)
   case first =>
    obtain⟨ba,bb,bg,bj,bo,bB,bG,bI⟩:=kK.o.cx.cells;rcases hz with b0 |⟨b0,b1⟩ |⟨b0,b1,b2⟩<;>(
    go_wp2_with fail;refine(KC.o _ y (HH.o.keep kK.o.cx.fr) ⟨iO,ld⟩ HQ.o).mono ?_;rintro e w4 ⟨rfl,hf⟩;go_wp2;go_meet;exact⟨rfl,hf⟩)
   case rest=>
    obtain⟨rfl,Nw⟩:=hcut;have jr:=ae (kK.o.keep Nw);clear Nw c0 c1 c2;go_wp2;go_roundg (gk-1);case measure=>have :=HK.o;omega
    case rel=>exact⟨k+1,some ⟨g2,0,none⟩,cap,l++[x],by have :=HK.o;omega,by go_num,by rw[an];rfl,jr.o,(by rw[hl.o,kt _ _ bt,he.o];simp :l++[x]=_)⟩
  ·obtain rfl :k=az.length:=by omega
   have nv:aj (l=ins++az.map (fun x=>x.a)):=(by rw[hl.o,cN]:l=_)
   have I3:=J;clear HK J hl iS bt;go_wp2_with fail;clear c0 c1 c2 c3 c4 c5 c6 c7;go_loopg [3,6] au.length (fun g s3 i wr=>∃(k:Nat)(A:Option Addr)(c:Nat)(l:List Int),k+g=au.length/\i= .int .i64 k/\s3= .slice A l.length c/\Ck w wr ⟨iA,iC,lA,lC,oA,oC,bA,bC,vA,vC,gA,gC,nA,nC⟩ ⟨mx,ins,az,outs,aI,aH,au,bD⟩ A c l/\aj (l=ins++az.map (fun x=>x.a)++(au.take k).map (fun x=>x.a)));case atStart=>exact⟨0,A,c,l,by omega,rfl,rfl,I3.o,(by rw[nv.o];simp :l=_)⟩
   case round=>
    clear nv I3 Z8 vZ ar;obtain⟨k,A,c,l,hk,rfl,rfl,hx,hl⟩:=hrel;have HK:=ae hk;have J:=ae hx;have iS:k<=au.length:=(by omega)
    obtain⟨c0,c1,c2,c3,c4,c5,c6,c7⟩:=hx.cx.cells;clear hk hx;have hlen:l.length<=128+au.length:=by rw[hl.o];simp;omega
    by_cases bt:k<au.length
    ·obtain⟨b,o,x,y,z,hA,he,cx,cy,cz,⟨gU,jn⟩,⟨iO,ld⟩,pj,AD⟩:=(HH.o.keep J.o.cx.fr).g.one HH.o.gr bt;simp only at hA;subst hA;go_upto_region 16 with fail;obtain⟨W1,iQ⟩:∃W,wr.alloc (.cells #[.int .i64 x, .int .i64 y, .int .i64 z] 69)=W:=⟨_,rfl⟩
     rw[iQ];have hO:At W1 wr.heap.size 69 #[.int .i64 x, .int .i64 y, .int .i64 z]:=iQ▸At.new _ _ _;have ia:aj (Fr [] wr W1):=iQ▸cQ _ _;have UJ:aj (wr.heap.size∉ao A):=fun hm=>da _ (J.o.own.lt _ hm);have nM:wr.heap.size<W1.heap.size:=hO.lt;clear iQ c0 c1 c2 c3 c4 c5 c6 c7 cx cy cz;generalize wr.heap.size=ob at hO UJ nM⊢;have fZ:=ae (J.o.keep ia.o);have HO:=ae hO;have c0:W1.cell? ⟨ob,0,none⟩=some (.int .i64 x):=by rw[hO.cell];rfl
     clear hO;go_upto_region 17 with(at_builtin;refine cL _ rfl _ _ rfl A c l _ rfl rfl (fZ.o.own.alloc _) ⟨W1.heap.size,0,none⟩ 1 x rfl (by simp) (by omega) ?_;intro g2 cap w3 oQ cE fu jB;have mi:=ae oQ;have df:=ae cE;have qT:=ae fu;clear oQ cE fu jB)
     have nZ:=ae (df.o.at_ (HO.o.alloc _) UJ.o);have kK:=ae ((fZ.o.keep (cQ W1 _)).grow mi.o df.o (fun k hk=>by
      simp only[ao,dA,eD,ag]at hk;subst hk;rcases qT.o with h |h
      ·exact .inl h
      ·exact .inr h) (aS fZ.o.cx.lt (cQ W1 _).size))
     clear mi df qT c0;have ab:=AO.o.au k bt;simp only at ab;rw[he.o]at ab;unfold vQ at ab;simp only[ax,qam]at ab;obtain⟨⟨⟨⟨hp,b6⟩,b7⟩,b4⟩,b5⟩:=ab;have d1:decide (x<=y)=false:=qaj (by omega);have d2:decide (x<=z)=false:=qaj (by omega)
     go_cut [135] (fun st wx=>st= .bool false/\Fr [] w3 wx)
     case first =>
      have c0:w3.cell? ⟨ob,0,none⟩=some (.int .i64 x):=by rw[nZ.o.cell];rfl
      have c1:w3.cell? ⟨ob,1,none⟩=some (.int .i64 y):=by rw[nZ.o.cell];rfl
      have c2:w3.cell? ⟨ob,2,none⟩=some (.int .i64 z):=by rw[nZ.o.cell];rfl
      have f0:=Ext.cell c0;have f1:=Ext.cell c1;have f2:=Ext.cell c2;clear c0 c1 c2;obtain⟨e0,e1,e2,e3,e4,e5,e6,e7⟩:=kK.o.cx.ext;have hj:k=0\/∃j,k=j+1:=by cases k<;>simp
      rcases hj with rfl |⟨j,rfl⟩
      case' inr=>
       obtain⟨b',o',x',y',z',yp,fj,Jm,rF,XR,⟨OT,a1⟩,_,_,_⟩:=(HH.o.keep kK.o.cx.fr).g.one HH.o.gr (show j<au.length by omega);simp only[Option.some.injEq,Addr.mk.injEq,and_true]at yp;obtain⟨rfl,rfl⟩:=yp;have g0:=Ext.cell Jm;clear Jm rF XR;rw[V8,qah (by omega),dt,fj.o]at hp;simp only[qam]at hp;have d0:decide (x<=x')=false:=qaj (by omega)
      all_goals
       clear hp;go_wp2;refine ap ?_;repeat (go_big_quiet_step (exact bf (KC.o _ _ (HH.o.keep (kK.o.cx.fr.ak (Ext.fr _))) (by unfold eJ;omega) (by assumption))))
       refine fq ?_;intro w4 cG;go_wp2;go_meet;exact⟨rfl,cG.o⟩
     case rest=>
      obtain⟨rfl,Nw⟩:=hcut;have jr:=ae (kK.o.keep Nw);clear Nw hp;go_wp2;go_roundg (gk-1);case measure=>have :=HK.o;omega
      case rel=>exact⟨k+1,some ⟨g2,0,none⟩,cap,l++[x],by have :=HK.o;omega,by go_num,by rw[an];rfl,jr.o,(by rw[hl.o,kt _ _ bt,he.o];simp :l++[x]=_)⟩
    ·obtain rfl :k=au.length:=by omega
     have nv:aj (l=cm ⟨mx,ins,az,outs,aI,aH,au,bD⟩):=(by rw[hl.o,cN];rfl :l=_)
     have I3:=J;clear HK J hl iS bt;go_wp2_with fail;clear c0 c1 c2 c3 c4 c5 c6 c7;go_loopg [8] l.length (fun g i wr=>∃k:Nat,k+g=l.length/\i= .int .i64 k/\Ck w wr ⟨iA,iC,lA,lC,oA,oC,bA,bC,vA,vC,gA,gC,nA,nC⟩ ⟨mx,ins,az,outs,aI,aH,au,bD⟩ A c l);case atStart=>exact⟨0,by omega,rfl,I3.o⟩
     case round=>
      clear I3;obtain⟨k,hk,rfl,hx⟩:=hrel;have HK:=ae hk;have J:=ae hx;have iS:k<=l.length:=(by omega)
      clear hk hx;by_cases bt:k<l.length
      ·obtain⟨gb,hA,bS⟩:=J.o.own.pos bt;subst hA;have vK:l.length<=c:=by
        rcases J.o.own.form with⟨h1,_⟩ |⟨_,_,_,h3,_⟩
        ·cases h1
        ·exact h3
       have bT:k<=c:=(by omega)
       have Ft:c<=9223372036854775807:=by
        rcases J.o.own.form with⟨h1,_⟩ |⟨_,_,_,_,h4⟩
        ·cases h1
        ·unfold maxLen at h4;omega
       obtain⟨x,hx,XA⟩:∃x,aj (l[k]! =x)/\aj (wr.cell? ⟨gb,k,none⟩=some (.int .i64 x)):=⟨_,rfl,J.o.own.cell bt⟩
       have ZB:=XA.o;go_upto_region 22 with fail;have ad:=AO.o.own k (by rw[<-nv.o];exact bt);rw[<-nv.o,kw,hx.o]at ad;simp only[ax,i8,qam]at ad;obtain⟨⟨⟨h1,h2⟩,h3⟩,h4⟩:=ad;have KH:aj (∀W,Rd W (some ⟨gb,0,none⟩) (l.take k)->Calls Tryz.prog 59 #[.slice (some ⟨gb,0,none⟩) k c, .int .i64 x] W fun e w'=>e= .returned (.bool false)/\W=w'):=fun W hW=>by
        have h1:(l.take k).length=k:=by rw[bz];omega
        have :=XD W (some ⟨gb,0,none⟩) c (l.take k) x hW (by omega);rw[h1,h4]at this;exact this
       have aK:=ae ((J.o.own.qg k).rd);have f0:=Ext.cell ZB;obtain⟨e0,e1,e2,e3,e4,e5,e6,e7⟩:=J.o.cx.ext;have d1:decide (x<2)=false:=qaj (by omega);have d2:(x%2==1)=false:=by rw[aab];omega
       have d3:decide (2*mx<x)=false:=qaj (by omega);clear h2 h4;go_wp2;refine ap ?_;repeat (go_big_quiet_step (exact bp (KH.o _ (aK.o.keep (Ext.fr _)))))
       refine qal ?_;rintro w4 ⟨u2,aB⟩;have cG:aj (Fr [] wr w4):=aB▸u2.fr;clear aB u2 ZB f0 e0 e1 e2 e3 e4 e5 e6 e7;go_wp2;go_roundg (gk-1);case measure=>have :=HK.o;omega
       case rel=>exact⟨k+1,by have :=HK.o;omega,by go_num,J.o.keep cG.o⟩
      ·obtain rfl :k=l.length:=by omega
       go_upto_region 24 with fail;obtain⟨c0,c1,c2,c3,c4,c5,c6,c7⟩:=J.o.cx.cells;go_wp2_with fail;refine(KA.o _ oA oC outs (HH.o.keep J.o.cx.fr) (HH.o.keep J.o.cx.fr).o HH.o.or_ HH.o.oL).mono ?_;rw[aT];rintro e w4 ⟨rfl,hf⟩;have HY:=ae (J.o.cx.keep hf);clear hf c0 c1 c2 c3 c4 c5 c6 c7;obtain⟨c0,c1,c2,c3,c4,c5,c6,c7⟩:=HY.o.cells;go_wp2_with fail;refine(KA.o _ bA bC aI (HH.o.keep HY.o.fr) (HH.o.keep HY.o.fr).b HH.o.br HH.o.bL).mono ?_;rw[WK];rintro e w5 ⟨rfl,hf⟩;have HZ:=ae (HY.o.keep hf);clear hf c0 c1 c2 c3 c4 c5 c6 c7;obtain⟨c0,c1,c2,c3,c4,c5,c6,c7⟩:=HZ.o.cells;go_wp2_with fail;refine(KA.o _ vA vC aH (HH.o.keep HZ.o.fr) (HH.o.keep HZ.o.fr).v HH.o.vr HH.o.vL).mono ?_;rw[yh];rintro e w6 ⟨rfl,hf⟩;have HF:=ae (HZ.o.keep hf);clear hf c0 c1 c2 c3 c4 c5 c6 c7;go_wp2;go_ret;exact⟨rfl,HF.o.fr⟩
theorem Da(n:Int)(J:0<=n)(h₁:n<2^63):IntKind.i64.wrap n=n:=by rw[IntKind.wrap_i64];omega
theorem P0{l:Int}(h:0<=l)(J:l<=9223372036854775807):bits BinOp.and IntKind.i64 l 1=l%2:=by have :=bits_mask .i64 63 (by decide) Da 1 (by decide) l h (by omega);simpa using this
theorem kO(w:World)(l:Int)(h:0<=l)(J:l<=9223372036854775807):
  Calls Tryz.prog 83 #[.int .i64 l] w fun e w'=>e= .returned (.int .i64 (l/2))/\w=w':=by
 go_enter Tryz.func83,Tryz.ntmps83;go_wp2;go_ret;exact⟨rfl,rfl⟩
theorem ze(w:World)(l:Int)(h:l<0):
  Calls Tryz.prog 83 #[.int .i64 l] w fun e w'=>e= .returned (.int .i64 0)/\w=w':=by
 go_enter Tryz.func83,Tryz.ntmps83;go_wp2;go_ret;exact⟨rfl,rfl⟩
theorem ue(w:World)(l:Int)(h:0<=l)(h2:l<=9223372036854775807):
  Calls Tryz.prog 116 #[.int .i64 l] w fun e w'=>e= .returned (.bool (l%2==1))/\w=w':=by
 have J:=ae (P0 h h2);go_enter Tryz.func116,Tryz.ntmps116;go_wp2;go_ret;exact⟨by rw[<-J.o];rfl,rfl⟩
theorem V1(w:World)(l:Int)(h:0<=l)(J:l<=9223372036854775807):
  Calls Tryz.prog 61 #[.int .i64 l] w fun e w'=>e= .returned (.int .i64 (l/2))/\w=w':=by
 go_enter Tryz.func61,Tryz.ntmps61;go_wp2;go_ret;exact⟨rfl,rfl⟩
theorem V4(w:World)(l:Int)(h:0<=l)(h2:l<=9223372036854775807):
  Calls Tryz.prog 62 #[.int .i64 l] w fun e w'=>e= .returned (.bool (l%2==1))/\w=w':=by
 by_cases J:0<l
 ·have d0:decide (0<l)=true:=qak J;go_enter Tryz.func62,Tryz.ntmps62;go_wp2;go_ret;exact⟨rfl,rfl⟩
 ·obtain rfl :l=0:=by omega
  go_enter Tryz.func62,Tryz.ntmps62;go_wp2;go_ret;exact⟨rfl,rfl⟩
def YR(w:World)(g:Nat)(J:Array Value)(p:Int->Bool)(xs:List Int):Prop:=∀W,Fr [] w W->∀x,x∈xs->eJ x->
 Calls Tryz.prog g (#[.int .i64 x]++J) W fun e w'=>e= .returned (.bool (p x))/\Fr [] W w'
theorem bk{α:Type}[Inhabited α]{l:List α}{k:Nat}(h:k<l.length):l[k]! ∈l:=by rw[aa,af h];exact gu h
def Q2(b:Bool)(w:World)(e:Ending)(w':World):Prop:=∃n:Int,e= .returned (.int .i64 n)/\ -1<=n/\n<=9223372036854775807/\decide (0<=n)=b/\Fr [] w w'
theorem Kc(w:World)(A:Option Addr)(c:Nat)(xs:List Int)(g:Nat)(cb:Array Value)(p:Int->Bool)(eg:∀args w,(callFunc g args).run Tryz.prog w= .ok (.enter g args) w)(h:Rd w A xs)(hr:Ra xs)(hl:xs.length<=17592186044416)(hp:YR w g cb p xs):
  Calls Tryz.prog 90 #[.slice A xs.length c, .func (.func g) #[] cb] w (Q2 (xs.any p) w):=by
 have HH:=ae h;have HR:=ae hr;have HP:=ae hp;have xk:aj (∀(n:Nat) W,n<=17592186044416->xs.any p=true->Fr [] w W->Q2 (xs.any p) w (.returned (.int .i64 (n:Int))) W):=fun n W h1 h2 h3=>⟨n,rfl,by omega,by omega,by rw[h2];exact qak (by omega),h3⟩
 have NO:aj (∀W,xs.any p=false->Fr [] w W->Q2 (xs.any p) w (.returned (.int .i64 (-1))) W):=fun W h2 h3=>⟨-1,rfl,by omega,by omega,by rw[h2];rfl,h3⟩
 clear h hr hp;go_enter Tryz.func90,Tryz.ntmps90;go_wp2_with fail;go_loopg [8] xs.length (fun g i wr=>∃k:Nat,k+g=xs.length/\i= .int .i64 k/\Fr [] w wr/\dT xs p k);case atStart=>exact⟨0,by omega,rfl,Fr.refl _ _,dT.zero _ _⟩
 case round=>
  obtain⟨k,hk,rfl,hx,hn⟩:=hrel;have HK:=ae hk;have J:=ae hx;have HN:=ae hn;have iS:k<=xs.length:=by omega
  clear hk hx hn;by_cases bt:k<xs.length
  ·obtain⟨b,o,x,hA,he,cx,gU,jn⟩:=(HH.o.keep J.o).one HR.o bt;subst hA;obtain⟨q,HQ⟩:∃q,aj (p x=q):=⟨_,rfl⟩
   have HC:=ae (HP.o wr J.o x (by rw[<-he.o];exact bk bt) ⟨gU,jn⟩);go_wp2_with fail;refine HC.o.mono ?_;rw[HQ.o];rintro e w2 ⟨rfl,hf⟩;have HF:=ae (J.o.ak hf);clear hf;cases q with
   |true=>
    go_wp2;go_ret;exact xk.o k _ (by omega) (kU _ _ k bt (by rw[he.o];exact HQ.o)) HF.o
   |false=>
    go_wp2;go_roundg (gk-1);case measure=>have :=HK.o;omega
    case rel=>exact⟨k+1,by have :=HK.o;omega,by go_num,HF.o,HN.o.step (by rw[he.o];exact HQ.o)⟩
  ·have HT:=ae (HN.o.all bt);clear HN HK;go_wp2;go_ret;exact NO.o _ HT.o J.o
theorem jh(w:World)(A:Option Addr)(c:Nat)(xs:List Int)(g:Nat)(J:Array Value)(p:Int->Bool)(eg:∀args w,(callFunc g args).run Tryz.prog w= .ok (.enter g args) w)(h:Rd w A xs)(hr:Ra xs)(hl:xs.length<=17592186044416)(hp:YR w g J p xs):
  Calls Tryz.prog 53 #[.slice A xs.length c, .func (.func g) #[] J] w fun e w'=>e= .returned (.bool (xs.any p))/\Fr [] w w':=by
 have HC:=ae (Kc w A c xs g J p eg h hr hl hp);clear h hr hp;go_enter Tryz.func53,Tryz.ntmps53;go_wp2_with fail;refine HC.o.mono ?_;rintro e w2 ⟨n,rfl,h1,h2,h3,hf⟩;have H3:=ae h3;have HF:=ae hf;clear h3 hf;go_wp2;go_ret;exact⟨by rw[<-H3.o];rfl,HF.o⟩
theorem akq{v:Int}(h:eJ v):(Lit.int IntKind.i64 v).wf=true:=by unfold eJ at h;simp[Lit.wf,IntKind.min,IntKind.max,IntKind.signed,IntKind.bits];omega
theorem Wy{v:Int}(h:eJ v):keyOf Tryz.prog 3 (.int .i64 v)=some (.int .i64 v):=Maps.keyOf_int_mk Tryz.underlying3 (akq h)
theorem aep(w:World):(zeroValue 9).run Tryz.prog w= .ok (.string ⟨#[]⟩) w:=by kernel_rfl
theorem PS{P:Program}{e:TypeId}(he:P.underlying e=some .string){v:Value}{z:DataW Unit×List MemPlace}(h:plainElem P e v=some z):∃s:ByteArray,v= .string s/\z=(.lit (.string s.data.toList),[]):=by unfold plainElem at h;rw[he]at h;cases v<;>simp at h;obtain⟨_,rfl⟩:=h;exact⟨_,rfl,rfl⟩
def Met(w:World)(b n:Nat)(f:Int->List UInt8):Prop:=∃D:DataW Unit,w.ownsMap Tryz.prog 3 (plainElem Tryz.prog 9) b n D/\∀v,eJ v->D.atKey (.int .i64 v) (.lit (.string []))= .lit (.string (f v))
theorem Met.lt{w:World}{b n:Nat}{f:Int->List UInt8}(h:Met w b n f):b<w.heap.size:=by obtain⟨D,h1,_⟩:=h;exact h1.lt
theorem Met.fr{w w':World}{S:List Nat}{b n:Nat}{f:Int->List UInt8}(h:Met w b n f)(hf:Fr S w w')(hn:b∉S):Met w' b n f:=by have J:=h.lt;obtain⟨D,⟨es,clock,hb,F,hs,hD⟩,h2⟩:=h;exact⟨D,⟨es,clock,(hf.block b J hn).trans hb,F,hs,hD⟩,h2⟩
theorem Met.keep{w w':World}{b n:Nat}{f:Int->List UInt8}(h:Met w b n f)(J:Fr [] w w'):Met w' b n f:=h.fr J (by simp)
theorem Met.new(w:World):Met (w.alloc (.map #[] 0)) w.heap.size 0 (fun _=>[]):=
 ⟨.map [],World.ownsMap_made w _ _ _,fun v _=>rfl⟩
theorem Se{P:Program}{k e t:TypeId}(K:Maps.Keyed P k)(ht:P.underlying t=some (.map k e))(he:P.underlying e=some .string){w:World}(hz:(zeroValue e).run P w= .ok (.string ⟨#[]⟩) w){b n:Nat}{D:DataW Unit}
  (h1:w.ownsMap P k (plainElem P e) b n D) {key:Value} {kl:Lit} (ab:keyOf P k key=some kl) {s:List UInt8} (h2:D.atKey kl (.lit (.string []))= .lit (.string s)):
  (Instr.lookup t (.map (some b)) key false).run P w= .ok (.string ⟨s.toArray⟩) w:=by
 obtain⟨x,ps,hr,hx⟩:=h1.lookup K ht hz (plainElem_string he (by simp[maxLen,ByteArray.size])) ab;obtain⟨y,rfl,hz⟩:=PS he hx;have h4:=(Prod.mk.inj hz).1;refine hr.trans ?_;have J:(DataW.lit (H:=Unit) (.string y.data.toList))= .lit (.string s):=by rw[<-h4];exact h2
 injection J with J;injection J with J;rw[<-J]
theorem Met.look{w:World}{b n:Nat}{f:Int->List UInt8}(h:Met w b n f){v:Int}(J:eJ v):
  (Instr.lookup 117 (.map (some b)) (.int .i64 v) false).run Tryz.prog w= .ok (.string ⟨(f v).toArray⟩) w:=by
 obtain⟨D,h1,h2⟩:=h;exact Se (Maps.int_keyed Tryz.underlying3) Tryz.underlying117 Tryz.underlying9 (aep w) h1 (Wy J) (h2 v J)
theorem vp{D:DataW Unit}(J:Maps.IsMap D){v x:Int}{d:DataW Unit}{f:Int->List UInt8}{s:List UInt8}(hd:d= .lit (.string s))(h:eJ x->D.atKey (.int .i64 x) (.lit (.string []))= .lit (.string (f x)))(hx:eJ x):
  (D.put (.int .i64 v) d).atKey (.int .i64 x) (.lit (.string []))= .lit (.string (if x=v then s else f x)):=by
 by_cases e:x=v
 ·subst e;rw[qai rfl,Maps.atKey_put_same J (by simp[WideAt.IsKeyLit]),hd]
 ·rw[qah e,Maps.atKey_put_other (by simpa using e),h hx]
theorem Jz(w:World){ops:Array Oper}{rest:List Oper}{o:Oper}{a:Act}{Q:Exit->Act->World->Prop}(hg:o.guard=none)(m x y:Operand)(QP:o.op=Op.mapUpdate 117 m x y)
  (b n:Nat) (f:Int->List UInt8) (hm:a.eval m= .map (some b)) (h:Met w b n f) (hn:n<maxLen) (v:Int) (J:a.eval x= .int .i64 v) (hv:eJ v) (s:ByteArray) (hy:a.eval y= .string s) (hs:s.size<=maxLen)
  (hK:∀w',Met w' b (n+1) (fun x=>if x=v then s.data.toList else f x)->Fr [b] w w'->wpList Tryz.prog ops Q rest (a.put o.dst undef) w'):
  wpList Tryz.prog ops Q (o::rest) a w:=by
 obtain⟨D,h1,h2⟩:=h;refine wpList_mapUpdate_own w hg m x y 117 QP 3 9 (Maps.int_keyed Tryz.underlying3) Tryz.underlying117 _ b n D hm h1 hn _ _ (.int .i64 v) J hy (Wy hv) (.lit (.string s.data.toList)) []
  (plainElem_string Tryz.underlying9 hs) ?_
 intro w' g1 g2;exact hK w' ⟨_,g1,fun x J=>vp h1.isMap rfl (fun hr=>h2 x hr) J⟩ ((Fr.refl _ w).grown g2 (fun k hk=>by cases hk;exact .inl (by simp)))
def fN:Ending:= .panicked [{ v:= .iface 36 (.int .i64 9),recovered:=false }]
theorem jc(w:World):Calls Tryz.prog 45 #[.bool true] w fun e w'=>e= .returned (.tuple #[])/\w=w':=by go_enter Tryz.func45,Tryz.ntmps45;go_wp2_with fail;go_end0;exact⟨rfl,rfl⟩
theorem fe(w:World):Calls Tryz.prog 45 #[.bool false] w fun e w'=>e=fN/\w=w':=by go_enter Tryz.func45,Tryz.ntmps45;go_wp2_with fail;exact⟨rfl,rfl,rfl⟩
structure Ms(w:World)(g b n:Nat)(f:Int->List UInt8):Prop where
 at_:At w g 119 #[.map (some b)]
 met:Met w b n f
theorem Ms.keep{w w':World}{g b n:Nat}{f:Int->List UInt8}(h:Ms w g b n f)(J:Fr [] w w'):Ms w' g b n f:=⟨h.at_.keep J,h.met.keep J⟩
def xR(f:Int->List UInt8)(l fF:Int):Bool:=decide (2<=l)&&decide (l%2=0)&&decide (l/2<=fF)&&(f (l/2)).isEmpty
theorem vP(w:World)(g b n:Nat)(f:Int->List UInt8)(l fF:Int)(k:ByteArray)(h:Ms w g b n f)(J:g≠b)(hr:eJ l)(hd:xR f l fF=true)(hk:k.size<=1)(hn:n<140737488355328):
  Calls Tryz.prog 82 #[.pointer (some ⟨g,0,none⟩), .int .i64 l, .int .i64 fF, .string k] w fun e w'=>e= .returned (.tuple #[])/\Ms w' g b (n+1) (fun x=>if x=l/2 then k.data.toList else f x)/\Fr [b] w w':=by
 simp only[xR,ax,qam]at hd;obtain⟨⟨⟨h1,h2⟩,h3⟩,h4⟩:=hd;unfold eJ at hr;obtain⟨QO,pP⟩:=hr;have HM:=ae h;have hc:=h.at_.cell 0;simp at hc;have kk:=h.met.look (v:=l/2) (by unfold eJ;omega);have e4:f (l/2)=[]:=List.isEmpty_iff.1 h4;rw[e4]at kk;have HG:=ae J;have H2:(l%2==1)=false:=by rw[aab];omega
 have d1:decide (2<=l)=true:=qak h1;have d3:decide (l/2<=fF)=true:=qak h3;clear h h4 e4 h2 J;have l0:0<=l:=by omega
 go_enter Tryz.func82,Tryz.ntmps82;go_wp2_with fail;refine(kO _ l l0 pP).mono ?_;rintro e w' ⟨rfl,rfl⟩;go_wp2_with fail;refine(ue _ l l0 pP).mono ?_;rintro e w' ⟨rfl,rfl⟩;go_wp2_with fail;refine(jc _).mono ?_;rintro e w' ⟨rfl,rfl⟩;go_wp2_with (at_mapUpdate;refine Jz _ rfl _ _ _ rfl b n f rfl HM.o.met (by unfold maxLen;omega) (l/2) rfl (by unfold eJ;omega) k rfl (by unfold maxLen;omega) ?_;intro w2 g1 g2;have G1:=ae g1;have G2:=ae g2;clear g1 g2)
 go_end0;exact⟨rfl,⟨G2.o.at_ HM.o.at_ (by simp;exact HG.o),G1.o⟩,G2.o⟩
theorem sW(w:World)(g b n:Nat)(f:Int->List UInt8)(l fF:Int)(k:ByteArray)(h:Ms w g b n f)(hr:eJ l)(hd:xR f l fF=false):
  Calls Tryz.prog 82 #[.pointer (some ⟨g,0,none⟩), .int .i64 l, .int .i64 fF, .string k] w fun e w'=>e=fN/\w=w':=by
 unfold eJ at hr;obtain⟨QO,J⟩:=hr;have HM:=ae h;have hc:=h.at_.cell 0;simp at hc;have HF:=ae (rfl :fN=fN);by_cases l0:0<=l
 ·have kk:=h.met.look (v:=l/2) (by unfold eJ;omega);by_cases h1:2<=l
  ·have d1:decide (2<=l)=true:=qak h1;by_cases h2:l%2=0
   ·have H2:(l%2==1)=false:=by rw[aab];omega
    by_cases h3:l/2<=fF
    ·have d3:decide (l/2<=fF)=true:=qak h3;have h4:(f (l/2)).isEmpty=false:=by simp only[xR,d1,d3,h2,decide_true,ff]at hd;exact hd
     obtain⟨c,r,ab⟩:∃c r,f (l/2)=c::r:=by
      cases hf:f (l/2)with
      |nil=>rw[hf]at h4;cases h4
      |cons c r=>exact⟨c,r,rfl⟩
     rw[ab]at kk;clear h h4 ab h2 hd;go_enter Tryz.func82,Tryz.ntmps82;go_wp2_with fail;refine(kO _ l l0 J).mono ?_;rintro e w' ⟨rfl,rfl⟩;go_wp2_with fail;refine(ue _ l l0 J).mono ?_;rintro e w' ⟨rfl,rfl⟩;go_wp2_with fail;refine(fe _).mono ?_;rintro e w' ⟨rfl,rfl⟩;unfold fN;go_wp2_with fail;exact⟨rfl,rfl,rfl⟩
    ·have d3:decide (l/2<=fF)=false:=qaj h3;clear h h2 hd kk;go_enter Tryz.func82,Tryz.ntmps82;go_wp2_with fail;refine(kO _ l l0 J).mono ?_;rintro e w' ⟨rfl,rfl⟩;go_wp2_with fail;refine(ue _ l l0 J).mono ?_;rintro e w' ⟨rfl,rfl⟩;go_wp2_with fail;refine(fe _).mono ?_;rintro e w' ⟨rfl,rfl⟩;unfold fN;go_wp2_with fail;exact⟨rfl,rfl,rfl⟩
   ·have H2:(l%2==1)=true:=by rw[beq_iff_eq];omega
    clear h h2 hd kk;go_enter Tryz.func82,Tryz.ntmps82;go_wp2_with fail;refine(kO _ l l0 J).mono ?_;rintro e w' ⟨rfl,rfl⟩;go_wp2_with fail;refine(ue _ l l0 J).mono ?_;rintro e w' ⟨rfl,rfl⟩;go_wp2_with fail;refine(fe _).mono ?_;rintro e w' ⟨rfl,rfl⟩;unfold fN;go_wp2_with fail;exact⟨rfl,rfl,rfl⟩
  ·have d1:decide (2<=l)=false:=qaj h1;clear h hd kk;go_enter Tryz.func82,Tryz.ntmps82;go_wp2_with fail;refine(kO _ l l0 J).mono ?_;rintro e w' ⟨rfl,rfl⟩;go_wp2_with fail;refine(fe _).mono ?_;rintro e w' ⟨rfl,rfl⟩;unfold fN;go_wp2_with fail;exact⟨rfl,rfl,rfl⟩
 ·have d1:decide (2<=l)=false:=qaj (by omega);clear h hd;go_enter Tryz.func82,Tryz.ntmps82;go_wp2_with fail;refine(ze _ l (by omega)).mono ?_;rintro e w' ⟨rfl,rfl⟩;go_wp2_with fail;refine(fe _).mono ?_;rintro e w' ⟨rfl,rfl⟩;unfold fN;go_wp2_with fail;exact⟨rfl,rfl,rfl⟩
def wP(f:Int->List UInt8)(l:Int):Bool:=decide (0<=l)&&(decide (l<2) || !(f (l/2)).isEmpty)
theorem ng(w:World)(g b n:Nat)(f:Int->List UInt8)(l:Int)(h:Ms w g b n f)(hr:eJ l):
  Calls Tryz.prog 47 #[.pointer (some ⟨g,0,none⟩), .int .i64 l] w fun e w'=>e= .returned (.bool (wP f l))/\Fr [] w w':=by
 unfold eJ at hr;obtain⟨QO,pP⟩:=hr;have HM:=ae h;have hc:=h.at_.cell 0;simp at hc;have hK:aj (∀s,wP f l=s->Ending.returned (.bool s)= .returned (.bool (wP f l))):=fun s h=>by rw[h]
 have e0:=Ext.cell hc;by_cases l0:0<=l
 ·have d0:decide (0<=l)=true:=qak l0;have KV:=ae (fun W=>kO W l l0 pP);have kk:∀u:Ext w,(Instr.lookup 117 (.map (some b)) (.int .i64 (l/2)) false).run Tryz.prog u.v= .ok (.string ⟨(f (l/2)).toArray⟩) u.v:=fun u=>(h.met.keep u.fr).look (v:=l/2) (by unfold eJ;omega);by_cases h1:l<2
  ·have d1:decide (l<2)=true:=qak h1;have J:aj (wP f l=true):=(by simp[wP,d0,d1]:wP f l=true)
   clear h kk;go_enter Tryz.func47,Tryz.ntmps47;go_wp2;refine ap ?_;repeat (go_big_quiet_step (exact bp (KV.o _)))
   refine fq ?_;intro w2 aT;go_wp2;go_ret;exact⟨hK.o _ J.o,aT.o⟩
  ·have d1:decide (l<2)=false:=qaj h1;cases hf:f (l/2)with
   |nil=>
    have J:aj (wP f l=false):=(by simp[wP,d1,hf]:wP f l=false)
    rw[hf]at kk;clear h hf;go_enter Tryz.func47,Tryz.ntmps47;go_wp2;refine ap ?_;repeat (go_big_quiet_step (exact bp (KV.o _)))
    refine fq ?_;intro w2 aT;go_wp2;go_ret;exact⟨hK.o _ J.o,aT.o⟩
   |cons c r=>
    have J:aj (wP f l=true):=(by simp[wP,d0,hf]:wP f l=true)
    rw[hf]at kk;clear h hf;go_enter Tryz.func47,Tryz.ntmps47;go_wp2;refine ap ?_;repeat (go_big_quiet_step (exact bp (KV.o _)))
    refine fq ?_;intro w2 aT;go_wp2;go_ret;exact⟨hK.o _ J.o,aT.o⟩
 ·have d0:decide (0<=l)=false:=qaj l0;have J:aj (wP f l=false):=(by simp[wP,d0]:wP f l=false)
  have KV:=ae (fun W=>ze W l (by omega));clear h;go_enter Tryz.func47,Tryz.ntmps47;go_wp2;refine ap ?_;repeat (go_big_quiet_step (exact bp (KV.o _)))
  refine fq ?_;intro w2 aT;go_wp2;go_ret;exact⟨hK.o _ J.o,aT.o⟩
theorem TZ:∀args w,(callFunc 84 args).run Tryz.prog w= .ok (.enter 84 args) w:=enters_of Tryz.func84 (by kernel_rfl) rfl
theorem T2:∀args w,(callFunc 89 args).run Tryz.prog w= .ok (.enter 89 args) w:=enters_of Tryz.func89 (by kernel_rfl) rfl
theorem LG(w:World)(p g b n:Nat)(f:Int->List UInt8)(x:Int)(h:Ms w g b n f)(hp:w.cell? ⟨p,0,none⟩=some (.pointer (some ⟨g,0,none⟩)))(hr:eJ x):
  Calls Tryz.prog 84 #[.int .i64 x, .pointer (some ⟨p,0,none⟩)] w fun e w'=>e= .returned (.bool (!wP f x))/\Fr [] w w':=by
 have KC:=ae (ng w g b n f x h hr);clear h hr;go_enter Tryz.func84,Tryz.ntmps84;go_wp2_with fail;refine KC.o.mono ?_;obtain⟨q,J⟩:∃q,aj (wP f x=q):=⟨_,rfl⟩
 rw[J.o];rintro e w' ⟨rfl,hf⟩;have HF:=ae hf;clear hf;go_wp2;go_ret;exact⟨by rw[J.o];rfl,HF.o⟩
theorem vR(w:World)(g b n:Nat)(f:Int->List UInt8)(A:Option Addr)(c:Nat)(xs:List Int)(h:Ms w g b n f)(hx:Rd w A xs)(hr:Ra xs)(hl:xs.length<=17592186044416):
  Calls Tryz.prog 48 #[.pointer (some ⟨g,0,none⟩), .slice A xs.length c] w fun e w'=>e= .returned (.bool (xs.all (wP f)))/\Fr [] w w':=by
 have ab:∀(fn:Fn)(first cap:Array Value)(w:World),(Instr.makeFunc fn first cap).run Tryz.prog w= .ok (.func fn first cap) w:=fun _ _ _ _=>rfl;have J:=cQ w (.cells #[.pointer (some ⟨g,0,none⟩)] 87);have KC:=ae (jh (w.alloc (.cells #[.pointer (some ⟨g,0,none⟩)] 87)) A c xs 84 #[.pointer (some ⟨w.heap.size,0,none⟩)] (fun x=> !wP f x) TZ (hx.keep J) hr hl
  (fun W hW x _ hx=>LG W w.heap.size g b n f x (h.keep (J.ak hW)) (hW.aF (by simp)) hx))
 have dZ:=ae J;clear h hx hr J;go_enter Tryz.func48,Tryz.ntmps48;go_wp2_with fail;refine KC.o.mono ?_;obtain⟨q,HQ⟩:∃q,aj ((xs.any fun x=> !wP f x)=q):=⟨_,rfl⟩
 rw[HQ.o];rintro e w' ⟨rfl,hf⟩;have HF:=ae (dZ.o.ak hf);clear hf;go_wp2;go_ret;exact⟨by rw[List.all_eq_not_any_not,HQ.o];rfl,HF.o⟩
theorem FS(w:World)(c:UInt8):
  Calls Tryz.prog 122 #[.int .u8 c.toNat] w fun e w'=>e= .returned (.bool (eW c))/\w=w':=by
 have hK:aj (∀s,eW c=s->Ending.returned (.bool s)= .returned (.bool (eW c))):=fun s h=>by rw[h]
 by_cases h1:(c.toNat:Int)<33
 ·have d1:decide ((c.toNat:Int)<33)=true:=qak h1;have J:aj (eW c=true):=(by simp[eW,d1]:eW c=true)
  go_enter Tryz.func122,Tryz.ntmps122;go_wp2;go_ret;exact⟨hK.o _ J.o,rfl⟩
 ·have d1:decide ((c.toNat:Int)<33)=false:=qaj h1;by_cases h2:126<(c.toNat:Int)
  ·have d2:decide (126<(c.toNat:Int))=true:=qak h2;have J:aj (eW c=true):=(by simp[eW,d2]:eW c=true)
   go_enter Tryz.func122,Tryz.ntmps122;go_wp2;go_ret;exact⟨hK.o _ J.o,rfl⟩
  ·have d2:decide (126<(c.toNat:Int))=false:=qaj h2;have J:aj (eW c=false):=(by simp[eW,d1,d2]:eW c=false)
   go_enter Tryz.func122,Tryz.ntmps122;go_wp2;go_ret;exact⟨hK.o _ J.o,rfl⟩
theorem TY:∀args w,(callFunc 122 args).run Tryz.prog w= .ok (.enter 122 args) w:=enters_of Tryz.func122 (by kernel_rfl) rfl
theorem GN(w:World)(g c:Nat)(l:List UInt8)(h:∀j:Nat,j<l.length->w.cell? ⟨g,j,none⟩=some (.int .u8 (l[j]!).toNat))(hl:l.length<=17592186044416):
  Calls Tryz.prog 153 #[.slice (some ⟨g,0,none⟩) l.length c, .func (.func 122) #[] #[]] w (Q2 (l.any eW) w):=by
 have HH:=ae h;have xk:aj (∀(n:Nat) W,n<=17592186044416->l.any eW=true->Fr [] w W->Q2 (l.any eW) w (.returned (.int .i64 (n:Int))) W):=fun n W h1 h2 h3=>⟨n,rfl,by omega,by omega,by rw[h2];exact qak (by omega),h3⟩
 have NO:aj (∀W,l.any eW=false->Fr [] w W->Q2 (l.any eW) w (.returned (.int .i64 (-1))) W):=fun W h2 h3=>⟨-1,rfl,by omega,by omega,by rw[h2];rfl,h3⟩
 have eg:=TY;clear h;go_enter Tryz.func153,Tryz.ntmps153;go_wp2
 go_loop [8] (fun i=>∃k:Nat,k<=l.length/\i= .int .i64 k/\dT l eW k) (fun i=>l.length-(intOf i).toNat)
 case atStart=>exact⟨0,aU _,rfl,dT.zero _ _⟩
 case round=>
  obtain⟨k,hk,rfl,hn⟩:=hrel;have HN:=ae hn;clear hn;by_cases bt:k<l.length
  ·have cx:=HH.o k bt;obtain⟨x,he⟩:∃x,aj (l[k]! =x):=⟨_,rfl⟩
   rw[he.o]at cx;have HC:=ae (FS w x);go_wp2_with fail;refine HC.o.mono ?_;obtain⟨q,J⟩:∃q,aj (eW x=q):=⟨_,rfl⟩
   rw[J.o];rintro e w2 ⟨rfl,rfl⟩;cases q with
   |true=>
    go_wp2;go_ret;exact xk.o k _ (by omega) (kU _ _ k bt (by rw[he.o];exact J.o)) (Fr.refl _ _)
   |false=>
    go_wp2
    go_round
    case rel=>exact⟨k+1,by omega,by go_num,HN.o.step (by rw[he.o];exact J.o)⟩
    case measure=>simp[intOf];omega
  ·have HT:=ae (HN.o.all bt);go_wp2;go_ret;exact NO.o _ HT.o (Fr.refl _ _)
theorem z6(w:World)(g c:Nat)(l:List UInt8)(h:∀j:Nat,j<l.length->w.cell? ⟨g,j,none⟩=some (.int .u8 (l[j]!).toNat))(hl:l.length<=17592186044416):
  Calls Tryz.prog 121 #[.slice (some ⟨g,0,none⟩) l.length c, .func (.func 122) #[] #[]] w fun e w'=>e= .returned (.bool (l.any eW))/\Fr [] w w':=by
 have HC:=ae (GN w g c l h hl);clear h;go_enter Tryz.func121,Tryz.ntmps121;go_wp2_with fail;refine HC.o.mono ?_;rintro e w2 ⟨n,rfl,h1,h2,J,hf⟩;have H3:=ae J;have HF:=ae hf;clear J hf;go_wp2;go_ret;exact⟨by rw[<-H3.o];rfl,HF.o⟩
theorem T9(w:World)(e:TypeId)(s:ByteArray):Fr [] w (Lib.bytesWorld w e s):=
 ⟨rfl,rfl,rfl,by rw[Lib.bytesWorld_size];omega,fun k hk _=>Lib.bytesWorld_at_old w e s k hk⟩
def mn(s:ByteArray):Bool:= !s.toList.isEmpty&&decide ((s.size:Int)<=32)&& !qad s
theorem JD(w:World)(s:ByteArray)(hs:s.size<=maxLen):
  Calls Tryz.prog 87 #[.string s] w fun e w'=>e= .returned (.bool (mn s))/\Fr [] w w':=by
 unfold maxLen at hs;have hK:aj (∀x,mn s=x->Ending.returned (.bool x)= .returned (.bool (mn s))):=fun s h=>by rw[h]
 by_cases h1:s.toList.isEmpty=true
 ·have J:aj (mn s=false):=(by simp[mn,h1]:mn s=false)
  go_enter Tryz.func87,Tryz.ntmps87;go_wp2;go_ret;exact⟨hK.o _ J.o,Fr.refl _ _⟩
 ·have ab:=fa.2 h1;by_cases h2:(s.size:Int)<=32
  ·have d2:decide ((s.size:Int)<=32)=true:=qak h2;have HC:=ae (z6 (Lib.bytesWorld w 5 s) w.heap.size (grownCap w s.size 0 5) s.data.toList (fun j hj=>by rw[Lib.bytesWorld_cell w 5 s j hj,aa,List.getD_eq_getElem?_getD,af hj];rfl) (by simp;omega));have J:aj (mn s= !(s.data.toList.any eW)):=(by simp[mn,ab,d2,qad]:mn s= !(s.data.toList.any eW))
   have ad:=Lib.run_convert_string_bytes (P:=Tryz.prog) w 9 98 5 s Tryz.underlying9 Tryz.underlying98 Tryz.underlying5;have HF:=ae (T9 w 5 s);rw[show s.data.toList.length=s.size from rfl]at HC;go_enter Tryz.func87,Tryz.ntmps87;go_wp2_with fail;refine HC.o.mono ?_;obtain⟨q,HQ⟩:∃q,aj (s.data.toList.any eW=q):=⟨_,rfl⟩
   rw[HQ.o];rintro e w2 ⟨rfl,hf⟩;have df:=ae hf;clear hf;go_wp2;go_ret;exact⟨hK.o _ (by rw[J.o,HQ.o]),HF.o.ak df.o⟩
  ·have d2:decide ((s.size:Int)<=32)=false:=qaj h2;have J:aj (mn s=false):=(by simp[mn,d2]:mn s=false)
   go_enter Tryz.func87,Tryz.ntmps87;go_wp2;go_ret;exact⟨hK.o _ J.o,Fr.refl _ _⟩
def fd(c:UInt8):Int:=Lib.indexByte [105,108,111,98,99] c
theorem MF(c:UInt8):(ByteArray.mk #[c]).toList=[c]:=by rw[ByteArray.toList_eq]
theorem aaS(w:World)(c:UInt8):
  Calls Tryz.prog 170 #[.string ⟨#[105,108,111,98,99]⟩, .int .u8 c.toNat] w fun e w'=>e= .returned (.int .i64 (fd c))/\w=w':=by
 go_enter Tryz.func170,Tryz.ntmps170;go_wp2_with fail;rw[run_callFunc_extern Tryz.func185 (by kernel_rfl) (by kernel_rfl) (by kernel_rfl) (e:=Extern.BytealgIndexByte.indexByte) (by kernel_rfl),Lib.run_indexByteString];simp only[Result.andThen];rw[Oper.upon_value];go_wp2;go_ret;exact⟨by simp[fd],rfl⟩
theorem V0(w:World)(c:UInt8):
  Calls Tryz.prog 152 #[.string ⟨#[105,108,111,98,99]⟩, .string ⟨#[c]⟩] w fun e w'=>e= .returned (.int .i64 (fd c))/\w=w':=by
 go_enter Tryz.func152,Tryz.ntmps152;go_wp2_with fail;refine(aaS _ c).mono ?_;rintro e w' ⟨rfl,rfl⟩;go_wp2;go_ret;exact⟨rfl,rfl⟩
theorem FW(w:World)(c:UInt8):
  Calls Tryz.prog 120 #[.string ⟨#[105,108,111,98,99]⟩, .string ⟨#[c]⟩] w fun e w'=>e= .returned (.int .i64 (fd c))/\w=w':=by
 go_enter Tryz.func120,Tryz.ntmps120;go_wp2_with fail;refine(V0 _ c).mono ?_;rintro e w' ⟨rfl,rfl⟩;go_wp2;go_ret;exact⟨rfl,rfl⟩
theorem FX(w:World)(c:UInt8):
  Calls Tryz.prog 85 #[.string ⟨#[105,108,111,98,99]⟩, .string ⟨#[c]⟩] w fun e w'=>e= .returned (.bool (decide (0<=fd c)))/\w=w':=by
 go_enter Tryz.func85,Tryz.ntmps85;go_wp2_with fail;refine(FW _ c).mono ?_;rintro e w' ⟨rfl,rfl⟩;go_wp2;go_ret;exact⟨rfl,rfl⟩
def pw(C:Pc)(k:ByteArray):Int:=
 if(k.toList==[105])=true then C.ins.length else if(k.toList==[108])=true then C.az.length else if(k.toList==[111])=true then C.outs.length else if(k.toList==[98])=true then C.aI.length else C.aH.length
theorem DR(w:World)(H:Hd)(C:Pc)(s:ByteArray):
  Calls Tryz.prog 86 #[bY H C, .string s] w fun e w'=>e= .returned (.int .i64 (pw C s))/\Fr [] w w':=by
 have hK:aj (∀x,pw C s=x->Ending.returned (.int .i64 x)= .returned (.int .i64 (pw C s))):=fun s h=>by rw[h]
 obtain⟨mx,ins,az,outs,aI,aH,au,bD⟩:=C;obtain⟨iA,iC,lA,lC,oA,oC,bA,bC,vA,vC,gA,gC,nA,nC⟩:=H;simp only[bY,fv]at *;rcases jw s.toList [105]with g0 |g0
 ·have J:=ae (show pw ⟨mx,ins,az,outs,aI,aH,au,bD⟩ s=_ from by simp only[pw,g0,if_true];rfl);go_enter Tryz.func86,Tryz.ntmps86;go_wp2;go_ret;exact⟨hK.o _ J.o,cQ _ _⟩
 rcases jw s.toList [108]with g1 |g1
 ·have J:=ae (show pw ⟨mx,ins,az,outs,aI,aH,au,bD⟩ s=_ from by simp only[pw,g0,g1,if_true,if_false,bu];rfl);go_enter Tryz.func86,Tryz.ntmps86;go_wp2;go_ret;exact⟨hK.o _ J.o,cQ _ _⟩
 rcases jw s.toList [111]with g2 |g2
 ·have J:=ae (show pw ⟨mx,ins,az,outs,aI,aH,au,bD⟩ s=_ from by simp only[pw,g0,g1,g2,if_true,if_false,bu];rfl);go_enter Tryz.func86,Tryz.ntmps86;go_wp2;go_ret;exact⟨hK.o _ J.o,cQ _ _⟩
 rcases jw s.toList [98]with g3 |g3
 ·have J:=ae (show pw ⟨mx,ins,az,outs,aI,aH,au,bD⟩ s=_ from by simp only[pw,g0,g1,g2,g3,if_true,if_false,bu];rfl);go_enter Tryz.func86,Tryz.ntmps86;go_wp2;go_ret;exact⟨hK.o _ J.o,cQ _ _⟩
 have J:=ae (show pw ⟨mx,ins,az,outs,aI,aH,au,bD⟩ s=_ from by simp only[pw,g0,g1,g2,g3,if_false,bu];rfl);go_enter Tryz.func86,Tryz.ntmps86;go_wp2;go_ret;exact⟨hK.o _ J.o,cQ _ _⟩
theorem Wa(c:UInt8): -1<=fd c/\fd c<=4:=by
 simp only[fd,Lib.indexByte]
 repeat' split
 all_goals simp_all
def nJ(k:ByteArray):UInt8:=k.data.toList.headD 0
def tX(x:Nm):Int:=fd (nJ x.k)*2048+x.i
theorem JM(w:World)(c:UInt8)(i:Int)(t:ByteArray)(h0:0<=i)(h1:i<=17592186044416):
  Calls Tryz.prog 88 #[.agg #[.string ⟨#[c]⟩, .int .i64 i, .string t]] w fun e w'=>e= .returned (.int .i64 (fd c*2048+i))/\Fr [] w w':=by
 obtain⟨p1,p2⟩:=Wa c;have KI:=ae (fun W=>FW W c);generalize fd c=p at *;obtain⟨W1,J⟩:∃W,w.alloc (.cells #[.string ⟨#[c]⟩, .int .i64 i, .string t] 122)=W:=⟨_,rfl⟩
 have hO:At W1 w.heap.size 122 #[.string ⟨#[c]⟩, .int .i64 i, .string t]:=J▸At.new _ _ _;have dZ:aj (Fr [] w W1):=J▸cQ _ _;have c0:=hO.cell 0;have c1:=hO.cell 1;simp at c0 c1;have e0:=Ext.cell c0;have e1:=Ext.cell c1;have HW:=ae J;have m0:IntKind.i64.wrap (p*2048)=p*2048:=IntWalk.i64_in _ (by omega);have m1:IntKind.i64.wrap (p*2048+i)=p*2048+i:=IntWalk.i64_in _ (by omega);clear J hO c0 c1;go_enter Tryz.func88,Tryz.ntmps88;go_upto_region 1 with fail;rw[HW.o];refine ap ?_;repeat (go_big_quiet_step (exact bp (KI.o _)))
 refine fq ?_;intro w2 aT;go_wp2;go_ret;exact⟨rfl,dZ.o.ak aT.o⟩
theorem MM{k:ByteArray}(h:(k.size:Int)=1):∃c,k=⟨#[c]⟩:=by
 obtain⟨⟨l⟩⟩:=k;have hl:l.length=1:=by simp[ByteArray.size]at h;omega
 match l,hl with
 |[c],_=>exact⟨c,rfl⟩
theorem XT{w:World}{H:Hd}{C:Pc}(h:eZ w H C)(k:ByteArray):pw C k<=17592186044416:=by
 have h1:=h.iL;have J:=h.lL;have h3:=h.oL;have h4:=h.bL;have h5:=h.vL;unfold pw;split
 ·omega
 ·split
  ·omega
  ·split
   ·omega
   ·split<;>omega
def vv(C:Pc)(x:Nm):Bool:=decide ((x.k.size:Int)=1)&&decide (0<=fd (nJ x.k))&&decide (0<=x.i)&&decide (x.i<pw C x.k)&&mn x.t
def fU(C:Pc)(k:Nat):Prop:=∀j:Nat,j<k->vv C C.bD[j]! =true/\(0<j->tX C.bD[j-1]! <tX C.bD[j]!)
theorem fU.zero(C:Pc):fU C 0:=fun j J=>absurd J (aD _)
theorem fU.step{C:Pc}{k:Nat}(h:fU C k)(h1:vv C C.bD[k]! =true)(J:0<k->tX C.bD[k-1]! <tX C.bD[k]!):fU C (k+1):=fun j hj=>by
 by_cases e:j=k
 ·subst e;exact⟨h1,J⟩
 ·exact h j (by omega)
def NmP(C:Pc)(w:World)(e:Ending)(w':World):Prop:=∃b:Bool,e= .returned (.bool b)/\(b=true↔fU C C.bD.length)/\Fr [] w w'
theorem Gq(w:World)(H:Hd)(C:Pc)(h:eZ w H C):
  Calls Tryz.prog 49 #[bY H C] w (NmP C w):=by
 have HH:=ae h;have bS:=h.nL;have I1:=ae (fun k=>XT h k);clear h;have NO:aj (∀W,¬fU C C.bD.length->Fr [] w W->NmP C w (.returned (.bool false)) W):=fun W h1 h2=>⟨false,rfl,by simp[h1],h2⟩
 have xk:aj (∀W,fU C C.bD.length->Fr [] w W->NmP C w (.returned (.bool true)) W):=fun W h1 h2=>⟨true,rfl,by simp[h1],h2⟩
 have HS:=ae (Cx.start w H C);have KC:=ae (fun W s=>DR W H C s);have RK:=ae (fun W c i t h0 h1=>JM W c i t h0 h1);have aK:aj (∀k:Nat,k<C.bD.length->vv C C.bD[k]! =false->¬fU C C.bD.length):=fun k hk hb hn=>by have :=(hn k hk).1;rw[hb]at this;cases this
 have aM:aj (∀k:Nat,k<C.bD.length->0<k->¬tX C.bD[k-1]! <tX C.bD[k]! ->¬fU C C.bD.length):=fun k hk h0 hb hn=>hb ((hn k hk).2 h0);obtain⟨mx,ins,az,outs,aI,aH,au,bD⟩:=C;obtain⟨iA,iC,lA,lC,oA,oC,bA,bC,vA,vC,gA,gC,nA,nC⟩:=H;simp only[bY,fv]at *;go_enter Tryz.func49,Tryz.ntmps49;go_wp2_with fail;go_loopg [8] bD.length (fun g i wr=>∃k:Nat,k+g=bD.length/\i= .int .i64 k/\Cx w wr ⟨iA,iC,lA,lC,oA,oC,bA,bC,vA,vC,gA,gC,nA,nC⟩ ⟨mx,ins,az,outs,aI,aH,au,bD⟩/\fU ⟨mx,ins,az,outs,aI,aH,au,bD⟩ k);case atStart=>exact⟨0,by omega,rfl,HS.o,fU.zero _⟩
 case round=>
  obtain⟨k,hk,rfl,hx,hn⟩:=hrel;have HK:=ae hk;have HX:=ae hx;have HN:=ae hn;have iS:k<=bD.length:=by omega
  obtain⟨c0,c1,c2,c3,c4,c5,c6,c7⟩:=hx.cells;clear hk hx hn;by_cases bt:k<bD.length
  ·obtain⟨b,o,x,y,z,hA,he,cx,cy,cz,gU,⟨iO,ld⟩,pj⟩:=(HH.o.keep HX.o.fr).n.one HH.o.nr bt;simp only at hA;subst hA;go_upto_region 4 with fail;obtain⟨W1,iQ⟩:∃W,wr.alloc (.cells #[.string x, .int .i64 y, .string z] 122)=W:=⟨_,rfl⟩
   rw[iQ];have hO:At W1 wr.heap.size 122 #[.string x, .int .i64 y, .string z]:=iQ▸At.new _ _ _;have dZ:aj (Fr [] wr W1):=iQ▸cQ _ _;clear iQ c0 c1 c2 c3 c4 c5 c6 c7 cx cy cz;generalize wr.heap.size=ob at hO⊢;have ia:=ae (HX.o.keep dZ.o);have HO:=ae hO;clear hO;obtain⟨hb,HB⟩:∃hb,aj (vv ⟨mx,ins,az,outs,aI,aH,au,bD⟩ ⟨x,y,z⟩=hb):=⟨_,rfl⟩
   obtain⟨tb,aB⟩:∃tb,aj (mn z=tb):=⟨_,rfl⟩
   have ad:=fun W=>JD W z pj;rw[aB.o]at ad;have KT:=ae ad;obtain⟨n,Mf⟩:∃n,aj (pw ⟨mx,ins,az,outs,aI,aH,au,bD⟩ x=n):=⟨_,rfl⟩
   have ab:=fun W=>KC.o W x;rw[Mf.o]at ab;have KQ:=ae ab;clear ab ad;have GO:=gU;unfold maxLen at GO
   go_cut [42] (fun st wx=>st= .bool (!hb)/\Fr [] W1 wx)
   case first =>
    have nx:W1.cell? ⟨ob,0,none⟩=some (.string x):=by rw[HO.o.cell];rfl
    have ny:W1.cell? ⟨ob,1,none⟩=some (.int .i64 y):=by rw[HO.o.cell];rfl
    have nz:W1.cell? ⟨ob,2,none⟩=some (.string z):=by rw[HO.o.cell];rfl
    have ex:=Ext.cell nx;have ey:=Ext.cell ny;have ez:=Ext.cell nz;obtain⟨e0,e1,e2,e3,e4,e5,e6,e7⟩:=ia.o.ext;by_cases s1:(x.size:Int)=1
    ·obtain⟨c,hc⟩:=MM s1;subst hc;have KS:=ae (fun W=>FX W c);clear s1;by_cases p0:0<=fd c
     ·have ba:decide (0<=fd c)=true:=qak p0;have PL:aj (fd (nJ ⟨#[c]⟩)=fd c):=rfl;by_cases h0:0<=y
      ·have d0:decide (y<0)=false:=qaj (by omega);by_cases h1:y<n
       ·have d1:decide (n<=y)=false:=qaj (by omega);go_wp2;refine ap ?_;repeat (go_big_quiet_step (first | (go_at_call 85;exact bp (KS.o _)) | (go_at_call 86;exact bf (KQ.o _)) | (go_at_call 87;exact bf (KT.o _))))
        refine fq ?_;intro w2 J;go_wp2;go_meet;exact⟨by rw[<-HB.o];simp[vv,PL.o,p0,h0,Mf.o,h1,aB.o,ByteArray.size],J.o⟩
       ·have d1:decide (n<=y)=true:=qak (by omega);go_wp2;refine ap ?_;repeat (go_big_quiet_step (first | (go_at_call 85;exact bp (KS.o _)) | (go_at_call 86;exact bf (KQ.o _)) | (go_at_call 87;exact bf (KT.o _))))
        refine fq ?_;intro w2 J;go_wp2;go_meet;exact⟨by rw[<-HB.o];simp[vv,Mf.o,h1],J.o⟩
      ·have d0:decide (y<0)=true:=qak (by omega);go_wp2;refine ap ?_;repeat (go_big_quiet_step (first | (go_at_call 85;exact bp (KS.o _)) | (go_at_call 86;exact bf (KQ.o _)) | (go_at_call 87;exact bf (KT.o _))))
       refine fq ?_;intro w2 J;go_wp2;go_meet;exact⟨by rw[<-HB.o];simp[vv,show ¬0<=y from by omega],J.o⟩
     ·have ba:decide (0<=fd c)=false:=qaj p0;have PL:aj (fd (nJ ⟨#[c]⟩)=fd c):=rfl;go_wp2;refine ap ?_;repeat (go_big_quiet_step (first | (go_at_call 85;exact bp (KS.o _)) | (go_at_call 86;exact bf (KQ.o _)) | (go_at_call 87;exact bf (KT.o _))))
      refine fq ?_;intro w2 J;go_wp2;go_meet;exact⟨by rw[<-HB.o];simp[vv,PL.o,p0],J.o⟩
    ·have bT:((x.size:Int) !=1)=true:=(by simp[s1])
     have S1:=ae s1;clear s1;go_wp2;refine ap ?_;repeat (go_big_quiet_step (fail))
     refine fq ?_;intro w2 J;go_wp2;go_meet;exact⟨by rw[<-HB.o];simp[vv,S1.o],J.o⟩
   case rest=>
    obtain⟨rfl,Nw⟩:=hcut;have ar:=ae Nw;clear Nw;have fZ:=ae (ia.o.keep ar.o);have qR:=ae (HO.o.keep ar.o);cases hb with
    |false=>
     go_wp2;go_ret;exact NO.o _ (aK.o k bt (by rw[he.o];exact HB.o)) fZ.o.fr
    |true=>
     have QQ:=HB.o;simp only[vv,ax,qam]at QQ;obtain⟨⟨⟨⟨s1,p0⟩,h0⟩,h1⟩,_⟩:=QQ;obtain⟨c,hc⟩:=MM s1;have h2:=I1.o x;subst hc;have Vg:y<=17592186044416:=(by omega)
     clear s1 p0 h1 h2;have nx:wc.cell? ⟨ob,0,none⟩=some (.string ⟨#[c]⟩):=by rw[qR.o.cell];rfl
     have ny:wc.cell? ⟨ob,1,none⟩=some (.int .i64 y):=by rw[qR.o.cell];rfl
     have nz:wc.cell? ⟨ob,2,none⟩=some (.string z):=by rw[qR.o.cell];rfl
     have ex:=Ext.cell nx;have ey:=Ext.cell ny;have ez:=Ext.cell nz;obtain⟨e0,e1,e2,e3,e4,e5,e6,e7⟩:=fZ.o.ext;by_cases He:0<k
     ·obtain⟨j,rfl⟩:∃j,k=j+1:=⟨k-1,by omega⟩
      obtain⟨b',o',x',y',z',yp,fj,Jm,rF,XR,OT,⟨bj,bg⟩,bb⟩:=(HH.o.keep fZ.o.fr).n.one HH.o.nr (show j<bD.length by omega);simp only[Option.some.injEq,Addr.mk.injEq,and_true]at yp;obtain⟨rfl,rfl⟩:=yp;have QQ:=(HN.o j (by omega)).1;simp only[fj.o]at QQ;simp only[vv,ax,qam]at QQ;obtain⟨⟨⟨⟨s1,p0⟩,bO⟩,h1⟩,_⟩:=QQ;obtain⟨c',a1⟩:=MM s1;have h2:=I1.o x';subst a1;have bo:y'<=17592186044416:=(by omega)
      clear s1 p0 h1 h2;have bB:=Ext.cell Jm;have bG:=Ext.cell rF;have bI:=Ext.cell XR;clear Jm rF XR nx ny nz;by_cases hr:fd c*2048+y<=fd c'*2048+y'
      ·have dr:decide (fd c*2048+y<=fd c'*2048+y')=true:=qak hr;have HR:=ae hr;clear hr;go_wp2;refine ap ?_;repeat (go_big_quiet_step (exact bf (RK.o _ _ _ _ (by omega) (by omega))))
       refine fq ?_;intro w2 J;go_wp2;go_ret;exact NO.o _ (aM.o (j+1) bt He (by rw[dt,he.o,fj.o];have :=HR.o;show fd c*2048+y<=fd c'*2048+y';omega)) (fZ.o.fr.ak J.o)
      ·have dr:decide (fd c*2048+y<=fd c'*2048+y')=false:=qaj hr;have HR:=ae hr;clear hr;go_wp2;refine ap ?_;repeat (go_big_quiet_step (exact bf (RK.o _ _ _ _ (by omega) (by omega))))
       refine fq ?_;intro w2 J;go_wp2;go_roundg (gk-1);case measure=>have :=HK.o;omega
       case rel=>exact⟨j+2,by have :=HK.o;omega,by go_num,fZ.o.keep J.o,HN.o.step (by rw[he.o];exact HB.o) (fun h=>by rw[dt,he.o,fj.o];have :=HR.o;show fd c'*2048+y'<fd c*2048+y;omega)⟩
     ·obtain rfl :k=0:=by omega
      go_wp2;refine ap ?_;repeat (go_big_quiet_step (fail))
      refine fq ?_;intro w2 J;go_wp2;go_roundg (gk-1);case measure=>have :=HK.o;omega
      case rel=>exact⟨1,by have :=HK.o;omega,by go_num,fZ.o.keep J.o,HN.o.step (by rw[he.o];exact HB.o) (fun h=>absurd h (da _))⟩
  ·have HT:aj (fU ⟨mx,ins,az,outs,aI,aH,au,bD⟩ bD.length):=(by rw[show bD.length=k from by omega];exact HN.o:fU ⟨mx,ins,az,outs,aI,aH,au,bD⟩ bD.length)
   go_wp2;go_ret;exact xk.o _ HT.o HX.o.fr
end Go.Proofs.YtpjbaobgnhjgoaaGreat
