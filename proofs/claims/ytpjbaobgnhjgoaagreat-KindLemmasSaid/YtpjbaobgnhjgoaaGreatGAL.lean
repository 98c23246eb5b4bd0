/- Parts of a proof. -/
import Derived.Test.YtpjbaobgnhjgoaaGreatGAK
set_option linter.unusedVariables false
set_option maxHeartbeats 8000000
namespace Go.Proofs.YtpjbaobgnhjgoaaGreat
open Go.RowKit
def tx(l:List UInt8):ByteArray:=⟨l.toArray⟩
theorem iG(l:List UInt8):(tx l).size=l.length:=by simp[tx,ByteArray.size]
theorem Rj(l:List UInt8)(i:Nat)(h:i<(tx l).size):(tx l)[i]=l[i]'(by rw[<-iG];exact h):=rfl
theorem vg(w:World)(l:List UInt8)(i:Nat)(c:UInt8)(hi:i<l.length)(hs:l.length<=4096):
  Calls Tryz.prog 32 #[.string (tx l), .int .i64 i, .int .u8 (c.toNat:Int)] w fun e w'=>e= .returned (.string (tx (l.set i c)))/\Fr [] w w':=by
 have hz:=iG l;obtain⟨s,J⟩:∃s,tx l=s:=⟨_,rfl⟩
 have HE:aj (s.extract 0 i++⟨#[c]⟩++s.extract (i+1) l.length=tx (l.set i c)):=by rw[<-J];refine ae (ByteArray.ext (Array.toList_inj.1 ?_));simp[tx,ByteArray.data_append,ByteArray.data_extract,List.set_eq_take_append_cons_drop,hi];rw[dv (by simp)]
 rw[J]at hz⊢;have h1:i<=s.size:=by omega
 have h2:i+1<=s.size:=by omega
 have h3:s.size<=4096:=by omega
 have ab:=run_convert_bytes_back (P:=Tryz.prog) (w.alloc (.cells #[.int .u8 (c.toNat:Int)] 5)).drew 98 9 5 ⟨w.heap.size,0,none⟩ 1 [c] Tryz.underlying98 Tryz.underlying5 Tryz.underlying9 (fun j hj=>by simp at hj;subst hj;simp[Addr.add]);simp at ab;clear J;go_enter Tryz.func32,Tryz.ntmps32;go_wp2;go_region;go_wp2;go_ret;rw[HE.o];exact⟨rfl,((Fr.refl [] w).alloc _).drew⟩
def lJ(L:List UInt8)(l:Int):Bool:=(L[(l/2).toNat]? ==some 49) !=(l%2==1)
theorem jv(w:World)(L:List UInt8)(l:Int)(h0:0<=l)(h1:l<=9000)(hL:L.length<=4096):
  Calls Tryz.prog 33 #[.string (tx L), .int .i64 l] w fun e w'=>e= .returned (.bool (lJ L l))/\Fr [] w w':=by
 obtain⟨n,hn⟩:∃n:Nat,l/2=n:=⟨(l/2).toNat,by omega⟩
 have hz:=iG L;have Bg:(l/2).toNat=n:=by omega
 obtain⟨r,hr⟩:∃r,(l%2==1)=r:=⟨_,rfl⟩
 have KV:=ae (V1 w l h0 (by omega));have KN:=ae (fun W=>V4 W l h0 (by omega));rw[hn]at KV;rw[hr]at KN;unfold lJ;rw[Bg,hr];by_cases bt:n<L.length
 ·have oP:n<(tx L).size:=by omega
  obtain⟨q,J⟩:∃q,(((tx L)[n].toNat:Int)==49)=q:=⟨_,rfl⟩
  have HQ:aj ((L[n]? ==some 49)=q):=(by
   have e:(tx L)[n]=L[n]'bt:=rfl;have key:((tx L)[n].toNat:Int)=((L[n]'bt).toNat:Int):=aaa (fun x:UInt8=>(x.toNat:Int)) e;rw[<-J,key,af bt];rw[Bool.eq_iff_iff];simp only[beq_iff_eq,Option.some.injEq];constructor
   ·intro h;rw[h];rfl
   ·intro h;apply UInt8.toNat_inj.1;have :(49:UInt8).toNat=49:=rfl;omega:(L[n]? ==some 49)=q)
  rw[HQ.o];clear HQ hn Bg hr;generalize tx L=s at hz oP J⊢;go_enter Tryz.func33,Tryz.ntmps33;go_wp2_with fail;refine KV.o.mono ?_;rintro e w1 ⟨rfl,rfl⟩;cases q with
  |true=>
   go_wp2_with fail;refine(KN.o _).mono ?_;rintro e w1 ⟨rfl,rfl⟩;go_wp2;go_ret;exact⟨by cases r<;>rfl,Fr.refl _ _⟩
  |false=>
   go_wp2_with fail;refine(KN.o _).mono ?_;rintro e w1 ⟨rfl,rfl⟩;go_wp2;go_ret;exact⟨by cases r<;>rfl,Fr.refl _ _⟩
 ·have J:(L[n]? ==some 49)=false:=by rw[iZ (by omega)];rfl
  have pJ:decide ((n:Int)<(L.length:Int))=false:=qaj (by omega);rw[J];clear J hn Bg hr;generalize tx L=s at hz⊢;have ab:¬n<s.size:=by omega
  go_enter Tryz.func33,Tryz.ntmps33;go_wp2_with fail;refine KV.o.mono ?_;rintro e w1 ⟨rfl,rfl⟩;go_wp2_with fail;refine(KN.o _).mono ?_;rintro e w1 ⟨rfl,rfl⟩;go_wp2;go_ret;exact⟨by cases r<;>rfl,Fr.refl _ _⟩
def oG(b:Bool):UInt8:=if b then 49 else 48
theorem P1(w:World)(b:Bool):
  Calls Tryz.prog 56 #[.bool b] w fun e w'=>e= .returned (.string (tx [oG b]))/\Fr [] w w':=by
 cases b with
 |true=>
  go_enter Tryz.func56,Tryz.ntmps56;go_wp2;go_ret;exact⟨rfl,Fr.refl _ _⟩
 |false=>
  go_enter Tryz.func56,Tryz.ntmps56;go_wp2;go_ret;exact⟨rfl,Fr.refl _ _⟩
theorem G6(w:World)(L:List UInt8)(A:Option Addr)(c:Nat)(xs:List Int)(hx:Rd w A xs)(hr:Ra xs)(hl:xs.length<=17592186044416)(mO:∀y∈xs,0<=y/\y<=9000)(hL:L.length<=4096):
  Calls Tryz.prog 16 #[.string (tx L), .slice A xs.length c] w fun e w'=>e= .returned (.bool (xs.any (lJ L)))/\Fr [] w w':=by
 have hK:aj (∀s,xs.any (lJ L)=s->Ending.returned (.bool s)= .returned (.bool (xs.any (lJ L)))):=fun s h=>by rw[h]
 have HX:=ae hx;have HR:=ae hr;have UT:=ae mO;have KT:=ae (fun W l h0 h1=>jv W L l h0 h1 hL);clear hx hr mO;obtain⟨s,hs⟩:∃s,tx L=s:=⟨_,rfl⟩
 rw[hs]at KT⊢;clear hs;go_enter Tryz.func16,Tryz.ntmps16;go_wp2_with fail;go_loopg [5] xs.length (fun g i wr=>∃k:Nat,k+g=xs.length/\i= .int .i64 k/\Fr [] w wr/\dT xs (lJ L) k);case atStart=>exact⟨0,by omega,rfl,Fr.refl _ _,dT.zero _ _⟩
 case round=>
  obtain⟨k,hk,rfl,J,hn⟩:=hrel;have HK:=ae hk;have HF:=ae J;have HN:=ae hn;have iS:k<=xs.length:=by omega
  clear hk J hn;by_cases bt:k<xs.length
  ·obtain⟨b,o,x,hA,he,cx,gU,jn⟩:=(HX.o.keep HF.o).one HR.o bt;subst hA;have rN:0<=x/\x<=9000:=UT.o x (by rw[<-he.o,aa,af bt];simp);obtain⟨q,HQ⟩:∃q,aj (lJ L x=q):=⟨_,rfl⟩
   have HC:=ae (KT.o wr x rN.1 rN.2);rw[HQ.o]at HC;go_wp2_with fail;refine HC.o.mono ?_;rintro e w2 ⟨rfl,J⟩;have df:=ae (HF.o.ak J);clear J cx;cases q with
   |true=>
    go_wp2;go_ret;exact⟨hK.o _ (kU _ _ k bt (by rw[he.o];exact HQ.o)),df.o⟩
   |false=>
    go_wp2;go_roundg (gk-1);case measure=>have :=HK.o;omega
    case rel=>exact⟨k+1,by have :=HK.o;omega,by go_num,df.o,HN.o.step (by rw[he.o];exact HQ.o)⟩
  ·have HT:aj (xs.any (lJ L)=false):=HN.o.all bt;clear HN HK;go_wp2;go_ret;exact⟨hK.o _ HT.o,HF.o⟩
def xg(c:UInt8):Bool:=c==48 ||c==49
def lG(s:ByteArray)(n:Nat):Bool:=s.data.toList.all xg&&decide (s.size=n)
theorem px(w:World)(s:ByteArray)(n:Nat)(hs:s.size<=maxLen)(hn:n<=17592186044416):
  Calls Tryz.prog 31 #[.string s, .int .i64 n] w fun e w'=>e= .returned (.bool (lG s n))/\Fr [] w w':=by
 have hK:aj (∀b,lG s n=b->Ending.returned (.bool b)= .returned (.bool (lG s n))):=fun s h=>by rw[h]
 have nM:s.data.toList.length=s.size:=Array.length_toList;rw[maxLen]at hs;go_enter Tryz.func31,Tryz.ntmps31;go_wp2_with fail;go_loopg [5] s.size (fun g i wr=>∃k:Nat,k+g=s.size/\i= .int .i64 k/\Fr [] w wr/\qV s.data.toList xg k);case atStart=>exact⟨0,by omega,rfl,Fr.refl _ _,qV.zero _ _⟩
 case round=>
  obtain⟨k,hk,rfl,hf,hn⟩:=hrel;have HK:=ae hk;have HF:=ae hf;have HN:=ae hn;have iS:k<=s.size:=by omega
  clear hk hf hn;by_cases bt:k<s.size
  ·have ad:k<s.data.toList.length:=by omega
   have oR:s.data.toList[k]! =s[k]:=by rw[aa,af ad];rfl
   by_cases J:(s[k].toNat:Int)=48
   ·have d1:((s[k].toNat:Int) !=48)=false:=by rw[bne_eq_false_iff_eq];exact J
    have HB:aj (xg (s.data.toList[k]!)=true):=(by rw[oR];have :s[k]=48:=UInt8.toNat_inj.1 (by have :(48:UInt8).toNat=48:=rfl;omega);rw[this];rfl :xg (s.data.toList[k]!)=true)
    clear oR J;go_wp2;go_roundg (gk-1);case measure=>have :=HK.o;omega
    case rel=>exact⟨k+1,by have :=HK.o;omega,by go_num,HF.o,HN.o.step HB.o⟩
   ·have d1:((s[k].toNat:Int) !=48)=true:=by rw[bne_iff_ne];exact J
    obtain⟨q,HQ⟩:∃q:Bool,aj (((s[k].toNat:Int)==49)=q):=⟨((s[k].toNat:Int)==49),ae rfl⟩
    have d2:((s[k].toNat:Int) !=49)= !q:=(by rw[bne,HQ.o])
    have HB:aj (xg (s.data.toList[k]!)=q):=(by
     rw[oR,<-HQ.o,xg];have h1:(s[k]==48)=false:=by rw[aab];intro h;rw[h]at J;exact J rfl
     rw[h1,Bool.false_or,Bool.eq_iff_iff];simp only[beq_iff_eq];constructor
     ·intro h;rw[h];rfl
     ·intro h;apply UInt8.toNat_inj.1;have :(49:UInt8).toNat=49:=rfl;omega:xg (s.data.toList[k]!)=q)
    clear oR J;cases q with
    |true=>
     simp only[Bool.not_true]at d2;go_wp2;go_roundg (gk-1);case measure=>have :=HK.o;omega
     case rel=>exact⟨k+1,by have :=HK.o;omega,by go_num,HF.o,HN.o.step HB.o⟩
    |false=>
     simp only[Bool.not_false]at d2;go_wp2;go_ret;exact⟨hK.o _ (by rw[lG,N1 ad HB.o];rfl),HF.o⟩
  ·have HT:aj (s.data.toList.all xg=true):=HN.o.all (by omega);have ab:aj (lG s n=decide (s.size=n)):=(by rw[lG,HT.o,ff]:lG s n=decide (s.size=n))
   clear HN HK HT;by_cases hq:s.size=n
   ·have d:((s.size:Int)==(n:Int))=true:=by rw[beq_iff_eq];omega
    go_wp2;go_ret;exact⟨hK.o _ (by rw[ab.o];simp[hq]),HF.o⟩
   ·have d:((s.size:Int)==(n:Int))=false:=by rw[aab];omega
    go_wp2;go_ret;exact⟨hK.o _ (by rw[ab.o];simp[hq]),HF.o⟩
def ov(ins:List Int)(J:List UInt8)(v:List UInt8):Nat->List UInt8
 |0=>v
 |k+1=>(ov ins J v k).set (ins[k]! /2).toNat J[k]!
def pg(az:List T3)(st:List UInt8)(v:List UInt8):Nat->List UInt8
 |0=>v
 |k+1=>(pg az st v k).set ((az[k]!).a/2).toNat st[k]!
def Lt(v:List UInt8)(x:T3):List UInt8:=if lJ v x.b&&lJ v x.c then v.set (x.a/2).toNat 49 else v
def yr(au:List T3)(v:List UInt8):Nat->List UInt8
 |0=>v
 |k+1=>Lt (yr au v k) au[k]!
def QA(C:Pc):List UInt8:=List.replicate (C.mx+1).toNat 48
def sI(C:Pc)(st J:ByteArray):List UInt8:=pg C.az st.data.toList (ov C.ins J.data.toList (QA C) C.ins.length) C.az.length
def tG(C:Pc)(st J:ByteArray):List UInt8:=yr C.au (sI C st J) C.au.length
theorem ou(ins:List Int)(J v:List UInt8):∀k,(ov ins J v k).length=v.length
 |0=>rfl
 |k+1=>by rw[ov,aw,ou ins J v k]
theorem qE(az:List T3)(st v:List UInt8):∀k,(pg az st v k).length=v.length
 |0=>rfl
 |k+1=>by rw[pg,aw,qE az st v k]
theorem TJ(v:List UInt8)(x:T3):(Lt v x).length=v.length:=by
 unfold Lt;split
 ·rw[aw]
 ·rfl
theorem yq(au:List T3)(v:List UInt8):∀k,(yr au v k).length=v.length
 |0=>rfl
 |k+1=>by rw[yr,TJ,yq au v k]
theorem tC(C:Pc)(h:0<=C.mx):((QA C).length:Int)=C.mx+1:=by simp[QA];omega
theorem Gc(C:Pc)(st J:ByteArray):(sI C st J).length=(QA C).length:=by rw[sI,qE,ou]
theorem FK(C:Pc)(st J:ByteArray):(tG C st J).length=(QA C).length:=by rw[tG,yq,Gc]
theorem uK{C:Pc}(h:Valid C):∀x∈cm C,2<=x/\x<=2*C.mx/\x%2=0:=by refine(fR (p:=fun x:Int=>2<=x/\x<=2*C.mx/\x%2=0)).1 fun j J=> ?_;have :=h.own j J;simp only[kw,ax,qam]at this;exact⟨this.1.1.1,this.1.2,this.1.1.2⟩
theorem Nb{C:Pc}(h:Valid C)(j:Nat)(J:j<C.ins.length):2<=C.ins[j]! /\C.ins[j]! <=2*C.mx/\C.ins[j]! %2=0:=by refine uK h _ ?_;rw[aa,af J];simp[cm]
theorem M7{C:Pc}(h:Valid C)(j:Nat)(J:j<C.az.length):2<=(C.az[j]!).a/\(C.az[j]!).a<=2*C.mx/\(C.az[j]!).a%2=0:=by refine uK h _ ?_;rw[aa,af J];simp only[cm,ah,aN,aJ];exact .inl (.inr ⟨_,gu J,rfl⟩)
theorem Sl{C:Pc}(h:Valid C){v:Int}(hk:gP C v=true):v<=C.mx:=by
 simp only[gP,dI,qam,cP,hit,ax]at hk;have h0:=h.m0;rcases hk with((rfl |⟨x,J,_,rfl⟩) |⟨x,J,_,rfl⟩) |⟨x,J,_,rfl⟩
 ·exact h0
 ·have :=uK h x (by simp[cm,J]);omega
 ·have :=uK h x.a (by simp only[cm,ah,aN];exact .inl (.inr ⟨x,J,rfl⟩));omega
 ·have :=uK h x.a (by simp only[cm,ah,aN];exact .inr ⟨x,J,rfl⟩);omega
theorem J0{C:Pc}(h:Valid C){l:Int}(hk:fh C l=true):0<=l/\l<=2*C.mx+1:=by simp only[fh,ax,qam]at hk;have :=Sl h hk.2;omega
theorem Uj{C:Pc}(h:Valid C)(j:Nat)(hj:j<C.au.length):fh C (C.au[j]!).b=true/\fh C (C.au[j]!).c=true/\(C.au[j]!).b<(C.au[j]!).a/\(C.au[j]!).c<(C.au[j]!).a:=by have J:=h.au j hj;simp only[vQ,ax,qam]at J;exact⟨J.1.2,J.2,J.1.1.1.2,J.1.1.2⟩
theorem Wu{C:Pc}(h:Valid C)(j:Nat)(hj:j<C.az.length):fh C (C.az[j]!).b=true:=by have J:=h.az j hj;simp only[Bb,ax]at J;exact J.2
theorem VU(l:List UInt8)(c:UInt8):tx l++⟨#[c]⟩=tx (l++[c]):=by refine ByteArray.ext (Array.toList_inj.1 ?_);simp[tx,ByteArray.data_append]
theorem Ag{s:ByteArray}{n:Nat}(h:lG s n=true):s.size=n:=by simp only[lG,ax,qam]at h;exact h.2
theorem We(C:Pc)(h:Valid C)(j:Nat)(J:j<C.au.length):2<=(C.au[j]!).a/\(C.au[j]!).a<=2*C.mx/\(C.au[j]!).a%2=0:=by
 have hl:C.ins.length+C.az.length+j<(cm C).length:=by simp[cm];omega
 have :=h.own _ hl;have e:(cm C)[C.ins.length+C.az.length+j]! =(C.au[j]!).a:=by rw[cm,aa,bX (by simp)];simp[af J]
 simp only[kw,e,ax,qam]at this;exact⟨this.1.1.1,this.1.2,this.1.1.2⟩
set_option maxRecDepth 100000 in
theorem tF(w:World)(H:Hd)(C:Pc)(st J:ByteArray)(h:eZ w H C)(gD:H.iA=none->C.ins.length=0/\H.iC=0)(hv:Valid C)(nU:lG st C.az.length=true)(Je:lG J C.ins.length=true):
  Calls Tryz.prog 14 #[bY H C, .string st, .string J] w fun e w'=>e= .returned (.tuple #[.string (tx (tG C st J)), .int .i64 0])/\Fr [] w w':=by
 have HH:=ae h;have HS:=ae (Cx.start w H C);have HV:=ae hv;have uY:=hv.m0;have sl:=hv.m1;have Vk:=hv.i;have nV:=hv.l;have pO:st.size=C.az.length:=Ag nU;have mO:J.size=C.ins.length:=Ag Je;have I3:=ae (fun W (hf:Fr [] w W)=>tV W H C (h.keep hf) gD hv);have IT:=ae (fun W=>px W st C.az.length (by unfold maxLen;omega) (by omega));have ar:=ae (fun W=>px W J C.ins.length (by unfold maxLen;omega) (by omega));rw[nU]at IT;rw[Je]at ar;clear h gD hv nU Je;obtain⟨mx,ins,az,outs,aI,aH,au,bD⟩:=C;obtain⟨iA,iC,lA,lC,oA,oC,bA,bC,vA,vC,gA,gC,nA,nC⟩:=H;simp only[bY,fv]at *;go_enter Tryz.func14,Tryz.ntmps14;obtain⟨c0,c1,c2,c3,c4,c5,c6,c7⟩:=HS.o.cells;go_wp2_with fail;refine(I3.o _ HS.o.fr).mono ?_;clear c0 c1 c2 c3 c4 c5 c6 c7;rintro e W1 ⟨rfl,di⟩;have ia:=ae (HS.o.keep di);clear di HS;obtain⟨c0,c1,c2,c3,c4,c5,c6,c7⟩:=ia.o.cells;go_wp2_with fail;refine(IT.o _).mono ?_;rintro e W2 ⟨rfl,cE⟩;have fZ:=ae (ia.o.keep cE);clear cE c0 c1 c2 c3 c4 c5 c6 c7;obtain⟨c0,c1,c2,c3,c4,c5,c6,c7⟩:=fZ.o.cells;go_wp2_with fail;refine(ar.o _).mono ?_;rintro e W3 ⟨rfl,dN⟩;have kK:=ae (fZ.o.keep dN);clear dN c0 c1 c2 c3 c4 c5 c6 c7;obtain⟨M,hM⟩:=Int.eq_ofNat_of_zero_le uY;have HM:=ae hM;have HZ:aj (List.replicate (M+1) 48=QA ⟨mx,ins,az,outs,aI,aH,au,bD⟩):=(by simp only[QA];rw[hM];congr 1:List.replicate (M+1) 48=QA ⟨mx,ins,az,outs,aI,aH,au,bD⟩)
 have ad:(QA ⟨mx,ins,az,outs,aI,aH,au,bD⟩).length=M+1:=by rw[<-HZ.o];simp
 clear hM IT ar I3 ia fZ;go_wp2_with fail;go_loopg [8,9] (M+1) (fun g s i wr=>∃k:Nat,k+g=M+1/\s= .string (tx (List.replicate k 48))/\i= .int .i64 k/\Cx w wr ⟨iA,iC,lA,lC,oA,oC,bA,bC,vA,vC,gA,gC,nA,nC⟩ ⟨mx,ins,az,outs,aI,aH,au,bD⟩);case atStart=>exact⟨0,by omega,rfl,rfl,kK.o⟩
 case round=>
  obtain⟨k,hk,rfl,rfl,hx⟩:=hrel;have HK:=ae hk;have HX:=ae hx;have iS:k<=M+1:=by omega
  have hz:=iG (List.replicate k 48);rw[a8]at hz;have HE:aj (tx (List.replicate k 48)++⟨#[48]⟩=tx (List.replicate (k+1) 48)):=(by rw[VU,List.replicate_succ']:tx (List.replicate k 48)++⟨#[48]⟩=tx (List.replicate (k+1) 48))
  clear hk kK;have c0:=hx.cells.1;clear hx;by_cases bt:k<M+1
  ·have d1:decide ((k:Int)<=mx)=true:=qak (by have :=HM.o;omega);have d2:(k:Int)<=mx:=by have :=HM.o;omega
   obtain⟨s,hs⟩:∃s,tx (List.replicate k 48)=s:=⟨_,rfl⟩
   rw[hs]at hz HE⊢;clear hs;go_wp2;go_roundg (gk-1);case measure=>have :=HK.o;omega
   case rel=>exact⟨k+1,by have :=HK.o;omega,by rw[HE.o],by go_num,HX.o⟩
  ·obtain rfl :k=M+1:=by omega
   have d1:decide (((M+1:Nat):Int)<=mx)=false:=qaj (by have :=HM.o;omega);have d2:¬((M+1:Nat):Int)<=mx:=by have :=HM.o;omega
   rw[HZ.o]at hz⊢;have jr:=ae HX.o;clear HE HK HX;obtain⟨v0,Co⟩:∃v0,QA ⟨mx,ins,az,outs,aI,aH,au,bD⟩=v0:=⟨_,rfl⟩
   have Q6:=ae Co;rw[Co]at hz ad⊢;clear Co HZ;go_wp2_with fail;clear iS bt d1 d2 c0;go_loopg [8,10] ins.length (fun g s i wr=>∃k:Nat,k+g=ins.length/\s= .string (tx (ov ins J.data.toList v0 k))/\i= .int .i64 k/\Cx w wr ⟨iA,iC,lA,lC,oA,oC,bA,bC,vA,vC,gA,gC,nA,nC⟩ ⟨mx,ins,az,outs,aI,aH,au,bD⟩);case atStart=>exact⟨0,by omega,rfl,rfl,jr.o⟩
   case round=>
    obtain⟨k,hk,rfl,rfl,hx⟩:=hrel;have HK:=ae hk;have HX:=ae hx;have iS:k<=ins.length:=(by omega)
    clear hk jr;obtain⟨c0,c1,c2,c3,c4,c5,c6,c7⟩:=hx.cells;clear hx;by_cases bt:k<ins.length
    ·obtain⟨b,o,x,hA,he,cx,gU,jn⟩:=(HH.o.keep HX.o.fr).i.one HH.o.ir bt;have hA:iA=some ⟨b,o,none⟩:=hA;subst hA;have dD:=Nb HV.o k bt;rw[he.o]at dD;simp only at dD;obtain⟨n,hn⟩:∃n:Nat,x/2=n:=⟨(x/2).toNat,by omega⟩
     have Bj:k<J.size:=(by omega)
     have Cv:J.data.toList[k]! =J[k]:=by rw[aa,af (show k<J.data.toList.length by rw[show J.data.toList.length=J.size from Array.length_toList];exact Bj)];rfl
     have lP:(ov ins J.data.toList v0 k).length=M+1:=by rw[ou];exact ad
     have HE:aj ((ov ins J.data.toList v0 k).set n J[k]=ov ins J.data.toList v0 (k+1)):=(by rw[ov,he.o,hn,Cv];rfl :(ov ins J.data.toList v0 k).set n J[k]=ov ins J.data.toList v0 (k+1))
     have KS:=ae (fun W=>vg W (ov ins J.data.toList v0 k) n J[k] (by rw[lP];have :=HM.o;omega) (by have :=HM.o;omega));rw[HE.o,<-IntWalk.wrap64_in (n:Int) ⟨by omega,by have :=HM.o;omega⟩]at KS;have ex:=Ext.cell cx;obtain⟨e0,e1,e2,e3,e4,e5,e6,e7⟩:=HX.o.ext;have hq:x.tdiv 2=(n:Int):=by rw[Int.tdiv_eq_ediv_of_nonneg (by omega)];exact hn
     have nM:=iG (ov ins J.data.toList v0 k);clear lP Cv hn HE;generalize tx (ov ins J.data.toList v0 k)=s at KS nM⊢;clear nM;go_wp2;refine ap ?_;repeat (go_big_quiet_step (exact bf (KS.o _)))
     refine fq ?_;intro w2 aT;clear c0 c1 c2 c3 c4 c5 c6 c7 cx ex e0 e1 e2 e3 e4 e5 e6 e7;go_wp2;go_roundg (gk-1);case measure=>have :=HK.o;omega
     case rel=>exact⟨k+1,by have :=HK.o;omega,rfl,by go_num,HX.o.keep aT.o⟩
    ·obtain rfl :k=ins.length:=by omega
     have xX:=ae HX.o;have lP:(ov ins J.data.toList v0 ins.length).length=M+1:=by rw[ou];exact ad
     obtain⟨v1,WL⟩:∃v1,ov ins J.data.toList v0 ins.length=v1:=⟨_,rfl⟩
     have Yo:=ae WL;rw[WL]at lP⊢;clear WL HK HX hz ad;go_wp2_with fail;clear c0 c1 c2 c3 c4 c5 c6 c7 iS bt;go_loopg [8,11] az.length (fun g s i wr=>∃k:Nat,k+g=az.length/\s= .string (tx (pg az st.data.toList v1 k))/\i= .int .i64 k/\Cx w wr ⟨iA,iC,lA,lC,oA,oC,bA,bC,vA,vC,gA,gC,nA,nC⟩ ⟨mx,ins,az,outs,aI,aH,au,bD⟩);case atStart=>exact⟨0,by omega,rfl,rfl,xX.o⟩
     case round=>
      obtain⟨k,hk,rfl,rfl,hx⟩:=hrel;have HK:=ae hk;have HX:=ae hx;have iS:k<=az.length:=(by omega)
      clear hk xX;obtain⟨c0,c1,c2,c3,c4,c5,c6,c7⟩:=hx.cells;clear hx;by_cases bt:k<az.length
      ·obtain⟨b,o,x,y,z,hA,he,cx,cy,cz,⟨gU,jn⟩,⟨iO,ld⟩,pj,AD⟩:=(HH.o.keep HX.o.fr).l.one HH.o.lr bt;have hA:lA=some ⟨b,o,none⟩:=hA;subst hA;have dD:=M7 HV.o k bt;rw[he.o]at dD;simp only at dD;obtain⟨n,hn⟩:∃n:Nat,x/2=n:=⟨(x/2).toNat,by omega⟩
       have Bj:k<st.size:=(by omega)
       have Cv:st.data.toList[k]! =st[k]:=by rw[aa,af (show k<st.data.toList.length by rw[show st.data.toList.length=st.size from Array.length_toList];exact Bj)];rfl
       have GR:(pg az st.data.toList v1 k).length=M+1:=by rw[qE];exact lP
       have HE:aj ((pg az st.data.toList v1 k).set n st[k]=pg az st.data.toList v1 (k+1)):=(by rw[pg,he.o,hn,Cv];rfl :(pg az st.data.toList v1 k).set n st[k]=pg az st.data.toList v1 (k+1))
       have KS:=ae (fun W=>vg W (pg az st.data.toList v1 k) n st[k] (by rw[GR];have :=HM.o;omega) (by have :=HM.o;omega));rw[HE.o,<-IntWalk.wrap64_in (n:Int) ⟨by omega,by have :=HM.o;omega⟩]at KS;have ex:=Ext.cell cx;obtain⟨e0,e1,e2,e3,e4,e5,e6,e7⟩:=HX.o.ext;have hq:x.tdiv 2=(n:Int):=by rw[Int.tdiv_eq_ediv_of_nonneg (by omega)];exact hn
       clear GR Cv hn HE cy cz;generalize tx (pg az st.data.toList v1 k)=s at KS⊢;go_wp2;refine ap ?_;repeat (go_big_quiet_step (exact bf (KS.o _)))
       refine fq ?_;intro w2 aT;clear c0 c1 c2 c3 c4 c5 c6 c7 cx ex e0 e1 e2 e3 e4 e5 e6 e7;go_wp2;go_roundg (gk-1);case measure=>have :=HK.o;omega
       case rel=>exact⟨k+1,by have :=HK.o;omega,rfl,by go_num,HX.o.keep aT.o⟩
      ·obtain rfl :k=az.length:=by omega
       have vU:=ae HX.o;have GR:(pg az st.data.toList v1 az.length).length=M+1:=by rw[qE];exact lP
       obtain⟨v2,oy⟩:∃v2,pg az st.data.toList v1 az.length=v2:=⟨_,rfl⟩
       have ba:aj (v2=sI ⟨mx,ins,az,outs,aI,aH,au,bD⟩ st J):=(by simp only[sI];rw[Q6.o,Yo.o,oy]:v2=sI ⟨mx,ins,az,outs,aI,aH,au,bD⟩ st J)
       rw[oy]at GR⊢;clear oy HK HX lP Yo Q6;go_wp2_with fail;clear c0 c1 c2 c3 c4 c5 c6 c7 iS bt;go_loopg [8,12] au.length (fun g s i wr=>∃k:Nat,k+g=au.length/\s= .string (tx (yr au v2 k))/\i= .int .i64 k/\Cx w wr ⟨iA,iC,lA,lC,oA,oC,bA,bC,vA,vC,gA,gC,nA,nC⟩ ⟨mx,ins,az,outs,aI,aH,au,bD⟩);case atStart=>exact⟨0,by omega,rfl,rfl,vU.o⟩
       case round=>
        obtain⟨k,hk,rfl,rfl,hx⟩:=hrel;have HK:=ae hk;have HX:=ae hx;have iS:k<=au.length:=(by omega)
        have bB:=HH.o.gL;simp only at bB;clear hk vU;obtain⟨c0,c1,c2,c3,c4,c5,c6,c7⟩:=hx.cells;clear hx;by_cases bt:k<au.length
        ·obtain⟨b,o,x,y,z,hA,he,cx,cy,cz,⟨gU,jn⟩,⟨iO,ld⟩,pj,AD⟩:=(HH.o.keep HX.o.fr).g.one HH.o.gr bt;have hA:gA=some ⟨b,o,none⟩:=hA;subst hA;have dD:=We _ HV.o k bt;have gY:=Uj HV.o k bt;rw[he.o]at dD gY;simp only at dD gY;have sQ:=J0 HV.o gY.1;have AI:=J0 HV.o gY.2.1;simp only at sQ AI;obtain⟨n,hn⟩:∃n:Nat,x/2=n:=⟨(x/2).toNat,by omega⟩
         obtain⟨v3,ab⟩:∃v3,yr au v2 k=v3:=⟨_,rfl⟩
         have bg:v3.length=M+1:=by rw[<-ab,yq];exact GR
         have HE:aj (yr au v2 (k+1)=if lJ v3 y&&lJ v3 z then v3.set n 49 else v3):=(by rw[yr,he.o,ab,Lt,hn];rfl :yr au v2 (k+1)=if lJ v3 y&&lJ v3 z then v3.set n 49 else v3)
         have KB:=ae (fun W=>jv W v3 y sQ.1 (by omega) (by have :=HM.o;omega));have KC:=ae (fun W=>jv W v3 z AI.1 (by omega) (by have :=HM.o;omega));have KS:=ae (fun W=>vg W v3 n 49 (by rw[bg];have :=HM.o;omega) (by have :=HM.o;omega));have aK:((49:UInt8).toNat:Int)=49:=rfl;rw[aK,<-IntWalk.wrap64_in (n:Int) ⟨by omega,by have :=HM.o;omega⟩]at KS;have hq:x.tdiv 2=(n:Int):=by rw[Int.tdiv_eq_ediv_of_nonneg (by omega)];exact hn
         rw[ab];obtain⟨qb,a1⟩:∃q,aj (lJ v3 y=q):=⟨_,rfl⟩
         obtain⟨qc,Fy⟩:∃q,aj (lJ v3 z=q):=⟨_,rfl⟩
         rw[a1.o]at KB HE;rw[Fy.o]at KC HE;clear ab hn gY aK;go_wp2_with fail;refine(KB.o _).mono ?_;rintro e wA ⟨rfl,jM⟩;have Yk:=ae (HX.o.keep jM);have aB:=jM.aF cx;have bo:=jM.aF cz;clear cx cy cz jM HX c0 c1 c2 c3 c4 c5 c6 c7;obtain⟨c0,c1,c2,c3,c4,c5,c6,c7⟩:=Yk.o.cells;cases qb with
         |false=>
          simp only[Bool.false_and,bu,if_false]at HE;go_wp2;go_roundg (gk-1);case measure=>have :=HK.o;omega
          case rel=>exact⟨k+1,by have :=HK.o;omega,by rw[HE.o],by go_num,Yk.o⟩
         |true=>
          go_wp2_with fail;refine(KC.o _).mono ?_;rintro e wB ⟨rfl,wZ⟩;have tw:=ae (Yk.o.keep wZ);have bj:=wZ.aF aB;clear aB bo wZ Yk c0 c1 c2 c3 c4 c5 c6 c7;obtain⟨c0,c1,c2,c3,c4,c5,c6,c7⟩:=tw.o.cells;cases qc with
          |false=>
           simp only[Bool.and_false,bu,if_false]at HE;go_wp2;go_roundg (gk-1);case measure=>have :=HK.o;omega
           case rel=>exact⟨k+1,by have :=HK.o;omega,by rw[HE.o],by go_num,tw.o⟩
          |true=>
           simp only[Bool.and_self,if_true]at HE;go_wp2_with fail;refine(KS.o _).mono ?_;rw[<-HE.o];rintro e wC ⟨rfl,aM⟩;have bb:=ae (tw.o.keep aM);clear bj aM tw c0 c1 c2 c3 c4 c5 c6 c7;go_wp2;go_roundg (gk-1);case measure=>have :=HK.o;omega
           case rel=>exact⟨k+1,by have :=HK.o;omega,rfl,by go_num,bb.o⟩
        ·obtain rfl :k=au.length:=by omega
         have HE:aj (yr au v2 au.length=tG ⟨mx,ins,az,outs,aI,aH,au,bD⟩ st J):=(by simp only[tG];rw[ba.o]:yr au v2 au.length=tG ⟨mx,ins,az,outs,aI,aH,au,bD⟩ st J)
         rw[HE.o];go_wp2;go_ret2;exact⟨rfl,HX.o.fr⟩
def AY(v:List UInt8)(x:T3):UInt8:=oG (lJ v x.b)
def Gm(C:Pc)(st J:ByteArray):List UInt8:=C.az.map (AY (tG C st J))
theorem aar(a b:List UInt8):tx a++tx b=tx (a++b):=by refine ByteArray.ext (Array.toList_inj.1 ?_);simp[tx,ByteArray.data_append]
set_option maxRecDepth 100000 in
theorem JU(w:World)(H:Hd)(C:Pc)(st J:ByteArray)(h:eZ w H C)(gD:H.iA=none->C.ins.length=0/\H.iC=0)(hv:Valid C)(nU:lG st C.az.length=true)(Je:lG J C.ins.length=true):
  Calls Tryz.prog 28 #[bY H C, .string st, .string J] w fun e w'=>e= .returned (.tuple #[.string (tx (Gm C st J)), .int .i64 0])/\Fr [] w w':=by
 have HH:=ae h;have HS:=ae (Cx.start w H C);have HV:=ae hv;have ab:=ae (fun W (hf:Fr [] w W)=>tF W H C st J (h.keep hf) gD hv nU Je);clear h gD nU Je;obtain⟨mx,ins,az,outs,aI,aH,au,bD⟩:=C;obtain⟨iA,iC,lA,lC,oA,oC,bA,bC,vA,vC,gA,gC,nA,nC⟩:=H;simp only[bY,fv]at *;go_enter Tryz.func28,Tryz.ntmps28;obtain⟨c0,c1,c2,c3,c4,c5,c6,c7⟩:=HS.o.cells;go_wp2_with fail;refine(ab.o _ HS.o.fr).mono ?_;clear c0 c1 c2 c3 c4 c5 c6 c7;rintro e W1 ⟨rfl,di⟩;have ia:=ae (HS.o.keep di);clear di HS ab;have lP:=FK ⟨mx,ins,az,outs,aI,aH,au,bD⟩ st J;have ad:=tC ⟨mx,ins,az,outs,aI,aH,au,bD⟩ hv.m0;have uY:=hv.m0;have sl:=hv.m1;have nV:=hv.l;simp only at ad uY sl nV;obtain⟨v,yh⟩:∃v,tG ⟨mx,ins,az,outs,aI,aH,au,bD⟩ st J=v:=⟨_,rfl⟩
 have AO:=ae yh;rw[yh]at lP⊢;have gF:v.length<=4096:=by omega
 clear hv yh ad lP;go_wp2_with fail;go_loopg [10,11] az.length (fun g s i wr=>∃k:Nat,k+g=az.length/\s= .string (tx ((az.take k).map (AY v)))/\i= .int .i64 k/\Cx w wr ⟨iA,iC,lA,lC,oA,oC,bA,bC,vA,vC,gA,gC,nA,nC⟩ ⟨mx,ins,az,outs,aI,aH,au,bD⟩);case atStart=>exact⟨0,by omega,rfl,rfl,ia.o⟩
 case round=>
  obtain⟨k,hk,rfl,rfl,hx⟩:=hrel;have HK:=ae hk;have HX:=ae hx;have iS:k<=az.length:=by omega
  clear hk ia;obtain⟨c0,c1,c2,c3,c4,c5,c6,c7⟩:=hx.cells;clear hx;by_cases bt:k<az.length
  ·obtain⟨b,o,x,y,z,hA,he,cx,cy,cz,⟨gU,jn⟩,⟨iO,ld⟩,pj,AD⟩:=(HH.o.keep HX.o.fr).l.one HH.o.lr bt;have hA:lA=some ⟨b,o,none⟩:=hA;subst hA;have gY:=Wu HV.o k bt;rw[he.o]at gY;have sQ:=J0 HV.o gY;simp only at sQ;have KB:=ae (fun W=>jv W v y sQ.1 (by omega) gF);have HE:aj (tx ((az.take k).map (AY v))++tx [oG (lJ v y)]=tx ((az.take (k+1)).map (AY v))):=(by have e:az[k]! =⟨x,y,z⟩:=he.o;rw[aar,kt az k bt,bE,e];rfl :tx ((az.take k).map (AY v))++tx [oG (lJ v y)]=tx ((az.take (k+1)).map (AY v)))
   have nM:=iG ((az.take k).map (AY v));rw[aG,bz]at nM;have zt:=iG [oG (lJ v y)];rw[aV]at zt;have KT:=ae (fun W=>P1 W (lJ v y));generalize tx ((az.take k).map (AY v))=s at HE nM⊢;generalize tx [oG (lJ v y)]=s2 at HE KT zt;have yk:s.size<=64:=by omega
   clear gY cx cz nM;go_wp2_with fail;refine(KB.o _).mono ?_;rintro e wA ⟨rfl,jM⟩;have Yk:=ae (HX.o.keep jM);clear jM HX c0 c1 c2 c3 c4 c5 c6 c7 cy;go_wp2_with fail;refine(KT.o _).mono ?_;rintro e wB ⟨rfl,wZ⟩;have tw:=ae (Yk.o.keep wZ);clear wZ Yk;go_wp2;go_roundg (gk-1);case measure=>have :=HK.o;omega
   case rel=>exact⟨k+1,by have :=HK.o;omega,by rw[HE.o],by go_num,tw.o⟩
  ·obtain rfl :k=az.length:=by omega
   have HE:aj (tx ((az.take az.length).map (AY v))=tx (Gm ⟨mx,ins,az,outs,aI,aH,au,bD⟩ st J)):=(by rw[Gm,AO.o,cN]:tx ((az.take az.length).map (AY v))=tx (Gm ⟨mx,ins,az,outs,aI,aH,au,bD⟩ st J))
   rw[HE.o];go_wp2;go_ret2;exact⟨rfl,HX.o.fr⟩
end Go.Proofs.YtpjbaobgnhjgoaaGreat
