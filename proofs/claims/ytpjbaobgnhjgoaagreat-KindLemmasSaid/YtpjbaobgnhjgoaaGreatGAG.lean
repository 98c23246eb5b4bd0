/- Parts of a proof. -/
import Derived.Test.YtpjbaobgnhjgoaaGreatGAF
import Derived.StillTailTactics
set_option linter.unusedVariables false
set_option linter.unusedSimpArgs false
set_option maxHeartbeats 8000000
set_option maxRecDepth 100000
namespace Go.Proofs.YtpjbaobgnhjgoaaGreat
open Go.RowKit
def Dk(f:Int->List UInt8)(l:List Int):Prop:=∀v,eJ v->((f v).isEmpty=true↔∀x∈l,x/2≠v)
theorem Dk.nil:Dk (fun _=>[]) []:=fun v _=>by simp
theorem Dk.step{f:Int->List UInt8}{l:List Int}(h:Dk f l)(x:Int)(s:List UInt8)(hs:s.isEmpty=false):Dk (fun v=>if v=x/2 then s else f v) (l++[x]):=fun v hv=>by
 show(if v=x/2 then s else f v).isEmpty=true↔_;by_cases e:v=x/2
 ·subst e;rw[qai rfl,hs];constructor
  ·intro h;cases h
  ·intro hh;exact absurd rfl (hh x (by simp))
 ·rw[qah e,h v hv];constructor
  ·intro hh y J;rcases ah.1 J with J |J
   ·exact hh y J
   ·simp only[ag]at J;subst J;exact fun h=>e h.symm
  ·intro hh y J;exact hh y (ah.2 (.inl J))
theorem Gj{C:Pc}{l:List Int}{k:Nat}(h:xm C l k){x:Int}(hx:x∈l.take k):2<=x/\x%2=0/\x<=2*C.mx:=by
 obtain⟨j,hj,e⟩:=List.mem_iff_getElem.1 hx;rw[bz]at hj;have :=h j (by omega);simp only[kw,ax,qam]at this;have J:l[j]! =x:=by rw[List.getElem_take]at e;rw[aa,af (by omega),<-e];rfl
 rw[J]at this;exact⟨this.1.1.1,this.1.1.2,this.1.2⟩
theorem Lx{C:Pc}{l:List Int}{k:Nat}{f:Int->List UInt8}(h:xm C l k)(hd:Dk f (l.take k))(hr:eJ l[k]!):xR f l[k]! C.mx=kw C l k:=by
 unfold xR kw;generalize hx:l[k]! =x at *;by_cases h1:2<=x
 ·by_cases h2:x%2=0
  ·have e3:decide (x/2<=C.mx)=decide (x<=2*C.mx):=by
    by_cases J:x<=2*C.mx
    ·rw[qak J,qak (by omega)]
    ·rw[qaj J,qaj (by omega)]
   have e4:(f (x/2)).isEmpty= !decide (x∈l.take k):=by
    have hR:eJ (x/2):=by unfold eJ at hr⊢;omega
    by_cases hm:x∈l.take k
    ·have :(f (x/2)).isEmpty=false:=by rw[fa];intro h5;exact(hd _ hR).1 h5 x hm rfl
     rw[this,qak hm];rfl
    ·have :(f (x/2)).isEmpty=true:=by
      rw[hd _ hR];intro y hy h5;obtain⟨y1,y2,_⟩:=Gj h hy;have :y=x:=(by omega)
      exact hm (this▸hy)
     rw[this,qaj hm];rfl
   rw[e3,e4]
  ·rw[qaj h2];simp
 ·rw[qaj h1];simp
theorem Hz(a b:List Int)(k:Nat)(h:k<a.length):(a++b)[k]! =a[k]! :=by simp only[aa,cV h]
theorem Hy(a b:List Int)(k:Nat):(a++b)[a.length+k]! =b[k]! :=by simp only[aa,bX (Nat.le_add_right _ _),Nat.add_sub_cancel_left]
theorem get_map(l:List T3)(k:Nat)(h:k<l.length):(l.map fun x=>x.a)[k]! =(l[k]!).a:=by simp[h]
theorem DT(C:Pc)(k:Nat)(h:k<C.ins.length):(cm C)[k]! =C.ins[k]! :=by unfold cm;rw[dB,Hz _ _ _ h]
theorem Wd(C:Pc)(k:Nat)(h:k<C.az.length):(cm C)[C.ins.length+k]! =(C.az[k]!).a:=by unfold cm;rw[dB,Hy,Hz _ _ _ (by simpa using h),get_map _ _ h]
theorem Wg(C:Pc)(k:Nat)(h:k<C.au.length):(cm C)[C.ins.length+C.az.length+k]! =(C.au[k]!).a:=by have :=Hy (C.ins++C.az.map fun x=>x.a) (C.au.map fun x=>x.a) k;rw[an,aG]at this;unfold cm;rw[this,get_map _ _ h]
theorem R0(C:Pc):(cm C).length=C.ins.length+C.az.length+C.au.length:=by simp[cm];omega
structure oN(C:Pc):Prop where
 own:∀j:Nat,j<(cm C).length->kw C (cm C) j=true
 rst:∀j:Nat,j<C.az.length->vh C.az[j]! =true
 ris:∀j:Nat,j<C.au.length->0<j->(C.au[j-1]!).a<(C.au[j]!).a
def DfP(C:Pc)(w:World)(e:Ending)(w':World):Prop:=((oN C/\∃g b n f,e= .returned (.pointer (some ⟨g,0,none⟩))/\Ms w' g b n f/\Dk f (cm C))\/(¬oN C/\e=fN))/\Fr [] w w'
structure Df(w wr:World)(H:Hd)(C:Pc)(g b i:Nat)(f:Int->List UInt8):Prop where
 cx:Cx w wr H C
 ms:Ms wr g b i f
 dk:Dk f ((cm C).take i)
 upto:xm C (cm C) i
theorem Df.keep{w wr w':World}{H:Hd}{C:Pc}{g b i:Nat}{f:Int->List UInt8}(h:Df w wr H C g b i f)(J:Fr [] wr w'):Df w w' H C g b i f:=⟨h.cx.keep J,h.ms.keep J,h.dk,h.upto⟩
theorem Df.put{w wr w':World}{H:Hd}{C:Pc}{g b i:Nat}{f:Int->List UInt8}(h:Df w wr H C g b i f)(hi:i<(cm C).length)(hb:w.heap.size<b)(s:List UInt8)(hs:s.isEmpty=false)
  (ho:kw C (cm C) i=true) (hm:Ms w' g b (i+1) (fun v=>if v=(cm C)[i]! /2 then s else f v)) (J:Fr [b] wr w'):Df w w' H C g b (i+1) (fun v=>if v=(cm C)[i]! /2 then s else f v):=
 ⟨⟨h.cx.fr.trans J (fun x hx=> .inr (by simp at hx;omega)),J.at_ h.cx.bx (by simp;omega)⟩,hm,by rw[kt _ _ hi];exact h.dk.step _ _ hs,h.upto.step ho⟩
theorem Ox{x y z:Int}{rb:Bool}(h:vh ⟨x,y,z⟩=rb):(rb=true/\(z=0\/(z≠0/\z=1)\/(z≠0/\z≠1/\z=x)))\/(rb=false/\z≠0/\z≠1/\z≠x):=by
 subst h;by_cases J:z=0
 ·exact .inl ⟨by simp[vh,J], .inl J⟩
 ·by_cases a2:z=1
  ·exact .inl ⟨by simp[vh,a2], .inr (.inl ⟨J,a2⟩)⟩
  ·by_cases a3:z=x
   ·exact .inl ⟨by simp[vh,a3], .inr (.inr ⟨J,a2,a3⟩)⟩
   ·exact .inr ⟨by simp[vh,J,a2,a3],J,a2,a3⟩
theorem Df.start(w:World)(H:Hd)(C:Pc):Df w (((w.alloc (.cells (fv H C) 27)).alloc (.map #[] 0)).alloc (.cells #[.map (some (w.heap.size+1))] 119)) H C (w.heap.size+1+1) (w.heap.size+1) 0 (fun _=>[]):=by
 refine⟨(((Cx.start w H C).keep (cQ _ _)).keep (cQ _ _)),⟨?_,?_⟩,?_,fun j J=>absurd J (aD _)⟩
 ·have :=At.new ((w.alloc (.cells (fv H C) 27)).alloc (.map #[] 0)) 119 #[.map (some (w.heap.size+1))];simpa using this
 ·have :=(Met.new (w.alloc (.cells (fv H C) 27))).keep (cQ _ (.cells #[.map (some (w.heap.size+1))] 119));simpa using this
 ·rw[List.take_zero];exact Dk.nil
theorem Bv(w:World)(H:Hd)(C:Pc)(h:eZ w H C)(bB:C.ins.length<=64)(bG:C.az.length<=64)(uY:0<=C.mx)(sl:C.mx<=2048):
  Calls Tryz.prog 46 #[bY H C] w (DfP C w):=by
 have HH:=ae h;have bI:=h.gL;clear h;have NO:aj (∀W,¬oN C->Fr [] w W->DfP C w fN W):=fun W h1 h2=>⟨.inr ⟨h1,rfl⟩,h2⟩
 have xk:aj (∀W g b n f,oN C->Ms W g b n f->Dk f (cm C)->Fr [] w W->DfP C w (.returned (.pointer (some ⟨g,0,none⟩))) W):=fun W g b n f h1 h2 h3 h4=>⟨.inl ⟨h1,g,b,n,f,rfl,h2,h3⟩,h4⟩
 have ad:aj (∀j,j<(cm C).length->kw C (cm C) j=false->¬oN C):=fun j hj hb hd=>by have :=hd.own j hj;rw[hb]at this;cases this
 have bb:aj (∀j,j<C.az.length->vh C.az[j]! =false->¬oN C):=fun j hj hb hd=>by have :=hd.rst j hj;rw[hb]at this;cases this
 have ba:aj (∀j,j<C.au.length->0<j->¬(C.au[j-1]!).a<(C.au[j]!).a->¬oN C):=fun j hj h0 hb hd=>hb (hd.ris j hj h0);have lh:=ae (fun(h1:∀j:Nat,j<(cm C).length->kw C (cm C) j=true)(h2:∀j:Nat,j<C.az.length->vh C.az[j]! =true)(h3:∀j:Nat,j<C.au.length->0<j->(C.au[j-1]!).a<(C.au[j]!).a)=>(⟨h1,h2,h3⟩:oN C));have CU:=ae (R0 C);have Md:=ae (DT C);have FA:=ae (Wd C);have aT:=ae (Wg C);have HS:=ae (Cx.start w H C);obtain⟨mx,ins,az,outs,aI,aH,au,bD⟩:=C;obtain⟨iA,iC,lA,lC,oA,oC,bA,bC,vA,vC,gA,gC,nA,nC⟩:=H;simp only[bY,fv]at *;have Eo:=@run_makeMap Tryz.prog;have ab:=ae (Df.start w ⟨iA,iC,lA,lC,oA,oC,bA,bC,vA,vC,gA,gC,nA,nC⟩ ⟨mx,ins,az,outs,aI,aH,au,bD⟩);simp only[fv]at ab;go_enter Tryz.func46,Tryz.ntmps46;go_upto_region 2 with fail;obtain⟨W0,TC⟩:∃W,((w.alloc (.cells #[.int .i64 mx, .slice iA ins.length iC, .slice lA az.length lC, .slice oA outs.length oC, .slice bA aI.length bC, .slice vA aH.length vC, .slice gA au.length gC, .slice nA bD.length nC] 27)).alloc (.map #[] 0)).alloc (.cells #[.map (some (w.heap.size+1))] 119)=W:=⟨_,rfl⟩
 rw[TC]at ab⊢;obtain⟨gb,aB⟩:∃gb,w.heap.size+1=gb:=⟨_,rfl⟩
 rw[aB]at ab⊢;obtain⟨ga,rB⟩:∃ga,gb+1=ga:=⟨_,rfl⟩
 rw[rB]at ab⊢;have ar:ga≠gb:=by omega
 have sQ:w.heap.size<gb:=by omega
 have tA:=ae ar;clear TC rB aB Eo ar;obtain⟨c0,c1,c2,c3,c4,c5,c6,c7⟩:=ab.o.cx.cells;go_wp2_with fail;clear c0 c1 c2 c3 c4 c5 c6 c7;go_loopg [16] ins.length (fun g i wr=>∃(k:Nat)(f:Int->List UInt8),k+g=ins.length/\i= .int .i64 k/\Df w wr ⟨iA,iC,lA,lC,oA,oC,bA,bC,vA,vC,gA,gC,nA,nC⟩ ⟨mx,ins,az,outs,aI,aH,au,bD⟩ ga gb k f);case atStart=>exact⟨0,_,by omega,rfl,ab.o⟩
 case round=>
  clear ab;obtain⟨k,f,hk,rfl,hx⟩:=hrel;have HK:=ae hk;have J:=ae hx;have iS:k<=ins.length:=by omega
  obtain⟨c0,c1,c2,c3,c4,c5,c6,c7⟩:=hx.cx.cells;clear hk hx;by_cases bt:k<ins.length
  ·obtain⟨b,o,x,hA,he,cx,gU,jn⟩:=(HH.o.keep J.o.cx.fr).i.one HH.o.ir bt;simp only at hA;subst hA;have HO:aj ((cm ⟨mx,ins,az,outs,aI,aH,au,bD⟩)[k]! =x):=(Md.o k bt).trans he.o;have HJ:aj (k<(cm ⟨mx,ins,az,outs,aI,aH,au,bD⟩).length):=(by rw[CU.o];omega:k<(cm ⟨mx,ins,az,outs,aI,aH,au,bD⟩).length)
   have U5:aj (xR f x mx=kw ⟨mx,ins,az,outs,aI,aH,au,bD⟩ (cm ⟨mx,ins,az,outs,aI,aH,au,bD⟩) k):=(by have :=Lx J.o.upto J.o.dk (by rw[HO.o];exact⟨gU,jn⟩);rw[HO.o]at this;exact this:xR f x mx=kw ⟨mx,ins,az,outs,aI,aH,au,bD⟩ (cm ⟨mx,ins,az,outs,aI,aH,au,bD⟩) k)
   obtain⟨q,HQ⟩:∃q,aj (kw ⟨mx,ins,az,outs,aI,aH,au,bD⟩ (cm ⟨mx,ins,az,outs,aI,aH,au,bD⟩) k=q):=⟨_,rfl⟩
   go_wp2_with fail;cases q with
   |true=>
    refine(vP wr ga gb k f x mx _ J.o.ms tA.o ⟨gU,jn⟩ (U5.o.trans HQ.o) (by simp[ByteArray.size]) (by omega)).mono ?_;rintro e w2 ⟨rfl,hm,hf⟩;have fZ:=ae (J.o.put HJ.o sQ [105] rfl HQ.o (by rw[HO.o];exact hm) hf);clear hm hf c0 c1 c2 c3 c4 c5 c6 c7 cx;go_wp2;go_roundg (gk-1);case measure=>have :=HK.o;omega
    case rel=>exact⟨k+1,_,by have :=HK.o;omega,by go_num,fZ.o⟩
   |false=>
    refine(sW wr ga gb k f x mx _ J.o.ms ⟨gU,jn⟩ (U5.o.trans HQ.o)).mono ?_;unfold fN;rintro e w2 ⟨rfl,rfl⟩;go_wp2_with fail;exact⟨rfl,NO.o _ (ad.o k HJ.o HQ.o) J.o.cx.fr⟩
  ·obtain rfl :k=ins.length:=by omega
   have FB:=J;clear J HK iS bt;go_wp2_with fail;clear c0 c1 c2 c3 c4 c5 c6 c7;go_loopg [29] az.length (fun g i wr=>∃(k:Nat)(f:Int->List UInt8),k+g=az.length/\i= .int .i64 k/\Df w wr ⟨iA,iC,lA,lC,oA,oC,bA,bC,vA,vC,gA,gC,nA,nC⟩ ⟨mx,ins,az,outs,aI,aH,au,bD⟩ ga gb (ins.length+k) f/\(∀j,j<k->vh az[j]! =true));case atStart=>exact⟨0,_,by omega,rfl,FB.o,fun j hj=>absurd hj (aD _)⟩
   case round=>
    clear FB f;obtain⟨k,f,hk,rfl,hx,ly⟩:=hrel;have HK:=ae hk;have J:=ae hx;have nY:=ae ly;have iS:k<=az.length:=(by omega)
    obtain⟨c0,c1,c2,c3,c4,c5,c6,c7⟩:=hx.cx.cells;clear hk hx ly;by_cases bt:k<az.length
    ·obtain⟨b,o,x,y,z,hA,he,cx,cy,cz,⟨gU,jn⟩,⟨iO,ld⟩,_,_⟩:=(HH.o.keep J.o.cx.fr).l.one HH.o.lr bt;simp only at hA;subst hA;have HO:aj ((cm ⟨mx,ins,az,outs,aI,aH,au,bD⟩)[ins.length+k]! =x):=(FA.o k bt).trans (by rw[he.o]);have HJ:aj (ins.length+k<(cm ⟨mx,ins,az,outs,aI,aH,au,bD⟩).length):=(by rw[CU.o];omega:ins.length+k<(cm ⟨mx,ins,az,outs,aI,aH,au,bD⟩).length)
     have U5:aj (xR f x mx=kw ⟨mx,ins,az,outs,aI,aH,au,bD⟩ (cm ⟨mx,ins,az,outs,aI,aH,au,bD⟩) (ins.length+k)):=(by have :=Lx J.o.upto J.o.dk (by rw[HO.o];exact⟨gU,jn⟩);rw[HO.o]at this;exact this:xR f x mx=kw ⟨mx,ins,az,outs,aI,aH,au,bD⟩ (cm ⟨mx,ins,az,outs,aI,aH,au,bD⟩) (ins.length+k))
     obtain⟨q,HQ⟩:∃q,aj (kw ⟨mx,ins,az,outs,aI,aH,au,bD⟩ (cm ⟨mx,ins,az,outs,aI,aH,au,bD⟩) (ins.length+k)=q):=⟨_,rfl⟩
     go_upto_region 10 with fail;obtain⟨W1,iQ⟩:∃W,wr.alloc (.cells #[.int .i64 x, .int .i64 y, .int .i64 z] 62)=W:=⟨_,rfl⟩
     rw[iQ];have hO:At W1 wr.heap.size 62 #[.int .i64 x, .int .i64 y, .int .i64 z]:=iQ▸At.new _ _ _;have ia:aj (Fr [] wr W1):=iQ▸cQ _ _;have UJ:aj (wr.heap.size≠gb):=fun e=>da _ (e▸J.o.ms.met.lt);clear iQ c0 c1 c2 c3 c4 c5 c6 c7 cx cy cz;generalize wr.heap.size=ob at hO UJ⊢;have fZ:=ae (J.o.keep ia.o);have lZ:=ae hO;have n0:W1.cell? ⟨ob,0,none⟩=some (.int .i64 x):=by rw[hO.cell];rfl
     clear hO;obtain⟨c0,c1,c2,c3,c4,c5,c6,c7⟩:=fZ.o.cx.cells;go_wp2_with fail;cases q with
     |true=>
      refine(vP W1 ga gb (ins.length+k) f x mx _ fZ.o.ms tA.o ⟨gU,jn⟩ (U5.o.trans HQ.o) (by simp[ByteArray.size]) (by omega)).mono ?_;rintro e w2 ⟨rfl,hm,hf⟩;have qR:=ae (hf.at_ lZ.o (by simp;exact UJ.o));have kK:=ae (fZ.o.put HJ.o sQ [108] rfl HQ.o (by rw[HO.o];exact hm) hf);clear hm hf c0 c1 c2 c3 c4 c5 c6 c7 n0;have n0:w2.cell? ⟨ob,0,none⟩=some (.int .i64 x):=by rw[qR.o.cell];rfl
      have n2:w2.cell? ⟨ob,2,none⟩=some (.int .i64 z):=by rw[qR.o.cell];rfl
      obtain⟨rb,N8⟩:∃rb,aj (vh ⟨x,y,z⟩=rb):=⟨_,rfl⟩
      go_upto_region 11 with fail;have hz:=Ox N8.o;rcases hz with⟨rfl,z0 |⟨z0,z1⟩ |⟨z0,z1,z2⟩⟩ |⟨rfl,z0,z1,z2⟩
      ·have b0:(z==0)=true:=(by simp[z0])
       clear z0;go_wp2_with fail;refine(jc _).mono ?_;rintro e w3 ⟨rfl,rfl⟩;go_wp2;go_roundg (gk-1);case measure=>have :=HK.o;omega
       case rel=>exact⟨k+1,_,by have :=HK.o;omega,by go_num,kK.o,fun j hj=>by
        by_cases ej:j=k
        ·subst ej;rw[he.o];exact N8.o
        ·exact nY.o j (by omega)⟩
      ·have b0:(z==0)=false:=(by simp[z0])
       have b1:(z==1)=true:=(by simp[z1])
       clear z0 z1;go_wp2_with fail;refine(jc _).mono ?_;rintro e w3 ⟨rfl,rfl⟩;go_wp2;go_roundg (gk-1);case measure=>have :=HK.o;omega
       case rel=>exact⟨k+1,_,by have :=HK.o;omega,by go_num,kK.o,fun j hj=>by
        by_cases ej:j=k
        ·subst ej;rw[he.o];exact N8.o
        ·exact nY.o j (by omega)⟩
      ·have b0:(z==0)=false:=(by simp[z0])
       have b1:(z==1)=false:=(by simp[z1])
       have b2:(z==x)=true:=(by simp[z2])
       clear z0 z1 z2;go_wp2_with fail;refine(jc _).mono ?_;rintro e w3 ⟨rfl,rfl⟩;go_wp2;go_roundg (gk-1);case measure=>have :=HK.o;omega
       case rel=>exact⟨k+1,_,by have :=HK.o;omega,by go_num,kK.o,fun j hj=>by
        by_cases ej:j=k
        ·subst ej;rw[he.o];exact N8.o
        ·exact nY.o j (by omega)⟩
      ·have b0:(z==0)=false:=(by simp[z0])
       have b1:(z==1)=false:=(by simp[z1])
       have b2:(z==x)=false:=(by simp[z2])
       clear z0 z1 z2;go_wp2_with fail;refine(fe _).mono ?_;unfold fN;rintro e w3 ⟨rfl,rfl⟩;go_wp2_with fail;exact⟨rfl,NO.o _ (bb.o k bt (by rw[he.o];exact N8.o)) kK.o.cx.fr⟩
     |false=>
      refine(sW W1 ga gb (ins.length+k) f x mx _ fZ.o.ms ⟨gU,jn⟩ (U5.o.trans HQ.o)).mono ?_;unfold fN;rintro e w2 ⟨rfl,rfl⟩;go_wp2_with fail;exact⟨rfl,NO.o _ (ad.o _ HJ.o HQ.o) fZ.o.cx.fr⟩
    ·obtain rfl :k=az.length:=by omega
     have FB:=J;have a1:=nY;clear J HK iS bt nY;go_wp2_with fail;clear c0 c1 c2 c3 c4 c5 c6 c7;go_loopg [59] au.length (fun g i wr=>∃(k:Nat)(f:Int->List UInt8),k+g=au.length/\i= .int .i64 k/\Df w wr ⟨iA,iC,lA,lC,oA,oC,bA,bC,vA,vC,gA,gC,nA,nC⟩ ⟨mx,ins,az,outs,aI,aH,au,bD⟩ ga gb (ins.length+az.length+k) f/\(∀j,j<k->0<j->(au[j-1]!).a<(au[j]!).a));case atStart=>exact⟨0,_,by omega,rfl,FB.o,fun j hj=>absurd hj (aD _)⟩
     case round=>
      clear FB f;obtain⟨k,f,hk,rfl,hx,ly⟩:=hrel;have HK:=ae hk;have J:=ae hx;have nY:=ae ly;have iS:k<=au.length:=(by omega)
      obtain⟨c0,c1,c2,c3,c4,c5,c6,c7⟩:=hx.cx.cells;clear hk hx ly;by_cases bt:k<au.length
      ·obtain⟨b,o,x,y,z,hA,he,cx,cy,cz,⟨gU,jn⟩,⟨iO,ld⟩,_,_⟩:=(HH.o.keep J.o.cx.fr).g.one HH.o.gr bt;simp only at hA;subst hA;have HO:aj ((cm ⟨mx,ins,az,outs,aI,aH,au,bD⟩)[ins.length+az.length+k]! =x):=(aT.o k bt).trans (by rw[he.o]);have HJ:aj (ins.length+az.length+k<(cm ⟨mx,ins,az,outs,aI,aH,au,bD⟩).length):=(by rw[CU.o];omega:ins.length+az.length+k<(cm ⟨mx,ins,az,outs,aI,aH,au,bD⟩).length)
       have U5:aj (xR f x mx=kw ⟨mx,ins,az,outs,aI,aH,au,bD⟩ (cm ⟨mx,ins,az,outs,aI,aH,au,bD⟩) (ins.length+az.length+k)):=(by have :=Lx J.o.upto J.o.dk (by rw[HO.o];exact⟨gU,jn⟩);rw[HO.o]at this;exact this:xR f x mx=kw ⟨mx,ins,az,outs,aI,aH,au,bD⟩ (cm ⟨mx,ins,az,outs,aI,aH,au,bD⟩) (ins.length+az.length+k))
       obtain⟨q,HQ⟩:∃q,aj (kw ⟨mx,ins,az,outs,aI,aH,au,bD⟩ (cm ⟨mx,ins,az,outs,aI,aH,au,bD⟩) (ins.length+az.length+k)=q):=⟨_,rfl⟩
       go_upto_region 16 with fail;obtain⟨W1,iQ⟩:∃W,wr.alloc (.cells #[.int .i64 x, .int .i64 y, .int .i64 z] 69)=W:=⟨_,rfl⟩
       rw[iQ];have hO:At W1 wr.heap.size 69 #[.int .i64 x, .int .i64 y, .int .i64 z]:=iQ▸At.new _ _ _;have ia:aj (Fr [] wr W1):=iQ▸cQ _ _;have UJ:aj (wr.heap.size≠gb):=fun e=>da _ (e▸J.o.ms.met.lt);clear iQ c0 c1 c2 c3 c4 c5 c6 c7 cx cy cz;generalize wr.heap.size=ob at hO UJ⊢;have fZ:=ae (J.o.keep ia.o);have lZ:=ae hO;have n0:W1.cell? ⟨ob,0,none⟩=some (.int .i64 x):=by rw[hO.cell];rfl
       clear hO;obtain⟨c0,c1,c2,c3,c4,c5,c6,c7⟩:=fZ.o.cx.cells;go_wp2_with fail;cases q with
       |true=>
        refine(vP W1 ga gb (ins.length+az.length+k) f x mx _ fZ.o.ms tA.o ⟨gU,jn⟩ (U5.o.trans HQ.o) (by simp[ByteArray.size]) (by omega)).mono ?_;rintro e w2 ⟨rfl,hm,hf⟩;have qR:=ae (hf.at_ lZ.o (by simp;exact UJ.o));have kK:=ae (fZ.o.put HJ.o sQ [97] rfl HQ.o (by rw[HO.o];exact hm) hf);clear hm hf c0 c1 c2 c3 c4 c5 c6 c7 n0;have n0:w2.cell? ⟨ob,0,none⟩=some (.int .i64 x):=by rw[qR.o.cell];rfl
        obtain⟨c0,c1,c2,c3,c4,c5,c6,c7⟩:=kK.o.cx.cells;go_upto_region 17 with fail;by_cases He:0<k
        ·have bT:((k:Int)==0)=false:=by rw[aab];omega
         obtain⟨j,rfl⟩:∃j,k=j+1:=⟨k-1,by omega⟩
         obtain⟨b',o',x',y',z',yp,fj,Jm,rF,XR,⟨OT,bj⟩,_,_,_⟩:=(HH.o.keep kK.o.cx.fr).g.one HH.o.gr (show j<au.length by omega);simp only[Option.some.injEq,Addr.mk.injEq,and_true]at yp;obtain⟨rfl,rfl⟩:=yp;clear rF XR;have wj:IntKind.i64.wrap (j:Int)=j:=IntWalk.i64_in _ (by omega);have bg:IntKind.i64.wrap ((j:Int)+1-1)=j:=by rw[Int.add_sub_cancel];exact wj
         have bO:j<au.length:=(by omega)
         have Te:(j:Int)<(au.length:Int):=(by omega)
         have bS:0<=(j:Int):=(by omega)
         have bo:((j:Int)+1==0)=false:=by rw[aab];omega
         clear bg;by_cases hr:x'<x
         ·have dr:decide (x'<x)=true:=qak hr;have HR:=ae hr;clear hr
          go_still_tail 14,(by kernel_rfl)
          change wpList _ _ _ _ _ w2.drew
          have jr:=ae (kK.o.keep (Fr.refl [] w2).drew);generalize w2.drew=w4 at jr⊢;clear c0 c1 c2 c3 c4 c5 c6 c7 n0 Jm;go_wp2_with fail;refine(jc _).mono ?_;rintro e w5 ⟨rfl,rfl⟩;go_wp2_with fail;have Vz:aj (∀i,i<j+2->0<i->(au[i-1]!).a<(au[i]!).a):=fun i hi h0=>by
           by_cases ei:i=j+1
           ·subst ei;rw[dt,he.o,fj.o];exact HR.o
           ·exact nY.o i (by omega) h0
          have xX:aj (Df w w4 _ ⟨mx,ins,az,outs,aI,aH,au,bD⟩ ga gb (ins.length+az.length+(j+2)) _):=jr.o;go_roundg (gk-1);case measure=>have :=HK.o;omega
          case rel=>
           refine⟨j+2,_,?_,?_,xX.o,Vz.o⟩
           ·have :=HK.o;omega
           ·go_num
         ·have dr:decide (x'<x)=false:=qaj hr;have HR:aj (¬(au[j+1-1]!).a<(au[j+1]!).a):=(by rw[dt,he.o,fj.o];exact hr:¬(au[j+1-1]!).a<(au[j+1]!).a)
          have aM:=ae (ba.o (j+1) bt He (Int.not_lt.1 HR.o));clear hr
          go_still_tail 14,(by kernel_rfl)
          change wpList _ _ _ _ _ w2.drew
          have jr:=ae (kK.o.keep (Fr.refl [] w2).drew);generalize w2.drew=w4 at jr⊢;clear c0 c1 c2 c3 c4 c5 c6 c7 n0 Jm;go_wp2_with fail;refine(fe _).mono ?_;unfold fN;rintro e w5 ⟨rfl,rfl⟩;go_wp2_with fail;exact⟨rfl,NO.o _ aM.o jr.o.cx.fr⟩
        ·obtain rfl :k=0:=by omega
         refine ap ?_;repeat (go_big_quiet_step (exact bp (jc _)))
         refine fq ?_;intro w4 cG;have jr:=ae (kK.o.keep cG.o);clear c0 c1 c2 c3 c4 c5 c6 c7 n0;go_wp2;go_roundg (gk-1);case measure=>have :=HK.o;omega
         case rel=>
          refine⟨1,_,?_,?_,jr.o,fun i hi h0=>absurd h0 (by omega)⟩
          ·have :=HK.o;omega
          ·go_num
       |false=>
        refine(sW W1 ga gb (ins.length+az.length+k) f x mx _ fZ.o.ms ⟨gU,jn⟩ (U5.o.trans HQ.o)).mono ?_;unfold fN;rintro e w2 ⟨rfl,rfl⟩;go_wp2_with fail;exact⟨rfl,NO.o _ (ad.o _ HJ.o HQ.o) fZ.o.cx.fr⟩
      ·obtain rfl :k=au.length:=by omega
       have HT:aj (∀j:Nat,j<(cm ⟨mx,ins,az,outs,aI,aH,au,bD⟩).length->kw ⟨mx,ins,az,outs,aI,aH,au,bD⟩ (cm ⟨mx,ins,az,outs,aI,aH,au,bD⟩) j=true):=fun j hj=>J.o.upto j (by rw[CU.o]at hj;exact hj);have aK:aj (Dk f (cm ⟨mx,ins,az,outs,aI,aH,au,bD⟩)):=(by have :=J.o.dk;rw[<-CU.o,cN]at this;exact this:Dk f (cm ⟨mx,ins,az,outs,aI,aH,au,bD⟩))
       go_wp2;go_ret;exact xk.o _ _ _ _ _ (lh.o HT.o a1.o nY.o) J.o.ms aK.o J.o.cx.fr
theorem LE(w:World):(Instr.typeAssert (.iface 36 (.int .i64 9)) 20 36 true).run Tryz.prog w= .ok (.tuple #[.int .i64 9, .bool true]) w:=by kernel_rfl
theorem P7(w:World):(Instr.typeAssert .nilIface 20 36 true).run Tryz.prog w= .ok (.tuple #[.int .i64 0, .bool false]) w:=by kernel_rfl
theorem xT(p:Addr)(x:Value)(J:List PanicEntry)(w:World)(hc:w.cell? p=some x)(hz:w.frozen? p=false):
  CallsD Tryz.prog 44 #[.pointer (some p)] (.panicking ({ v:= .iface 36 (.int .i64 9),recovered:=false }::J)) w fun e u' w'=>
   e= .returned (.tuple #[])/\u'= .panicking ({ v:= .iface 36 (.int .i64 9),recovered:=true }::J)/\w'=w.setCell p (.int .i64 9):=by
 refine callsD_of_wpS Tryz.func44 rfl fun c₀ cs hu=> ?_;apply wpS_seq;apply wpS_region;simp[wpOpsS,go_sem,recoverD,hu,Tryz.ntmps44,Exit.thenS,LE];apply wpS_seq;apply wpS_region;simp[wpOpsS,go_sem,Exit.thenS];refine wpS_cond (t:=true) (by simp[Act.eval,Array.replicate]) ?_;simp only[if_true];apply wpS_region;simp[wpOpsS,go_sem,hc,hz,bodyPostS,results,Tryz.results44]
theorem LC(p:Addr)(w:World):
  CallsD Tryz.prog 44 #[.pointer (some p)] .returning w fun e u' w'=>e= .returned (.tuple #[])/\u'= .returning/\w'=w:=by
 refine callsD_of_wpS Tryz.func44 rfl fun J cs hu=> ?_;apply wpS_seq;apply wpS_region;simp[wpOpsS,go_sem,recoverD,hu,Tryz.ntmps44,Exit.thenS,P7];apply wpS_seq;apply wpS_region;simp[wpOpsS,go_sem,Exit.thenS];refine wpS_cond (t:=false) (by simp[Act.eval,Array.replicate]) ?_;simp only[bu,if_false];refine wpS_of_wp (wp_skip ?_);cases J
 simp_all [bodyPostS,results,Tryz.results44]
theorem ua{c:UInt8}(h:0<=fd c):c=105\/c=108\/c=111\/c=98\/c=99:=by
 by_cases J:c=105
 ·exact .inl J
 ·by_cases e2:c=108
  ·exact .inr (.inl e2)
  ·by_cases e3:c=111
   ·exact .inr (.inr (.inl e3))
   ·by_cases e4:c=98
    ·exact .inr (.inr (.inr (.inl e4)))
    ·by_cases e5:c=99
     ·exact .inr (.inr (.inr (.inr e5)))
     ·exfalso;have n1:((105:UInt8)==c)=false:=by rw[aab];exact fun h=>J h.symm
      have n2:((108:UInt8)==c)=false:=by rw[aab];exact fun h=>e2 h.symm
      have n3:((111:UInt8)==c)=false:=by rw[aab];exact fun h=>e3 h.symm
      have n4:((98:UInt8)==c)=false:=by rw[aab];exact fun h=>e4 h.symm
      have n5:((99:UInt8)==c)=false:=by rw[aab];exact fun h=>e5 h.symm
      simp[fd,Lib.indexByte,n1,n2,n3,n4,n5]at h
theorem zl(C:Pc)(k:ByteArray):(∃c,k=⟨#[c]⟩/\0<=fd c/\pw C k=kS C k/\rk k=fd c)\/(kS C k= -1/\¬((k.size:Int)=1/\0<=fd (nJ k))):=by
 by_cases h:(k.size:Int)=1/\0<=fd (nJ k)
 ·obtain⟨c,hc⟩:=MM h.1;subst hc;have hp:0<=fd c:=h.2;refine .inl ⟨c,rfl,hp,?_,?_⟩
  ·rcases ua hp with rfl |rfl |rfl |rfl |rfl <;>simp[pw,kS]
  ·rcases ua hp with rfl |rfl |rfl |rfl |rfl <;>simp[rk,fd,Lib.indexByte]
 ·refine .inr ⟨?_,h⟩;have ne:∀c:UInt8,0<=fd c->(k.toList==[c])=false:=fun c hc=>by
   rw[aab];intro e;apply h;rw[ByteArray.toList_eq]at e;have hs:k=⟨#[c]⟩:=by obtain⟨⟨l⟩⟩:=k;simp only at e;rw[e]
   subst hs;exact⟨rfl,hc⟩
  have J:0<=fd 105:=by decide
  have p2:0<=fd 108:=by decide
  have p3:0<=fd 111:=by decide
  have p4:0<=fd 98:=by decide
  have p5:0<=fd 99:=by decide
  simp[kS,ne 105 J,ne 108 p2,ne 111 p3,ne 98 p4,ne 99 p5]
theorem y9(C:Pc)(x:Nm):vv C x=lD C x:=by
 unfold vv lD uo mn;rcases zl C x.k with⟨c,hk,hp,hc,_⟩ |⟨hc,hn⟩
 ·have h1:decide ((x.k.size:Int)=1)=true:=by rw[hk];rfl
  have h2:decide (0<=fd (nJ x.k))=true:=by rw[hk];exact qak hp
  rw[h1,h2,hc];simp only[ff,Bool.and_assoc]
 ·have h1:(decide ((x.k.size:Int)=1)&&decide (0<=fd (nJ x.k)))=false:=by rw[fa];intro h;simp only[ax,qam]at h;exact hn h
  rw[h1,hc];by_cases J:0<=x.i
  ·rw[qaj (show ¬x.i< -1 by omega)];simp
  ·rw[qaj J];simp
theorem T6{C:Pc}(h1:C.ins.length<=64)(J:C.az.length<=64)(h3:C.outs.length<=64)(h4:C.aI.length<=64)(h5:C.aH.length<=64)(k:ByteArray):kS C k<=64:=by
 unfold kS;split
 ·omega
 ·split
  ·omega
  ·split
   ·omega
   ·split
    ·omega
    ·split<;>omega
theorem zc{C:Pc}{x:Nm}(h:lD C x=true):∃c,x.k=⟨#[c]⟩/\0<=fd c/\rk x.k=fd c/\0<=x.i/\x.i<kS C x.k:=by
 simp only[lD,uo,ax,qam]at h;obtain⟨⟨⟨⟨J,h1⟩,_⟩,_⟩,_⟩:=h;rcases zl C x.k with⟨c,hk,hp,_,hr⟩ |⟨hc,_⟩
 ·exact⟨c,hk,hp,hr,J,h1⟩
 ·omega
theorem Ca{C:Pc}{y x:Nm}(hl:∀k,kS C k<=64)(hy:lD C y=true)(hx:lD C x=true):(tX y<tX x↔jV y x=false):=by
 obtain⟨c1,J,p1,r1,i1,j1⟩:=zc hy;obtain⟨c2,k2,p2,r2,i2,j2⟩:=zc hx;have l1:=hl y.k;have l2:=hl x.k;have e1:nJ y.k=c1:=by rw[J];rfl
 have e2:nJ x.k=c2:=by rw[k2];rfl
 have ek:(y.k.toList==x.k.toList)=decide (fd c1=fd c2):=by rw[J,k2,MF,MF];rcases ua p1 with rfl |rfl |rfl |rfl |rfl <;>rcases ua p2 with rfl |rfl |rfl |rfl |rfl <;>decide
 unfold tX jV;rw[e1,e2,r1,r2,ek];simp only[dw,Bool.and_eq_false_iff,decide_eq_false_iff_not];omega
theorem wG{C:Pc}(hl:∀k,kS C k<=64):fU C C.bD.length↔pd C=true:=by
 rw[rl];constructor
 ·intro h j hj;obtain⟨h1,h2⟩:=h j hj;rw[y9]at h1;refine⟨h1,fun J=> ?_⟩;have h3:=(h (j-1) (by omega)).1;rw[y9]at h3;exact(Ca hl h3 h1).1 (h2 J)
 ·intro h j hj;obtain⟨h1,h2⟩:=h j hj;refine⟨by rw[y9];exact h1,fun J=> ?_⟩;exact(Ca hl (h (j-1) (by omega)).1 h1).2 (h2 J)
theorem Wb{C:Pc}(h:∀j:Nat,j<(cm C).length->kw C (cm C) j=true){x:Int}(J:x∈cm C):2<=x:=by have :=Gj (k:=(cm C).length) h (x:=x) (by rw[cN];exact J);exact this.1
theorem ON(C:Pc)(h:∀x,x∈cm C->2<=x)(v:Int)(hv:v≠0):gP C v=true↔∃x∈cm C,x/2=v:=by
 unfold gP;rw[qaj hv];simp only[Bool.false_or,dI,cP];have hh:∀x,x∈cm C->(hit v x=true↔x/2=v):=fun x J=>by have :=h x J;simp[hit,show 0<=x by omega]
 constructor
 ·rintro((⟨x,J,e⟩ |⟨x,J,e⟩) |⟨x,J,e⟩)
  ·have hm:x∈cm C:=by unfold cm;simp[J]
   exact⟨x,hm,(hh x hm).1 e⟩
  ·have hm:x.a∈cm C:=by unfold cm;simp only[ah,aN];exact .inl (.inr ⟨x,J,rfl⟩)
   exact⟨x.a,hm,(hh _ hm).1 e⟩
  ·have hm:x.a∈cm C:=by unfold cm;simp only[ah,aN];exact .inr ⟨x,J,rfl⟩
   exact⟨x.a,hm,(hh _ hm).1 e⟩
 ·rintro⟨x,hm,e⟩;have e':=(hh x hm).2 e;unfold cm at hm;simp only[ah,aN]at hm;rcases hm with(J |⟨y,hy,rfl⟩) |⟨y,hy,rfl⟩
  ·exact .inl (.inl ⟨x,J,e'⟩)
  ·exact .inl (.inr ⟨y,hy,e'⟩)
  ·exact .inr ⟨y,hy,e'⟩
theorem aaQ{C:Pc}{f:Int->List UInt8}(h:oN C)(hd:Dk f (cm C)){l:Int}(hr:eJ l):wP f l=fh C l:=by
 unfold wP fh;by_cases h0:0<=l
 ·rw[qak h0,ff,ff];by_cases h2:l<2
  ·have e:l/2=0:=by omega
   rw[qak h2,e];simp[gP]
  ·rw[qaj h2,Bool.false_or];have hv:l/2≠0:=by omega
   have hR:eJ (l/2):=by unfold eJ at hr⊢;omega
   have h3:=ON C (fun x J=>Wb h.own J) (l/2) hv;cases hk:gP C (l/2)with
   |true=>
    obtain⟨x,J,e⟩:=h3.1 hk;have :(f (l/2)).isEmpty=false:=by rw[fa];intro h5;exact(hd _ hR).1 h5 x J e
    rw[this];rfl
   |false=>
    have :(f (l/2)).isEmpty=true:=by rw[hd _ hR];intro x J e;have :=h3.2 ⟨x,J,e⟩;rw[hk]at this;cases this
    rw[this];rfl
 ·rw[qaj h0];rfl
structure ReB(C:Pc):Prop where
 az:∀j:Nat,j<C.az.length->fh C (C.az[j]!).b=true
 au:∀j:Nat,j<C.au.length->fh C (C.au[j]!).b=true/\fh C (C.au[j]!).c=true/\(C.au[j]!).b<(C.au[j]!).a/\(C.au[j]!).c<(C.au[j]!).a
 o:C.outs.all (fh C)=true
 b:C.aI.all (fh C)=true
 v:C.aH.all (fh C)=true
 n:fU C C.bD.length
structure Yh(C:Pc):Prop where
 m0:0<=C.mx
 m1:C.mx<=2048
 i:C.ins.length<=64
 l:C.az.length<=64
 o:C.outs.length<=64
 b:C.aI.length<=64
 v:C.aH.length<=64
theorem Valid.lens{C:Pc}(h:Valid C):Yh C:=by have h1:=h.o;have J:=h.b;have h3:=h.v;simp only[nR,ax,qam]at h1 J h3;exact⟨h.m0,h.m1,h.i,h.l,by omega,by omega,by omega⟩
theorem Valid.ahn{C:Pc}(h:Valid C):oN C:=by
 refine⟨h.own,fun j J=> ?_,fun j J h0=> ?_⟩
 ·have :=h.az j J;simp only[Bb,ax]at this;exact this.1
 ·have :=h.au j J;simp only[vQ,V8,qah (show ¬j=0 by omega),ax,qam]at this;exact this.1.1.1.1
theorem Valid.reB{C:Pc}(h:Valid C):ReB C:=by
 have h1:=h.o;have h2:=h.b;have h3:=h.v;have hL:=h.lens;simp only[nR,ax,qam]at h1 h2 h3;refine⟨fun j J=> ?_,fun j J=> ?_,h1.1,h2.1,h3.1,(wG (fun k=>T6 hL.i hL.l hL.o hL.b hL.v k)).2 h.n⟩
 ·have :=h.az j J;simp only[Bb,ax]at this;exact this.2
 ·have :=h.au j J;simp only[vQ,ax,qam]at this;exact⟨this.1.2,this.2,this.1.1.1.2,this.1.1.2⟩
theorem Rh{C:Pc}(hL:Yh C)(hd:oN C)(hr:ReB C):Valid C:=by
 refine⟨hL.m0,hL.m1,hL.i,hL.l,(wG (fun k=>T6 hL.i hL.l hL.o hL.b hL.v k)).1 hr.n,fun j J=> ?_,fun j J=> ?_,hd.own,?_,?_,?_⟩
 ·simp only[Bb,ax];exact⟨hd.rst j J,hr.az j J⟩
 ·obtain⟨h1,h2,h3,h4⟩:=hr.au j J;by_cases h0:j=0
  ·simp[vQ,V8,h0]at h1 h2 h3 h4⊢;subst h0;exact⟨⟨⟨h3,h4⟩,h1⟩,h2⟩
  ·have h5:=hd.ris j J (by omega);simp only[vQ,V8,qah h0,ax,qam];exact⟨⟨⟨⟨h5,h3⟩,h4⟩,h1⟩,h2⟩
 ·have :=hL.o;simp only[nR,hr.o,ff,qam];omega
 ·have :=hL.b;simp only[nR,hr.b,ff,qam];omega
 ·have :=hL.v;simp only[nR,hr.v,ff,qam];omega
def mx2(x y:Int):Int:=if y>x then y else x
def mx5(a b c d e:Int):Int:=mx2 (mx2 (mx2 (mx2 a b) c) d) e
theorem aaI(x y n:Int):mx2 x y<=n↔x<=n/\y<=n:=by unfold mx2;split<;>omega
theorem Sa(a b c d e n:Int):mx5 a b c d e<=n↔(((a<=n/\b<=n)/\c<=n)/\d<=n)/\e<=n:=by simp only[mx5,aaI]
theorem RH(w:World)(J:Array TypeId)(t:TypeId)(a b c d e:Int):(Builtin.max_ J t #[.int .i64 a, .int .i64 b, .int .i64 c, .int .i64 d, .int .i64 e]).run Tryz.prog w= .ok (.int .i64 (mx5 a b c d e)) w:=by simp[Builtin.max_,Builtin.max2,mx5,mx2]
structure Kx(w wr:World)(H:Hd)(C:Pc)(r:Nat):Prop where
 cx:Cx w wr H C
 rs:At wr r 36 #[.int .i64 0]
theorem Kx.keep{w wr w':World}{H:Hd}{C:Pc}{r:Nat}(h:Kx w wr H C r)(J:Fr [] wr w'):Kx w w' H C r:=⟨h.cx.keep J,h.rs.keep J⟩
theorem Kx.start(w:World)(H:Hd)(C:Pc):Kx w ((w.alloc (.cells (fv H C) 27)).alloc (.cells #[.int .i64 0] 36)) H C (w.heap.size+1):=by refine⟨(Cx.start w H C).keep (cQ _ _),?_⟩;have :=At.new (w.alloc (.cells (fv H C) 27)) 36 #[.int .i64 0];simpa using this
theorem fl(R:Ending->World->Prop)(tmps:Array Value)(r:Nat)(wx:World)(J:tmps.getD 2 undef= .pointer (some ⟨r,0,none⟩))(hc:At wx r 36 #[.int .i64 0])
  (hR:R (.returned (.int .i64 9)) (wx.setCell ⟨r,0,none⟩ (.int .i64 9))):
  bodyPostD Tryz.prog Tryz.f22 R (Exit.panic [{ v:= .iface 36 (.int .i64 9),recovered:=false }])
   { tmps:=tmps,defers:=[{ target:=Target.fn (Fn.func 44) #[.pointer (some ⟨r,0,none⟩)],args:=#[] }] } wx:=by
 refine leaves_cons (f:=44) (args:=#[.pointer (some ⟨r,0,none⟩)]) (by simp) (by simp[go_sem]) ?_;refine(xT ⟨r,0,none⟩ (.int .i64 0) [] _ (by rw[hc.cell];rfl) (hc.frozen 0)).mono ?_;rintro e u' AB ⟨rfl,rfl,rfl⟩;have vM:(wx.setCell ⟨r,0,none⟩ (.int .i64 9)).cell? ⟨r,0,none⟩=some (.int .i64 9):=by have :=(hc.dL 0 (.int .i64 9)).cell 0;rw[this];rfl
 have pP:(results Tryz.f22 tmps).run Tryz.prog (wx.setCell ⟨r,0,none⟩ (.int .i64 9))= .ok (.int .i64 9) (wx.setCell ⟨r,0,none⟩ (.int .i64 9)):=by simp only[Array.getD_eq_getD_getElem?]at J;simp[results,Tryz.results22,go_sem,J,vM]
 exact⟨_,pP,hR⟩
theorem XN(R:Ending->World->Prop)(tmps:Array Value)(r:Nat)(wx:World)(h2:tmps.getD 2 undef= .pointer (some ⟨r,0,none⟩))(hc:At wx r 36 #[.int .i64 0])
  (hR:R (.returned (.int .i64 0)) wx):
  bodyPostD Tryz.prog Tryz.f22 R Exit.ret
   { tmps:=tmps,defers:=[{ target:=Target.fn (Fn.func 44) #[.pointer (some ⟨r,0,none⟩)],args:=#[] }] } wx:=by
 refine leaves_cons (f:=44) (args:=#[.pointer (some ⟨r,0,none⟩)]) (by simp) (by simp[go_sem]) ?_;refine(LC ⟨r,0,none⟩ _).mono ?_;rintro e u' J ⟨rfl,rfl,rfl⟩;have vM:J.cell? ⟨r,0,none⟩=some (.int .i64 0):=by rw[hc.cell];rfl
 have pP:(results Tryz.f22 tmps).run Tryz.prog J= .ok (.int .i64 0) J:=by simp only[Array.getD_eq_getD_getElem?]at h2;simp[results,Tryz.results22,go_sem,h2,vM]
 exact⟨_,pP,hR⟩
theorem LF{f:Int->List UInt8}{C:Pc}{xs:List Int}(hr:Ra xs)(h:∀l,eJ l->wP f l=fh C l):xs.all (wP f)=xs.all (fh C):=by
 rw[Bool.eq_iff_iff,cR,cR];have hh:∀x∈xs,wP f x=fh C x:=fun x J=>by obtain⟨j,hj,e⟩:=List.mem_iff_getElem.1 J;have :=hr j hj;rw[aa,af hj,e]at this;exact h x this
 exact⟨fun h1 x J=>by rw[<-hh x J];exact h1 x J,fun h1 x J=>by rw[hh x J];exact h1 x J⟩
theorem nt(w:World)(H:Hd)(C:Pc)(h:eZ w H C):
  Calls Tryz.prog 22 #[bY H C] w (Vb C w):=by
 have HH:=ae h;have bI:=h.mr;have cb:=h.iL;have cc:=h.lL;have cf:=h.oL;have b9:=h.bL;have ch:=h.vL;have ca:=h.gL;unfold eJ at bI;obtain⟨sl,Kw⟩:=bI;clear h;have Qz:aj (∀r wx,w.heap.size<r->Kx w wx H C r->¬Valid C->Vb C w (.returned (.int .i64 9)) (wx.setCell ⟨r,0,none⟩ (.int .i64 9))):=fun r wx hr hk J=>acc J (hk.cx.fr.setCell (.inr (Nat.le_of_lt hr)) _);have xk:aj (∀r wx,w.heap.size<r->Kx w wx H C r->Valid C->Vb C w (.returned (.int .i64 0)) (wx.setCell ⟨r,0,none⟩ (.int .i64 0))):=fun r wx hr hk J=>XV J (hk.cx.fr.setCell (.inr (Nat.le_of_lt hr)) _);have CV:=ae (Kx.start w H C);have VL:=ae (fun h:Valid C=>h.lens);have VD:=ae (fun h:Valid C=>h.ahn);have VR:=ae (fun h:Valid C=>h.reB);have VO:=ae (fun(h1:Yh C)(h2:oN C)(h3:ReB C)=>Rh h1 h2 h3);have KD:=ae (fun W hW h1 h2 h3 h4=>Bv W H C hW h1 h2 h3 h4);have KN:=ae (fun W hW=>Gq W H C hW);have KL:aj (∀(f:Int->List UInt8),oN C->Dk f (cm C)->∀l,eJ l->wP f l=fh C l):=fun f h1 h2 l hl=>aaQ h1 h2 hl;have b7:∀(fn:Fn)(first cap:Array Value)(w:World),(Instr.makeFunc fn first cap).run Tryz.prog w= .ok (.func fn first cap) w:=fun _ _ _ _=>rfl;have bB:=fun w ts t=>RH w ts t C.ins.length C.az.length C.outs.length C.aI.length C.aH.length;simp only[fv]at CV;obtain⟨mx,ins,az,outs,aI,aH,au,bD⟩:=C;obtain⟨iA,iC,lA,lC,oA,oC,bA,bC,vA,vC,gA,gC,nA,nC⟩:=H;simp only[bY,fv]at *
 go_enter_defers Tryz.func22,Tryz.ntmps22
 go_upto_region 2 with fail;obtain⟨W0,TC⟩:∃W,(w.alloc (.cells #[.int .i64 mx, .slice iA ins.length iC, .slice lA az.length lC, .slice oA outs.length oC, .slice bA aI.length bC, .slice vA aH.length vC, .slice gA au.length gC, .slice nA bD.length nC] 27)).alloc (.cells #[.int .i64 0] 36)=W:=⟨_,rfl⟩
 rw[TC]at CV⊢;obtain⟨r,nN⟩:∃r,w.heap.size+1=r:=⟨_,rfl⟩
 rw[nN]at CV⊢;have hr:w.heap.size<r:=by omega
 clear TC nN;obtain⟨c0,c1,c2,c3,c4,c5,c6,c7⟩:=CV.o.cx.cells;by_cases m0:0<=mx
 ·have d0:decide (0<=mx)=true:=qak m0;by_cases m1:mx<=2048
  ·have d1:decide (mx<=2048)=true:=qak m1;obtain⟨M,Qo⟩:∃M,aj (mx5 ins.length az.length outs.length aI.length aH.length=M):=⟨_,rfl⟩
   rw[Qo.o]at bB;by_cases m2:M<=64
   ·have d2:decide (M<=64)=true:=qak m2;have b6:=(Sa ins.length az.length outs.length aI.length aH.length 64).1 (by rw[Qo.o];exact m2);obtain⟨⟨⟨⟨a1,a2⟩,a3⟩,a4⟩,a5⟩:=b6;have b1:ins.length<=64:=(by omega)
    have b2:az.length<=64:=(by omega)
    have b3:outs.length<=64:=(by omega)
    have b4:aI.length<=64:=(by omega)
    have b5:aH.length<=64:=(by omega)
    have AQ:aj (Yh ⟨mx,ins,az,outs,aI,aH,au,bD⟩):=⟨m0,m1,b1,b2,b3,b4,b5⟩
    clear a1 a2 a3 a4 a5;go_wp2_with fail;refine(jc _).mono ?_;rintro e w9 ⟨rfl,rfl⟩;clear bB b7;go_wp2_with fail;refine(KD.o _ (HH.o.keep CV.o.cx.fr) b1 b2 m0 m1).mono ?_;rintro e w1 ⟨b0,hf⟩;have Fe:=ae (CV.o.keep hf);clear hf CV c0 c1 c2 c3 c4 c5 c6 c7;rcases b0 with⟨ar,g,b,n,f,rfl,G8,bG⟩ |⟨ar,rfl⟩
    ·have bS:=ae ar;have Ob:=ae G8;have ab:=ae (KL.o f ar bG);clear ar G8 bG;obtain⟨c0,c1,c2,c3,c4,c5,c6,c7⟩:=Fe.o.cx.cells;go_wp2_with fail;clear c0 c1 c2 c3 c4 c5 c6 c7;go_loopg [42] az.length (fun gg i wr=>∃k:Nat,k+gg=az.length/\i= .int .i64 k/\Kx w wr ⟨iA,iC,lA,lC,oA,oC,bA,bC,vA,vC,gA,gC,nA,nC⟩ ⟨mx,ins,az,outs,aI,aH,au,bD⟩ r/\Ms wr g b n f/\(∀j,j<k->fh ⟨mx,ins,az,outs,aI,aH,au,bD⟩ (az[j]!).b=true));case atStart=>exact⟨0,by omega,rfl,Fe.o,Ob.o,fun j hj=>absurd hj (aD _)⟩
     case round=>
      clear Fe Ob;obtain⟨k,hk,rfl,aB,G8,hl⟩:=hrel;have HK:=ae hk;have HX:=ae aB;have HM:=ae G8;have HL:=ae hl;have iS:k<=az.length:=(by omega)
      clear hk aB G8 hl;by_cases bt:k<az.length
      ·obtain⟨bb,o,x,y,z,hA,he,cx,cy,cz,_,⟨iO,ld⟩,_,_⟩:=(HH.o.keep HX.o.cx.fr).l.one HH.o.lr bt;simp only at hA;subst hA;go_upto_region 7 with fail;obtain⟨W1,iQ⟩:∃W,wr.alloc (.cells #[.int .i64 x, .int .i64 y, .int .i64 z] 62)=W:=⟨_,rfl⟩
       rw[iQ];have hO:At W1 wr.heap.size 62 #[.int .i64 x, .int .i64 y, .int .i64 z]:=iQ▸At.new _ _ _;have dZ:aj (Fr [] wr W1):=iQ▸cQ _ _;clear iQ cx cy cz;generalize wr.heap.size=ob at hO⊢;have n1:W1.cell? ⟨ob,1,none⟩=some (.int .i64 y):=by rw[hO.cell];rfl
       have ia:=ae (HX.o.keep dZ.o);have Qq:=ae (HM.o.keep dZ.o);clear hO;go_wp2_with fail;refine(ng W1 g b n f y Qq.o ⟨iO,ld⟩).mono ?_;rw[ab.o y ⟨iO,ld⟩];obtain⟨q,HQ⟩:∃q,aj (fh ⟨mx,ins,az,outs,aI,aH,au,bD⟩ y=q):=⟨_,rfl⟩
       rw[HQ.o];rintro e w2 ⟨rfl,hf⟩;have fZ:=ae (ia.o.keep hf);have Mg:=ae (Qq.o.keep hf);clear hf n1;cases q with
       |true=>
        go_wp2_with fail;refine(jc _).mono ?_;rintro e w9 ⟨rfl,rfl⟩;have bj:aj (∀j,j<k+1->fh ⟨mx,ins,az,outs,aI,aH,au,bD⟩ (az[j]!).b=true):=fun j hj=>by
         by_cases ej:j=k
         ·subst ej;rw[he.o];exact HQ.o
         ·exact HL.o j (by omega)
        go_wp2;go_roundg (gk-1);case measure=>have :=HK.o;omega
        case rel=>exact⟨k+1,by have :=HK.o;omega,by go_num,fZ.o,Mg.o,bj.o⟩
       |false=>
        go_wp2_with fail;refine(fe _).mono ?_;unfold fN;rintro e w9 ⟨rfl,rfl⟩;go_wp2_with fail;exact fl _ _ r _ rfl fZ.o.rs (Qz.o r _ hr fZ.o (fun J=>by have :=(VR.o J).az k bt;rw[he.o]at this;rw[HQ.o]at this;cases this))
      ·obtain rfl :k=az.length:=by omega
       have Fe:=HX;have Ob:=HM;have bT:=HL;clear HX HM HL HK iS bt;obtain⟨c0,c1,c2,c3,c4,c5,c6,c7⟩:=Fe.o.cx.cells;go_wp2_with fail;clear c0 c1 c2 c3 c4 c5 c6 c7;go_loopg [55] au.length (fun gg i wr=>∃k:Nat,k+gg=au.length/\i= .int .i64 k/\Kx w wr ⟨iA,iC,lA,lC,oA,oC,bA,bC,vA,vC,gA,gC,nA,nC⟩ ⟨mx,ins,az,outs,aI,aH,au,bD⟩ r/\Ms wr g b n f/\(∀j,j<k->fh ⟨mx,ins,az,outs,aI,aH,au,bD⟩ (au[j]!).b=true/\fh ⟨mx,ins,az,outs,aI,aH,au,bD⟩ (au[j]!).c=true/\(au[j]!).b<(au[j]!).a/\(au[j]!).c<(au[j]!).a));case atStart=>exact⟨0,by omega,rfl,Fe.o,Ob.o,fun j hj=>absurd hj (aD _)⟩
       case round=>
        clear Fe Ob;obtain⟨k,hk,rfl,aB,G8,hl⟩:=hrel;have HK:=ae hk;have HX:=ae aB;have HM:=ae G8;have HL:=ae hl;have iS:k<=au.length:=(by omega)
        clear hk aB G8 hl;by_cases bt:k<au.length
        ·obtain⟨bb,o,x,y,z,hA,he,cx,cy,cz,_,⟨iO,ld⟩,pj,AD⟩:=(HH.o.keep HX.o.cx.fr).g.one HH.o.gr bt;simp only at hA;subst hA;have aK:aj (Valid ⟨mx,ins,az,outs,aI,aH,au,bD⟩->fh ⟨mx,ins,az,outs,aI,aH,au,bD⟩ y=true/\fh ⟨mx,ins,az,outs,aI,aH,au,bD⟩ z=true/\y<x/\z<x):=fun J=>by have :=(VR.o J).au k bt;rw[he.o]at this;exact this
         go_upto_region 12 with fail;obtain⟨W1,iQ⟩:∃W,wr.alloc (.cells #[.int .i64 x, .int .i64 y, .int .i64 z] 69)=W:=⟨_,rfl⟩
         rw[iQ];have hO:At W1 wr.heap.size 69 #[.int .i64 x, .int .i64 y, .int .i64 z]:=iQ▸At.new _ _ _;have dZ:aj (Fr [] wr W1):=iQ▸cQ _ _;clear iQ cx cy cz;generalize wr.heap.size=ob at hO⊢;have HO:=ae hO;have n1:W1.cell? ⟨ob,1,none⟩=some (.int .i64 y):=by rw[hO.cell];rfl
         have ia:=ae (HX.o.keep dZ.o);have Qq:=ae (HM.o.keep dZ.o);clear hO;go_wp2_with fail;refine(ng W1 g b n f y Qq.o ⟨iO,ld⟩).mono ?_;rw[ab.o y ⟨iO,ld⟩];obtain⟨q,HQ⟩:∃q,aj (fh ⟨mx,ins,az,outs,aI,aH,au,bD⟩ y=q):=⟨_,rfl⟩
         rw[HQ.o];rintro e w2 ⟨rfl,hf⟩;have fZ:=ae (ia.o.keep hf);have Mg:=ae (Qq.o.keep hf);have qR:=ae (HO.o.keep hf);clear hf n1;have n0:w2.cell? ⟨ob,0,none⟩=some (.int .i64 x):=by rw[qR.o.cell];rfl
         have n1:w2.cell? ⟨ob,1,none⟩=some (.int .i64 y):=by rw[qR.o.cell];rfl
         have n2:w2.cell? ⟨ob,2,none⟩=some (.int .i64 z):=by rw[qR.o.cell];rfl
         cases q with
         |true=>
          go_wp2_with fail;refine(ng w2 g b n f z Mg.o ⟨pj,AD⟩).mono ?_;rw[ab.o z ⟨pj,AD⟩];obtain⟨p,HP⟩:∃p,aj (fh ⟨mx,ins,az,outs,aI,aH,au,bD⟩ z=p):=⟨_,rfl⟩
          rw[HP.o];rintro e w3 ⟨rfl,hf⟩;have kK:=ae (fZ.o.keep hf);have aM:=ae (Mg.o.keep hf);have nZ:=ae (qR.o.keep hf);clear hf n0 n1 n2;have n0:w3.cell? ⟨ob,0,none⟩=some (.int .i64 x):=by rw[nZ.o.cell];rfl
          have n1:w3.cell? ⟨ob,1,none⟩=some (.int .i64 y):=by rw[nZ.o.cell];rfl
          have n2:w3.cell? ⟨ob,2,none⟩=some (.int .i64 z):=by rw[nZ.o.cell];rfl
          cases p with
          |true=>
           by_cases l1:y<x
           ·have t1:decide (y<x)=true:=qak l1;by_cases l2:z<x
            ·have t2:decide (z<x)=true:=qak l2;go_wp2_with fail;refine(jc _).mono ?_;rintro e w9 ⟨rfl,rfl⟩;have bj:aj (∀j,j<k+1->fh ⟨mx,ins,az,outs,aI,aH,au,bD⟩ (au[j]!).b=true/\fh ⟨mx,ins,az,outs,aI,aH,au,bD⟩ (au[j]!).c=true/\(au[j]!).b<(au[j]!).a/\(au[j]!).c<(au[j]!).a):=fun j hj=>by
              by_cases ej:j=k
              ·subst ej;rw[he.o];exact⟨HQ.o,HP.o,l1,l2⟩
              ·exact HL.o j (by omega)
             go_wp2;go_roundg (gk-1);case measure=>have :=HK.o;omega
             case rel=>exact⟨k+1,by have :=HK.o;omega,by go_num,kK.o,aM.o,bj.o⟩
            ·have t2:decide (z<x)=false:=qaj l2;go_wp2_with fail;refine(fe _).mono ?_;unfold fN;rintro e w9 ⟨rfl,rfl⟩;go_wp2_with fail;exact fl _ _ r _ rfl kK.o.rs (Qz.o r _ hr kK.o (fun J=>absurd (aK.o J).2.2.2 (by omega)))
           ·have t1:decide (y<x)=false:=qaj l1;go_wp2_with fail;refine(fe _).mono ?_;unfold fN;rintro e w9 ⟨rfl,rfl⟩;go_wp2_with fail;exact fl _ _ r _ rfl kK.o.rs (Qz.o r _ hr kK.o (fun J=>absurd (aK.o J).2.2.1 (by omega)))
          |false=>
           go_wp2_with fail;refine(fe _).mono ?_;unfold fN;rintro e w9 ⟨rfl,rfl⟩;go_wp2_with fail;exact fl _ _ r _ rfl kK.o.rs (Qz.o r _ hr kK.o (fun J=>by have :=(aK.o J).2.1;rw[HP.o]at this;cases this))
         |false=>
          go_wp2_with fail;refine(fe _).mono ?_;unfold fN;rintro e w9 ⟨rfl,rfl⟩;go_wp2_with fail;exact fl _ _ r _ rfl fZ.o.rs (Qz.o r _ hr fZ.o (fun J=>by have :=(aK.o J).1;rw[HQ.o]at this;cases this))
        ·obtain rfl :k=au.length:=by omega
         have tf:=HL;clear HL HK iS bt;obtain⟨c0,c1,c2,c3,c4,c5,c6,c7⟩:=HX.o.cx.cells;go_wp2_with fail;refine(vR wr g b n f oA oC outs HM.o (HH.o.keep HX.o.cx.fr).o HH.o.or_ HH.o.oL).mono ?_;rw[LF HH.o.or_ ab.o];obtain⟨qo,ba⟩:∃q,aj (outs.all (fh ⟨mx,ins,az,outs,aI,aH,au,bD⟩)=q):=⟨_,rfl⟩
         rw[ba.o];rintro e w2 ⟨rfl,hf⟩;have fZ:=ae (HX.o.keep hf);have Mg:=ae (HM.o.keep hf);clear hf c0 c1 c2 c3 c4 c5 c6 c7;obtain⟨c0,c1,c2,c3,c4,c5,c6,c7⟩:=fZ.o.cx.cells;cases qo with
         |false=>
          go_wp2_with fail;refine(fe _).mono ?_;unfold fN;rintro e w9 ⟨rfl,rfl⟩;go_wp2_with fail;exact fl _ _ r _ rfl fZ.o.rs (Qz.o r _ hr fZ.o (fun J=>by have :=(VR.o J).o;simp only at this;rw[ba.o]at this;cases this))
         |true=>
          go_wp2_with fail;refine(vR w2 g b n f bA bC aI Mg.o (HH.o.keep fZ.o.cx.fr).b HH.o.br HH.o.bL).mono ?_;rw[LF HH.o.br ab.o];obtain⟨qb,aT⟩:∃q,aj (aI.all (fh ⟨mx,ins,az,outs,aI,aH,au,bD⟩)=q):=⟨_,rfl⟩
          rw[aT.o];rintro e w3 ⟨rfl,hf⟩;have kK:=ae (fZ.o.keep hf);have aM:=ae (Mg.o.keep hf);clear hf c0 c1 c2 c3 c4 c5 c6 c7;obtain⟨c0,c1,c2,c3,c4,c5,c6,c7⟩:=kK.o.cx.cells;cases qb with
          |false=>
           go_wp2_with fail;refine(fe _).mono ?_;unfold fN;rintro e w9 ⟨rfl,rfl⟩;go_wp2_with fail;exact fl _ _ r _ rfl kK.o.rs (Qz.o r _ hr kK.o (fun J=>by have :=(VR.o J).b;simp only at this;rw[aT.o]at this;cases this))
          |true=>
           go_wp2_with fail;refine(vR w3 g b n f vA vC aH aM.o (HH.o.keep kK.o.cx.fr).v HH.o.vr HH.o.vL).mono ?_;rw[LF HH.o.vr ab.o];obtain⟨qv,bg⟩:∃q,aj (aH.all (fh ⟨mx,ins,az,outs,aI,aH,au,bD⟩)=q):=⟨_,rfl⟩
           rw[bg.o];rintro e w4 ⟨rfl,hf⟩;have jr:=ae (kK.o.keep hf);clear hf c0 c1 c2 c3 c4 c5 c6 c7;obtain⟨c0,c1,c2,c3,c4,c5,c6,c7⟩:=jr.o.cx.cells;cases qv with
           |false=>
            go_wp2_with fail;refine(fe _).mono ?_;unfold fN;rintro e w9 ⟨rfl,rfl⟩;go_wp2_with fail;exact fl _ _ r _ rfl jr.o.rs (Qz.o r _ hr jr.o (fun J=>by have :=(VR.o J).v;simp only at this;rw[bg.o]at this;cases this))
           |true=>
            go_wp2_with fail;refine(KN.o w4 (HH.o.keep jr.o.cx.fr)).mono ?_;rintro e w5 ⟨qn,rfl,bO,hf⟩;have bo:=ae bO;have xX:=ae (jr.o.keep hf);clear hf bO c0 c1 c2 c3 c4 c5 c6 c7;cases qn with
            |false=>
             go_wp2_with fail;refine(fe _).mono ?_;unfold fN;rintro e w9 ⟨rfl,rfl⟩;go_wp2_with fail;exact fl _ _ r _ rfl xX.o.rs (Qz.o r _ hr xX.o (fun J=>by have :=bo.o.2 (VR.o J).n;cases this))
            |true=>
             go_wp2_with fail;refine(jc _).mono ?_;rintro e w9 ⟨rfl,rfl⟩;have hc:=xX.o.rs.cell 0;have hz:=xX.o.rs.frozen 0;simp at hc;go_wp2_with fail;have nY:=xX.o.rs.dL 0 (.int .i64 0);simp at nY;exact XN _ _ r _ rfl nY (xk.o r _ hr xX.o (VO.o AQ.o bS.o ⟨bT.o,tf.o,ba.o,aT.o,bg.o,bo.o.1 (by simp)⟩))
    ·unfold fN;go_wp2_with fail;exact fl _ _ r _ rfl Fe.o.rs (Qz.o r _ hr Fe.o (fun J=>ar (VD.o J)))
   ·have d2:decide (M<=64)=false:=qaj m2;have ad:aj (¬Valid ⟨mx,ins,az,outs,aI,aH,au,bD⟩):=fun J=>by have hl:=VL.o J;have h1:=hl.i;have h2:=hl.l;have h3:=hl.o;have h4:=hl.b;have h5:=hl.v;simp only at h1 h2 h3 h4 h5;exact m2 (by rw[<-Qo.o,Sa];omega)
    go_wp2_with fail;refine(fe _).mono ?_;unfold fN;rintro e w9 ⟨rfl,rfl⟩;go_wp2_with fail;exact fl _ _ r _ rfl CV.o.rs (Qz.o r _ hr CV.o (ad.o))
  ·have d1:decide (mx<=2048)=false:=qaj m1;have ad:aj (¬Valid ⟨mx,ins,az,outs,aI,aH,au,bD⟩):=fun J=>by have hl:=(VL.o J).m1;simp only at hl;omega
   go_wp2_with fail;refine(fe _).mono ?_;unfold fN;rintro e w9 ⟨rfl,rfl⟩;go_wp2_with fail;exact fl _ _ r _ rfl CV.o.rs (Qz.o r _ hr CV.o (ad.o))
 ·have d0:decide (0<=mx)=false:=qaj m0;have ad:aj (¬Valid ⟨mx,ins,az,outs,aI,aH,au,bD⟩):=fun J=>by have hl:=(VL.o J).m0;simp only at hl;omega
  go_wp2_with fail;refine(fe _).mono ?_;unfold fN;rintro e w9 ⟨rfl,rfl⟩;go_wp2_with fail;exact fl _ _ r _ rfl CV.o.rs (Qz.o r _ hr CV.o (ad.o))
def xA(fF x:Int):Bool:=decide (x<0) ||decide (fF<x/2)
theorem Wt(w:World)(a b:Nat)(fF x:Int)(h1:w.cell? ⟨a,0,none⟩=some (.bool false))(h2:w.cell? ⟨b,0,none⟩=some (.int .i64 fF))(hr:eJ x):
  Calls Tryz.prog 89 #[.int .i64 x, .pointer (some ⟨a,0,none⟩), .pointer (some ⟨b,0,none⟩)] w fun e w'=>e= .returned (.bool (xA fF x))/\Fr [] w w':=by
 unfold eJ at hr;obtain⟨QO,pP⟩:=hr;have e1:=Ext.cell h1;have e2:=Ext.cell h2;have hK:aj (∀s,xA fF x=s->Ending.returned (.bool s)= .returned (.bool (xA fF x))):=fun s h=>by rw[h]
 by_cases l0:x<0
 ·have d0:decide (x<0)=true:=qak l0;have HB:aj (xA fF x=true):=(by simp[xA,d0]:xA fF x=true)
  have KV:=ae (fun W=>ze W x l0);go_enter Tryz.func89,Tryz.ntmps89;go_wp2;refine ap ?_;repeat (go_big_quiet_step (exact bp (KV.o _)))
  refine fq ?_;intro w2 J;go_wp2;go_ret;exact⟨hK.o _ HB.o,J.o⟩
 ·have d0:decide (x<0)=false:=qaj l0;have KV:=ae (fun W=>kO W x (by omega) pP);obtain⟨q,HQ⟩:∃q,aj (decide (fF<x/2)=q):=⟨_,rfl⟩
  have HB:aj (xA fF x=q):=(by simp only[xA,d0,HQ.o,Bool.false_or]:xA fF x=q)
  have dq:=HQ.o;cases q with
  |true=>
   go_enter Tryz.func89,Tryz.ntmps89;go_wp2;refine ap ?_;repeat (go_big_quiet_step (exact bp (KV.o _)))
   refine fq ?_;intro w2 J;go_wp2;go_ret;exact⟨hK.o _ HB.o,J.o⟩
  |false=>
   go_enter Tryz.func89,Tryz.ntmps89;go_wp2;refine ap ?_;repeat (go_big_quiet_step (exact bp (KV.o _)))
   refine fq ?_;intro w2 J;go_wp2;go_ret;exact⟨hK.o _ HB.o,J.o⟩
def Vf(fF:Int)(xs:List Int):Bool:=xs.all fun x=>decide (0<=x)&&decide (x<=2*fF+1)
theorem aaC(fF:Int)(xs:List Int):(xs.any (xA fF))= !Vf fF xs:=by unfold Vf;rw[List.not_all_eq_any_not];congr 1;funext x;unfold xA;rw[Bool.eq_iff_iff];simp;omega
def lcI(b:Bool):Int:=if b then 0 else 4
theorem Eb(w:World)(fF:Int)(A:Option Addr)(c:Nat)(xs:List Int)(h0:0<=fF)(h1:fF<=2048)(hx:Rd w A xs)(hr:Ra xs)(hl:xs.length<=17592186044416):
  Calls Tryz.prog 52 #[.int .i64 fF, .slice A xs.length c] w fun e w'=>e= .returned (.int .i64 (lcI (Vf fF xs)))/\Fr [] w w':=by
 have ab:∀(fn:Fn)(first cap:Array Value)(w:World),(Instr.makeFunc fn first cap).run Tryz.prog w= .ok (.func fn first cap) w:=fun _ _ _ _=>rfl;have d0:decide (fF<0)=false:=qaj (by omega);have d1:decide (2048<fF)=false:=qaj (by omega);have hK:aj (∀s,lcI (Vf fF xs)=s->Ending.returned (.int .i64 s)= .returned (.int .i64 (lcI (Vf fF xs)))):=fun s h=>by rw[h]
 have HX:=ae hx;have HR:=ae hr;clear hx hr;go_enter Tryz.func52,Tryz.ntmps52;go_upto_region 2 with fail;obtain⟨W0,J⟩:∃W,(w.alloc (.cells #[.int .i64 fF] 3)).alloc (.cells #[.bool false] 4)=W:=⟨_,rfl⟩
 rw[J];have Fg:aj (Fr [] w W0):=J▸((cQ _ _).ak (cQ _ _));have hb:At W0 w.heap.size 3 #[.int .i64 fF]:=J▸(At.new w _ _).alloc _;have ha:At W0 (w.heap.size+1) 4 #[.bool false]:=by rw[<-J];have :=At.new (w.alloc (.cells #[.int .i64 fF] 3)) 4 #[.bool false];simpa using this
 have KC:=ae (jh W0 A c xs 89 #[.pointer (some ⟨w.heap.size+1,0,none⟩), .pointer (some ⟨w.heap.size,0,none⟩)] (xA fF) T2 (HX.o.keep Fg.o) HR.o hl
  (fun W hW x _ hx=>Wt W _ _ fF x (hW.aF (by rw[ha.cell];rfl)) (hW.aF (by rw[hb.cell];rfl)) hx))
 clear J ha hb;go_wp2_with fail;refine KC.o.mono ?_;rw[aaC];obtain⟨q,HQ⟩:∃q,aj (Vf fF xs=q):=⟨_,rfl⟩
 rw[HQ.o];rintro e w2 ⟨rfl,hf⟩;have HF:=ae (Fg.o.ak hf);clear hf;cases q with
 |true=>
  go_wp2;go_ret;exact⟨hK.o _ (by rw[HQ.o];rfl),HF.o⟩
 |false=>
  go_wp2;go_ret;exact⟨hK.o _ (by rw[HQ.o];rfl),HF.o⟩
theorem aeq(w:World):(zeroValue 4).run Tryz.prog w= .ok (.bool false) w:=by kernel_rfl
theorem PT{P:Program}{e:TypeId}(he:P.underlying e=some .bool){v:Value}{z:DataW Unit×List MemPlace}(h:plainElem P e v=some z):∃b:Bool,v= .bool b/\z=(.lit (.bool b),[]):=by unfold plainElem at h;rw[he]at h;cases v<;>simp at h;subst h;exact⟨_,rfl,rfl⟩
def N5(w:World)(b n:Nat)(f:Int->Bool):Prop:=∃D:DataW Unit,w.ownsMap Tryz.prog 3 (plainElem Tryz.prog 4) b n D/\∀v,eJ v->D.atKey (.int .i64 v) (.lit (.bool false))= .lit (.bool (f v))
theorem N5.lt{w:World}{b n:Nat}{f:Int->Bool}(h:N5 w b n f):b<w.heap.size:=by obtain⟨D,h1,_⟩:=h;exact h1.lt
theorem N5.fr{w w':World}{S:List Nat}{b n:Nat}{f:Int->Bool}(h:N5 w b n f)(hf:Fr S w w')(hn:b∉S):N5 w' b n f:=by have J:=h.lt;obtain⟨D,⟨es,clock,hb,F,hs,hD⟩,h2⟩:=h;exact⟨D,⟨es,clock,(hf.block b J hn).trans hb,F,hs,hD⟩,h2⟩
theorem N5.new(w:World):N5 (w.alloc (.map #[] 0)) w.heap.size 0 (fun _=>false):=
 ⟨.map [],World.ownsMap_made w _ _ _,fun v _=>rfl⟩
theorem OI{P:Program}{k e t:TypeId}(K:Maps.Keyed P k)(ht:P.underlying t=some (.map k e))(he:P.underlying e=some .bool){w:World}(hz:(zeroValue e).run P w= .ok (.bool false) w){b n:Nat}{D:DataW Unit}
  (h1:w.ownsMap P k (plainElem P e) b n D) {key:Value} {kl:Lit} (ab:keyOf P k key=some kl) {s:Bool} (h2:D.atKey kl (.lit (.bool false))= .lit (.bool s)):
  (Instr.lookup t (.map (some b)) key false).run P w= .ok (.bool s) w:=by
 obtain⟨x,ps,hr,hx⟩:=h1.lookup K ht hz (plainElem_bool he false) ab;obtain⟨y,rfl,hz⟩:=PT he hx;have h4:=(Prod.mk.inj hz).1;refine hr.trans ?_;have J:(DataW.lit (H:=Unit) (.bool y))= .lit (.bool s):=by rw[<-h4];exact h2
 injection J with J;injection J with J;rw[<-J]
theorem N5.look{w:World}{b n:Nat}{f:Int->Bool}(h:N5 w b n f){v:Int}(J:eJ v):
  (Instr.lookup 181 (.map (some b)) (.int .i64 v) false).run Tryz.prog w= .ok (.bool (f v)) w:=by
 obtain⟨D,h1,h2⟩:=h;exact OI (Maps.int_keyed Tryz.underlying3) Tryz.underlying181 Tryz.underlying4 (aeq w) h1 (Wy J) (h2 v J)
theorem V7{D:DataW Unit}(J:Maps.IsMap D){v x:Int}{d:DataW Unit}{f:Int->Bool}{s:Bool}(hd:d= .lit (.bool s))(h:eJ x->D.atKey (.int .i64 x) (.lit (.bool false))= .lit (.bool (f x)))(hx:eJ x):
  (D.put (.int .i64 v) d).atKey (.int .i64 x) (.lit (.bool false))= .lit (.bool (if x=v then s else f x)):=by
 by_cases e:x=v
 ·subst e;rw[qai rfl,Maps.atKey_put_same J (by simp[WideAt.IsKeyLit]),hd]
 ·rw[qah e,Maps.atKey_put_other (by simpa using e),h hx]
theorem fR{α:Type}[Inhabited α]{l:List α}{p:α->Prop}:(∀j:Nat,j<l.length->p l[j]!)↔∀x∈l,p x:=by
 constructor
 ·intro h x hx;obtain⟨j,J,e⟩:=List.mem_iff_getElem.1 hx;have :=h j J;rwa[aa,af J,e]at this
 ·intro h j J;exact h _ (by rw[aa,af J];simp)
theorem F2(w:World)(A:Option Addr)(c:Nat)(xs:List Int)(n:Int)(h:Rd w A xs)(hr:Ra xs)(hl:xs.length<=17592186044416):
  Calls Tryz.prog 181 #[.slice A xs.length c, .int .i64 n] w (Q2 (xs.any (n== ·)) w):=by
 have HH:=ae h;have HR:=ae hr;have xk:aj (∀(k:Nat) W,k<=17592186044416->xs.any (n== ·)=true->Fr [] w W->Q2 (xs.any (n== ·)) w (.returned (.int .i64 (k:Int))) W):=fun k W h1 h2 h3=>⟨k,rfl,by omega,by omega,by rw[h2];exact qak (by omega),h3⟩
 have NO:aj (∀W,xs.any (n== ·)=false->Fr [] w W->Q2 (xs.any (n== ·)) w (.returned (.int .i64 (-1))) W):=fun W h2 h3=>⟨-1,rfl,by omega,by omega,by rw[h2];rfl,h3⟩
 clear h hr;go_enter Tryz.func181,Tryz.ntmps181;go_wp2_with fail;go_loopg [8] xs.length (fun g i wr=>∃k:Nat,k+g=xs.length/\i= .int .i64 k/\Fr [] w wr/\dT xs (n== ·) k);case atStart=>exact⟨0,by omega,rfl,Fr.refl _ _,dT.zero _ _⟩
 case round=>
  obtain⟨k,hk,rfl,hx,hn⟩:=hrel;have HK:=ae hk;have J:=ae hx;have HN:=ae hn;have iS:k<=xs.length:=by omega
  clear hk hx hn;by_cases bt:k<xs.length
  ·obtain⟨b,o,x,hA,he,cx,gU,jn⟩:=(HH.o.keep J.o).one HR.o bt;subst hA;obtain⟨q,HQ⟩:∃q:Bool,aj ((n==x)=q):=⟨(n==x),ae rfl⟩
   have hq:=HQ.o;cases q with
   |true=>
    go_wp2;go_ret;exact xk.o k _ (by omega) (kU _ _ k bt (by rw[he.o];exact HQ.o)) J.o
   |false=>
    go_wp2;go_roundg (gk-1);case measure=>have :=HK.o;omega
    case rel=>exact⟨k+1,by have :=HK.o;omega,by go_num,J.o,HN.o.step (by rw[he.o];exact HQ.o)⟩
  ·have HT:=ae (HN.o.all bt);clear HN HK;go_wp2;go_ret;exact NO.o _ HT.o J.o
theorem yS(w:World)(A:Option Addr)(c:Nat)(xs:List Int)(n:Int)(h:Rd w A xs)(hr:Ra xs)(hl:xs.length<=17592186044416):
  Calls Tryz.prog 165 #[.slice A xs.length c, .int .i64 n] w fun e w'=>e= .returned (.bool (xs.any (n== ·)))/\Fr [] w w':=by
 have HC:=ae (F2 w A c xs n h hr hl);clear h hr;go_enter Tryz.func165,Tryz.ntmps165;go_wp2_with fail;refine HC.o.mono ?_;rintro e w2 ⟨n,rfl,h1,h2,J,hf⟩;have H3:=ae J;have HF:=ae hf;clear J hf;go_wp2;go_ret;exact⟨by rw[<-H3.o];rfl,HF.o⟩
theorem N5.store{w:World}{b n:Nat}{f:Int->Bool}(h:N5 w b n f)(hn:n<maxLen){v:Int}(hv:eJ v)(s:Bool):
  ∃w',(Instr.mapUpdate 181 (.map (some b)) (.int .i64 v) (.bool s)).run Tryz.prog w= .ok () w'/\N5 w' b (n+1) (fun x=>if x=v then s else f x)/\Fr [b] w w':=by
 obtain⟨D,h1,J⟩:=h;obtain⟨w',hr,g1,g2⟩:=h1.update (Maps.int_keyed Tryz.underlying3) Tryz.underlying181 hn (Wy hv) (plainElem_bool Tryz.underlying4 s);exact⟨w',hr,⟨_,g1,fun x hx=>V7 h1.isMap rfl (fun hr=>J x hr) hx⟩,(Fr.refl _ w).grown g2 (fun k hk=>by cases hk;exact .inl (by simp))⟩
def tu(w:World)(b n:Nat)(l:List Int):Prop:=∃f,N5 w b n f/\∀x,f x=true↔x∈l
theorem tu.new(w:World):tu (w.alloc (.map #[] 0)) w.heap.size 0 []:=⟨_,N5.new w,fun x=>by simp⟩
theorem tu.look{w:World}{b n:Nat}{l:List Int}(h:tu w b n l){v:Int}(hv:eJ v):
  (Instr.lookup 181 (.map (some b)) (.int .i64 v) false).run Tryz.prog w= .ok (.bool (decide (v∈l))) w:=by
 obtain⟨f,h1,J⟩:=h;have e:decide (v∈l)=f v:=by rw[Bool.eq_iff_iff,decide_eq_true_iff];exact(J v).symm
 rw[e];exact h1.look hv
theorem tu.store{w:World}{b n:Nat}{l:List Int}(h:tu w b n l)(hn:n<maxLen){v:Int}(hv:eJ v):
  ∃w',(Instr.mapUpdate 181 (.map (some b)) (.int .i64 v) (.bool true)).run Tryz.prog w= .ok () w'/\tu w' b (n+1) (v::l)/\Fr [b] w w':=by
 obtain⟨f,h1,J⟩:=h;obtain⟨w',hr,g1,g2⟩:=h1.store hn hv true;refine⟨w',hr,⟨_,g1,fun x=> ?_⟩,g2⟩;simp only[ay];by_cases e:x=v
 ·simp[e]
 ·rw[qah e,J x];simp[e]
theorem tu.fr{w w':World}{S:List Nat}{b n:Nat}{l:List Int}(h:tu w b n l)(hf:Fr S w w')(hn:b∉S):tu w' b n l:=by obtain⟨f,h1,J⟩:=h;exact⟨f,h1.fr hf hn,J⟩
theorem tu.keep{w w':World}{b n:Nat}{l:List Int}(h:tu w b n l)(J:Fr [] w w'):tu w' b n l:=h.fr J (by simp)
theorem tu.congr{w:World}{b n:Nat}{l l':List Int}(h:tu w b n l)(he:∀x,x∈l↔x∈l'):tu w b n l':=by obtain⟨f,h1,J⟩:=h;exact⟨f,h1,fun x=>(J x).trans (he x)⟩
theorem tu.lt{w:World}{b n:Nat}{l:List Int}(h:tu w b n l):b<w.heap.size:=by obtain⟨f,h1,J⟩:=h;exact h1.lt
theorem bh.abS{w:World}{L:aO}{S:Sv}(h:bh w L S){k:Nat}(hk:L.has k):k<w.heap.size:=by
 rcases hk with rfl |hk |hk |hk |hk |hk |hk |hk |⟨n,J,hk⟩ |⟨c,hc,hk⟩
 ·exact h.obj.lt
 ·exact h.tr.lt k hk
 ·exact h.hp.lt k hk
 ·exact eK h.wD k hk
 ·exact eK h.rws k hk
 ·exact eK h.wv k hk
 ·exact eK h.yd k hk
 ·exact h.vm.lt k hk
 ·exact(h.qM n J).lt k hk
 ·exact(h.sV c hc).lt k hk
def aO.shut(L:aO)(w:World):aO:={ L with dh:=fun k=>if k<w.heap.size then L.dh k else(L.id+1,0,0) }
theorem bh.shut{w:World}{L:aO}{S:Sv}(h:bh w L S):bh w (L.shut w) S:=h.MS _ (fun k hk=>qai (h.abS hk))
theorem aO.og(L:aO)(w:World):L.ext (L.shut w) w:=⟨rfl,rfl,fun k hk e=>by simp only[aO.shut]at e;rwa[qai hk]at e⟩
theorem aO.ja{L:aO}{w:World}{k:Nat}(h:w.heap.size<=k):((L.shut w).dh k).1≠(L.shut w).id:=by simp only[aO.shut];rw[qah (by omega)];simp
theorem aO.yR{L:aO}{w:World}{k:Nat}(h:k<w.heap.size):(L.shut w).dh k=L.dh k:=by simp only[aO.shut];rw[qai h]
def aO.ie(L:aO)(A:Option Addr):Prop:=∀k,k∈ao A->(L.dh k).1≠L.id
theorem aO.o9{L:aO}{w:World}{k:Nat}(h:(L.dh k).1≠L.id):k∉L.own w:=fun hm=>h (aO.cj.1 hm).2
theorem Rd.jP{w w':World}{A:Option Addr}{xs:List Int}{F:List Nat}(h:Rd w A xs)(hf:Fr F w w')(hn:∀k,k∈ao A->k∉F):Rd w' A xs:=by intro J;obtain⟨b,o,rfl,hx⟩:=h J;exact⟨b,o,rfl,fun j hj=>hf.bF (hn b (by simp[ao])) (hx j hj)⟩
theorem Rd.blk{w:World}{A:Option Addr}{xs:List Int}(h:Rd w A xs)(J:0<xs.length):∀k,k∈ao A->k<w.heap.size:=by obtain⟨b,o,rfl,hx⟩:=h J;intro k hk;simp[ao]at hk;subst hk;exact bR (hx 0 J)
theorem bh.oZ{w w1:World}{L:aO}{S:Sv}(h:bh w L S){A':Option Addr}{c':Nat}{F:List Nat}{ls:List Int}(hi:Ints w1 A' c' ls)(hf:Fr F w w1)(hF:∀k,k∈F->k<w.heap.size->L.dh k=(L.id,7,0))
  (hA:∀k,k∈ao A'->(k<w.heap.size/\L.dh k=(L.id,7,0))\/w.heap.size<=k):
  ∃L',bh (w1.setCell ⟨L.a,7,none⟩ (.slice A' ls.length c')) L' { S with core:=ls }/\L.ext L' w/\Fr (L.own w) w (w1.setCell ⟨L.a,7,none⟩ (.slice A' ls.length c'))/\L'={ L with oA:=A',oC:=c',dh:=L.re w (7,0) }:=by
 have cE:Fr (L.a::F) w (w1.setCell ⟨L.a,7,none⟩ (.slice A' ls.length c')):=(hf.mono (fun k hk=> .inl (by simp[hk]))).setCell (.inl (by simp)) _;have zC:∀k,k∈L.a::F->k<w.heap.size->∃t,(t=(7,0)\/t=(0,0))/\L.dh k=(L.id,t):=by
  intro k hk hl;rcases ay.1 hk with rfl |hk
  ·exact⟨_, .inr rfl,h.t0⟩
  ·exact⟨_, .inl rfl,hF k hk hl⟩
 have o:=h.off (P:=fun t=>t=(7,0)\/t=(0,0)) cE zC;have o1:=h.off (P:=(· =(7,0))) hf (fun k hk hl=>⟨_,rfl,hF k hk hl⟩);have g:=h.tags (7,0);have dV:L.a∉ao A':=fun hk=>by
  rcases hA _ hk with⟨_,J⟩ |J
  ·rw[h.t0]at J;simp at J
  ·have :=h.obj.lt;omega
 refine⟨{ L with oA:=A',oC:=c',dh:=L.re w (7,0) },⟨?_,o.tr (by simp),o.hp (by simp),h.jf,h.CJ,h.CI,o.wD (by simp),o.rws (by simp),o.wv (by simp),o.yd (by simp),?_,fun n hn=>o.qM n hn (by simp),fun c hc=>o.sV c hc (by simp),
  g.t0,g.t1,g.t2,g.t3,g.t4,g.t5,g.t6,fun k hk=>aO.o4 (hA k hk),g.t8,g.t9⟩,⟨rfl,rfl,fun k hk e=>aO.qs hk e⟩,aO.iJ cE (fun k hk hl=>by obtain⟨t,_,e⟩:=zC k hk hl;rw[e]),rfl⟩
 ·have :=(o1.obj (by simp)).dL 7 (.slice A' ls.length c');simpa[qm]using this
 ·exact hi.ie (p:=⟨L.a,7,none⟩) dV _
theorem Sv.Ok.oZ{S:Sv}{m:Nat}(ok:S.Ok m)(l:List Int):({ S with core:=l }:Sv).Ok m:=⟨ok.vl,ok.tr,ok.hi,ok.hl,ok.ph,ok.wl,ok.ll,ok.wb,ok.wt,ok.lr,ok.ln,ok.lb,ok.hd,ok.rs⟩
theorem Rk{x:Int}{v:Nat}(J: -(v:Int)<=x)(h1:x<=v)(hv:v<=262143):0<=tv x/\tv x<=v:=by unfold tv;split<;>omega
theorem zd{x:Int}{v:Nat}(J: -(v:Int)<=x)(h1:x<=v)(hv:v<=262143):(if x< -x then -x else x)=tv x/\IntKind.i64.wrap (-x)= -x:=⟨JY (by omega),IntWalk.i64_in _ (by omega)⟩
namespace Sv
theorem xf{S:Sv}{l:Int}{r g met:List Int}(h:tv l∉g\/S.T.dF (tv l)=0):dY S (l::r) g met=dY S r g met:=by rw[dY,qai h]
theorem LD{S:Sv}{l:Int}{r g met:List Int}(h:tv l∈g)(h1:S.T.dF (tv l)≠0)(J:S.T.fV (tv l)-1<0):dY S (l::r) g met=dY S r g (l::met):=by rw[dY,qah (by rintro(x |x);exact x h;exact h1 x),qai J]
theorem PZ{S:Sv}{l:Int}{r g met:List Int}(h:tv l∈g)(h1:S.T.dF (tv l)≠0)(J:¬S.T.fV (tv l)-1<0):dY S (l::r) g met=dY S r ((S.rc (S.T.fV (tv l)-1).toNat).lits.map tv++g) met:=by rw[dY,qah (by rintro(x |x);exact x h;exact h1 x),qah J]
end Sv
theorem D8{l:List Int}{j:Nat}(J:j<l.length)(g:List Int)(x:Int):x∈tv l[j]! ::((l.take j).map tv++g)↔x∈(l.take (j+1)).map tv++g:=by
 rw[List.take_add_one,af J,eD];simp only[aa,af J,aJ,bE,ah,ay,dJ,fQ,bi,or_false];constructor
 ·rintro(h |h |h)
  ·exact .inl (.inr h)
  ·exact .inl (.inl h)
  ·exact .inr h
 ·rintro((h |h) |h)
  ·exact .inr (.inl h)
  ·exact .inl h
  ·exact .inr (.inr h)
theorem Iw(w:World)(L:aO)(S:Sv)(h:bh w L S)(m:Nat)(ok:S.Ok m)(a:Int)(ZE: -(S.vars:Int)<=a)(XE:a<=S.vars)(A:Option Addr)(c:Nat)(us:List Int)(hi:Rd w A us)(kQ:∀x∈us,-(S.vars:Int)<=x/\x<=S.vars)(vN:us.length<=1099511627776)(b3:L.ie A)(iT:S.core=[]):
  Calls Tryz.prog 142 #[.pointer (some ⟨L.a,0,none⟩), .int .i64 a, .slice A us.length c] w (pB (.tuple #[]) (S.Af a us) L w):=by
 have lP:=ok.vl;obtain⟨Vu,XG⟩:∃Vu,Sv.dY S S.T.lits.reverse [tv a] [a]=Vu:=⟨_,rfl⟩
 obtain⟨RC,bo⟩:∃RC,Sv.iU Vu us S.core=RC:=⟨_,rfl⟩
 have eB:S.Af a us={ S with core:=RC }:=by unfold Sv.Af;rw[XG,bo]
 rw[eB];have pT:aj (∀W L',bh W L' { S with core:=RC }->L.ext L' w->Fr (L.own w) w W->pB (.tuple #[]) { S with core:=RC } L w (.returned (.tuple #[])) W):=fun W L' g1 g2 g3=>⟨rfl,L',g1,g2,g3⟩
 have Eo:=@run_makeMap Tryz.prog;obtain⟨va,b7⟩:∃va,tv a=va:=⟨_,rfl⟩
 obtain⟨tn,Sz⟩:=zd ZE XE lP;have Bd:=Rk ZE XE lP;rw[b7]at tn Bd XG;obtain⟨w1,Nk,sl,di⟩:=(tu.new w).store (v:=va) (by decide) ⟨by omega,by omega⟩;have dZ:aj (Fr [] w w1):=((Fr.refl [] w).alloc _).trans di (fun k hk=>by simp at hk;subst hk;exact .inr (aq _));obtain⟨w2,Zm,Kw,cE⟩:=(tu.new w1).store (v:=a) (by decide) ⟨by omega,by omega⟩;have b5:aj (Fr [] w1 w2):=((Fr.refl [] w1).alloc _).trans cE (fun k hk=>by simp at hk;subst hk;exact .inr (aq _));have df:aj (Fr [] w w2):=dZ.o.ak b5.o;have Qq:=ae (sl.keep b5.o);have Mg:=ae Kw;have ni:w.heap.size<w1.heap.size:=sl.lt;have Qj:=ae ni;obtain⟨bm,XC⟩:∃bm,w1.heap.size=bm:=⟨_,rfl⟩
 obtain⟨bg,Tv⟩:∃bg,w.heap.size=bg:=⟨_,rfl⟩
 rw[XC]at ni Zm Mg;rw[Tv]at ni Nk Qq;have HH:=ae h;have lh:=ae ok;have b4:=ae XG;have Z4:=ae bo;have ad:=ae Tv;have cO:=ae XC;have xr:=ae ni;have HI:=ae hi;have tf:=ae kQ;have U0:=ae b3;have bG:=ae iT;obtain⟨c0,-,-,c3,-⟩:=h.cells;have vZ:=ae c0;have I5:=ae c3;have UN:=ae ok.io;have c0:=df.o.aF vZ.o;have KL:=ae (mc w2 L.tL S.T (h.tr.fr df.o (by simp)));have nV:=ok.io;have AI:=h.pN;have c4:=ok.ll;have cc:aj (∀x,∀n:Nat,∀k,x=S.T.lits[k]! ->k<S.T.lits.length->n=n):=fun _ _ _ _ _=>rfl;clear di cE sl Kw c3 h ok XG bo hi kQ b3 iT ZE XE b7 eB cc;go_enter Tryz.func142,Tryz.ntmps142;go_wp2_with fail;refine KL.o.mono ?_;clear KL;rintro e w3 ⟨rfl,rfl⟩;clear Nk Zm c0 tn Sz;have eo:IntKind.i64.wrap ((S.T.lits.length:Int)-1)=(S.T.lits.length:Int)-1:=IntWalk.i64_in _ (by omega);go_wp2_with fail;clear eo;go_loopg [8] S.T.lits.length (fun g x8 wr=>∃(n1 n2:Nat)(g1 J:List Int),g<=S.T.lits.length/\x8= .int .i64 ((g:Int)-1)/\aj (Sv.dY S (S.T.lits.take g).reverse g1 J=Vu)/\aj (tu wr bg n1 g1)/\aj (tu wr bm n2 J)/\n1+1048577*g<=300000000000/\n2+g<=262145/\aj (Fr [] w wr));case atStart=>exact⟨1,1,[va],[a],aq _,rfl,by show _=_;rw[cN];exact b4.o,Qq.o,Mg.o,by omega,by omega,df.o⟩
 case round=>
  obtain⟨n1,n2,g1,J,hk,rfl,HB,HG,HT,rP,tm,HF⟩:=hrel;have xq:=ae rP;have l8:=ae tm;clear rP tm;cases gk with
  |zero=>
   have bO:aj (J=Vu):=by have :=HB.o;show _=_;simpa[Sv.dY]using this
   clear HB xq HG;go_wp2_with fail;have H1:=ae (HH.o.shut.keep HF.o);have fH:=ae (L.og w);have Ff:aj (Fr (L.own w) w wr):=HF.o.mono (fun k hk=>by cases hk);have xp:aj (((L.shut w).dh bm).1≠(L.shut w).id):=aO.ja (by have :=xr.o;have :=ad.o;omega);have tz:=ae (HI.o.keep HF.o);have ca:aj ((L.shut w).ie A):=fun k hk=>by
    rcases bN k w.heap.size with h1 |h1
    ·rw[aO.yR h1];exact U0.o k hk
    ·exact aO.ja h1
   have Xg:=bO.o;subst Xg;have Yq:aj (({ S with core:=[] }:Sv)=S):=(aaa (fun l=>({ S with core:=l }:Sv)) bG.o).symm;have cf:aj (Ra us):=(fR (p:=eJ)).2 fun x hx=>by have :=tf.o x hx;constructor<;>omega
   have cn:aj (Sv.iU J us []=RC):=by have :=Z4.o;rw[bG.o]at this;exact this
   clear HF HI U0 b4 Qq Mg vZ I5 Z4 bO;go_loopg [90] us.length (fun g cI wi=>∃(k:Nat)(c1:List Int)(L1:aO),k+g=us.length/\cI= .int .i64 k/\aj (Sv.iU J (us.drop k) c1=RC)/\aj (bh wi L1 { S with core:=c1 })/\aj (L.ext L1 w)/\aj (Fr (L.own w) w wi)/\aj (tu wi bm n2 J)/\aj ((L1.dh bm).1≠L1.id)/\aj (Rd wi A us)/\aj (L1.ie A)/\c1.length<=k/\aj (Ra c1));case atStart=>exact⟨0,[],L.shut w,by omega,rfl,cn.o,Yq.o.symm▸H1.o,fH.o,Ff.o,HT.o,xp.o,tz.o,ca.o,aq _,fun j hj=>absurd hj (aD _)⟩
   case round=>
    obtain⟨k,c1,L1,hk,rfl,HB,H2,dR,U3,LZ,YA,AP,YL,oR,IV⟩:=hrel;have HK:=ae hk;have pR:k<=us.length:=(by omega)
    clear hk;by_cases bt:k<us.length
    ·obtain⟨b,o,x,hA,he,cx,gU,jn⟩:=AP.o.one cf.o bt;subst hA;have sT:us.drop k=x::us.drop (k+1):=by rw[List.drop_eq_getElem_cons bt,<-he.o];simp only[aa,af bt,aJ]
     have ar:=ae sT;have kk:=LZ.o.look (v:=x) ⟨gU,jn⟩;clear sT;by_cases hm:x∈J
     ·have up:decide (x∈J)=true:=qak hm;rw[up]at kk;have HM:=ae hm;obtain⟨-,-,-,-,-,-,-,c7,-⟩:=H2.o.cells;rw[dR.o.1]at c7;simp only at c7;have bB:=ae c7;have KC:=ae (yS wr L1.oA L1.oC c1 x H2.o.vm.rd IV.o (by omega));obtain⟨q,hq⟩:∃q,c1.any (x== ·)=q:=⟨_,rfl⟩
      rw[hq]at KC;have HQ:=ae hq;clear hm up hq;go_wp2_with fail;refine KC.o.mono ?_;clear KC kk cx c7;rintro e w3 ⟨rfl,hf⟩;have dG:=ae hf;have c7:=dG.o.aF bB.o;clear hf;cases q with
      |true=>
       have Az:aj (Sv.iU J (us.drop (k+1)) c1=RC):=by have :=HB.o;rw[ar.o,Sv.iU,qah (by rintro⟨_,h2⟩;have :=HQ.o;rw[cP]at this;obtain⟨y,iO,ld⟩:=this;exact h2 ((beq_iff_eq.1 ld)▸iO))]at this;exact this
       clear c7;go_wp2;go_roundg (gk-1);case measure=>have :=HK.o;omega
       case rel=>exact⟨k+1,c1,L1,by have :=HK.o;omega,by go_num,Az.o,H2.o.keep dG.o,dR.o,U3.o.ak (dG.o.mono (fun k hk=>by cases hk)),LZ.o.keep dG.o,YA.o,AP.o.keep dG.o,YL.o,by omega,IV.o⟩
      |false=>
       have Az:aj (Sv.iU J (us.drop (k+1)) (c1++[x])=RC):=by have :=HB.o;rw[ar.o,Sv.iU,qai ⟨HM.o,by intro h2;have :=HQ.o;rw[List.any_eq_false]at this;exact this x h2 (beq_self_eq_true x)⟩]at this;exact this
       have H3:=ae (H2.o.keep dG.o);have b0:L.a∉ao L1.oA:=fun hm=>by have e1:=H2.o.t7 _ hm;rw[<-dR.o.1,H2.o.t0]at e1;simp at e1
       have bS:=ae b0;have Jv:aj (Fr [] w3 (w3.alloc (.cells #[.int .i64 x] 3))):=aR _ _;have U7:aj ((w3.alloc (.cells #[.int .i64 x] 3)).cell? ⟨w3.heap.size,0,none⟩=some (.int .i64 x)):=(At.new w3 _ _).cell 0;have US:=ae (H3.o.vm.fY Jv.o);have CS:aj (∀w5,Fr (ao L1.oA) (w3.alloc (.cells #[.int .i64 x] 3)) w5->w5.cell? ⟨L.a,7,none⟩=some (.slice L1.oA c1.length L1.oC)/\w5.frozen? ⟨L.a,7,none⟩=false):=fun w5 fT=>by have b6:=Jv.o.aF (dG.o.aF bB.o);have f7:=(H3.o.keep Jv.o).obj.frozen 7;rw[dR.o.1]at f7;exact⟨fT.bF bS.o b6,(World.frozen?_of_block (fT.block L.a (bR b6) bS.o)).trans f7⟩
       have Jh:c1.length<17592186044416:=(by omega)
       have I3:=ae Jh;clear b0 Jh;go_wp2_with (at_builtin;(refine cL _ rfl _ _ rfl L1.oA L1.oC c1 _ rfl rfl US.o ⟨w3.heap.size,0,none⟩ 1 x rfl U7.o I3.o ?_;intro g5 cS w5 ym fT QT ct;obtain⟨s7,f7⟩:=CS.o w5 fT))
       have b2:Fr (ao L1.oA) w3 w5:=(Jv.o.mono (fun k hk=>by cases hk)).ak fT;obtain⟨L6,h6,To,gQ,bj⟩:=H3.o.oZ ym b2 (fun k hk hl=>H3.o.t7 k hk) (fun k hk=>by
        simp[ao]at hk;subst hk;rcases QT with h5 |h5
        ·exact .inl ⟨H3.o.vm.lt _ h5,H3.o.t7 _ h5⟩
        ·right
         rw[h5];simp)
       rw[dR.o.1,an,aV]at h6 gQ;have H6:=ae h6;have b1:w.heap.size<=w3.heap.size:=aE U3.o.size dG.o.size;have sC:=ae (aO.a6 dR.o To b1);have fC:=ae (aO.aQ dR.o (U3.o.ak (dG.o.mono (fun k hk=>by cases hk))) gQ);have Tz:bm<w3.heap.size:=aS LZ.o.lt dG.o.size;have aT:=ae ((LZ.o.keep dG.o).fr gQ (aO.o9 YA.o));have ch:aj ((L6.dh bm).1≠L6.id):=by show _≠_;rw[bj];simp only;rw[aO.jx Tz];exact YA.o
       have oK:=ae ((AP.o.keep dG.o).jP gQ (fun k hk=>aO.o9 (YL.o k hk)));have cr:aj (L6.ie (some ⟨b,o,none⟩)):=fun k hk=>by rw[bj];simp only;rw[aO.jx ((AP.o.keep dG.o).blk (by omega) k hk)];exact YL.o k hk
       have cp:aj (Ra (c1++[x])):=(fR (p:=eJ)).2 fun y hy=>by
        rcases ah.1 hy with h5 |h5
        ·exact(fR (p:=eJ)).1 IV.o y h5
        ·simp at h5;rw[h5];exact⟨gU,jn⟩
       clear h6 To gQ bj b2 ym fT QT ct Tz b1 s7 f7;go_roundg (gk-1);case measure=>have :=HK.o;omega
       case rel=>exact⟨k+1,c1++[x],L6,by have :=HK.o;omega,by go_num,Az.o,H6.o,sC.o,fC.o,aT.o,ch.o,oK.o,cr.o,by simp;omega,cp.o⟩
     ·have up:decide (x∈J)=false:=qaj hm;rw[up]at kk;have Az:aj (Sv.iU J (us.drop (k+1)) c1=RC):=by have :=HB.o;rw[ar.o,Sv.iU,qah (fun h=>hm h.1)]at this;exact this
      clear hm up;go_wp2;go_roundg (gk-1);case measure=>have :=HK.o;omega
      case rel=>exact⟨k+1,c1,L1,by have :=HK.o;omega,by go_num,Az.o,H2.o,dR.o,U3.o,LZ.o,YA.o,AP.o,YL.o,by omega,IV.o⟩
    ·obtain rfl :k=us.length:=by omega
     have YK:aj (c1=RC):=by have :=HB.o;rw[List.drop_length]at this;exact this
     have Ps:=YK.o;subst Ps;have FF:=ae (pT.o _ L1 H2.o dR.o U3.o);clear HB HK;go_wp2_with fail;go_end0;exact FF.o
  |succ i=>
   have sS:i<S.T.lits.length:=by omega
   obtain⟨gU,jn,Sy,Sx,cB⟩:=lh.o.qX sS;obtain⟨l,hl⟩:∃l,S.T.lits[i]! =l:=⟨_,rfl⟩
   rw[hl]at gU jn Sy Sx cB;have HL:=ae hl;obtain⟨v,hv⟩:∃v,tv l=v:=⟨_,rfl⟩
   obtain⟨tn,Sz⟩:=zd Sy Sx lP;rw[hv]at tn gU jn;have HV:=ae hv;have vJ:((i+1:Nat):Int)-1=(i:Int):=by omega
   have c0:=HF.o.aF vZ.o;have KA:=ae (ml wr L.tL S.T (HH.o.tr.fr HF.o (by simp)) (i:Int));rw[rI sS,hl]at KA;have Ju:aj (Sv.dY S (l::(S.T.lits.take i).reverse) g1 J=Vu):=by have :=HB.o;rw[tT sS,hl]at this;exact this
   rw[vJ];clear HB hl hv;go_wp2_with fail;refine KA.o.mono ?_;clear KA;rintro e w4 ⟨rfl,rfl⟩;by_cases hg:v∈g1
   ·have kk:=HG.o.look (v:=v) ⟨by omega,by omega⟩;have up:decide (v∈g1)=true:=qak hg;rw[up]at kk;have bI:=ae hg;clear hg up;have KV:=ae (kV wr L.tL S.T (HH.o.tr.fr HF.o (by simp)) v);obtain⟨lv,oD⟩:∃lv,S.T.dF v=lv:=⟨_,rfl⟩
    rw[oD]at KV;have ba:=ae oD;clear oD;go_wp2_with fail;refine KV.o.mono ?_;clear KV;rintro e w5 ⟨rfl,rfl⟩;clear kk tn Sz;by_cases hz:lv=0
    ·have hd:(lv==0)=true:=(by simp[hz])
     have ab:aj (Sv.dY S (S.T.lits.take i).reverse g1 J=Vu):=by have :=Ju.o;rw[Sv.xf (.inr (by rw[HV.o,ba.o];exact hz))]at this;exact this
     clear hz;go_wp2;go_roundg i;case measure=>omega
     case rel=>exact⟨n1,n2,g1,J,by omega,rfl,ab.o,HG.o,HT.o,by have :=xq.o;omega,by have :=l8.o;omega,HF.o⟩
    ·have hd:(lv==0)=false:=(by simp[hz])
     have ly:=lh.o.rs v;have KR:=ae (lI wr L.tL S.T (HH.o.tr.fr HF.o (by simp)) v);obtain⟨r,hr⟩:∃r:Nat,S.T.fV v=r:=⟨(S.T.fV v).toNat,by omega⟩
     rw[hr]at KR ly;have HR:=ae hr;clear hr;cases r with
     |zero=>
      obtain⟨w6,oz,Zv,gQ⟩:=HT.o.store (v:=l) (by have :=l8.o;unfold maxLen;omega) ⟨by omega,by omega⟩;have fC:aj (Fr [] wr w6->True):=fun _=>trivial;have ab:aj (Sv.dY S (S.T.lits.take i).reverse g1 (l::J)=Vu):=by have :=Ju.o;rw[Sv.LD (by rw[HV.o];exact bI.o) (by rw[HV.o,ba.o];exact hz) (by rw[HV.o,HR.o];omega)]at this;exact this
      have aM:=ae Zv;have Qs:=ae (HG.o.fr gQ (by simp;have :=xr.o;omega));have bb:aj (Fr [] w w6):=HF.o.trans gQ (fun k hk=>by simp at hk;subst hk;right;have :=xr.o;have :=ad.o;omega);clear Zv gQ hz;go_wp2_with fail;refine KR.o.mono ?_;clear KR;rintro e w5 ⟨rfl,rfl⟩;go_wp2;go_roundg i;case measure=>omega
      case rel=>exact⟨n1,n2+1,g1,l::J,by omega,rfl,ab.o,Qs.o,aM.o,by have :=xq.o;omega,by have :=l8.o;omega,bb.o⟩
     |succ n=>
      have rz:n<S.list.length:=(by omega)
      have eo:IntKind.i64.wrap (((n+1:Nat):Int)-1)=(n:Int):=by rw[IntKind.wrap_i64];omega
      have xM:decide ((n:Int)<0)=false:=qaj (by omega);obtain⟨gc,km,x0,-,-⟩:=(HH.o.keep HF.o).sg (n:=n) (by rw[AI];exact rz);have mW:=ae ((HH.o.keep HF.o).qM n (by rw[AI];exact rz));have fJ:=HH.o.sh (n:=n) (by rw[AI];exact rz);have gY:=fun k hk=>lh.o.lit (n:=n) (k:=k) hk;have sQ:=lh.o.lb n;rw[fJ]at gY sQ;obtain⟨⟨A9,c9,l9,b9,t9⟩,Kd⟩:∃x,L.cs[n]! =x:=⟨_,rfl⟩
      rw[Kd]at x0 mW fJ gY sQ;simp only[Cw.rc]at x0 mW fJ gY sQ;have Mi:=ae gY;have um:n<L.cs.length:=(by omega)
      have c3:=HF.o.aF I5.o;rw[km]at c3;have ab:aj (Sv.dY S (S.T.lits.take i).reverse (l9.map tv++g1) J=Vu):=by have :=Ju.o;rw[Sv.PZ (by rw[HV.o];exact bI.o) (by rw[HV.o,ba.o];exact hz) (by rw[HV.o,HR.o];omega),HV.o,HR.o,show(((n+1:Nat):Int)-1).toNat=n from by omega,fJ]at this;exact this
      have ZZ:aj (Ints w A9 c9 l9):=by have :=HH.o.qM n um;rw[Kd]at this;exact this
      clear fJ gY Kd hz km;go_wp2_with fail;refine KR.o.mono ?_;clear KR;rintro e w5 ⟨rfl,rfl⟩;go_wp2_with fail;clear c0 c3 x0 eo xM mW;go_loopg [78] l9.length (fun g2 cG wi=>∃(j:Nat),j+g2=l9.length/\cG= .int .i64 j/\aj (tu wi bg (n1+j) ((l9.take j).map tv++g1))/\aj (tu wi bm n2 J)/\aj (Fr [] w wi));case atStart=>exact⟨0,by omega,rfl,HG.o,HT.o,HF.o⟩
      case round=>
       obtain⟨j,hj,rfl,aK,bT,aB⟩:=hrel;have HJ:=ae hj;have K1:j<=l9.length:=(by omega)
       clear hj;by_cases bt:j<l9.length
       ·obtain⟨lf,iO,ld⟩:=Mi.o j bt;obtain⟨gb,Vt,wX⟩:=ZZ.o.pos bt;subst Vt;have cy:=(ZZ.o.fY aB.o).cell bt;obtain⟨y,hy⟩:∃y,l9[j]! =y:=⟨_,rfl⟩
        rw[hy]at lf iO ld cy;have cz:=Rk iO ld lP;obtain⟨tn,Sz⟩:=zd iO ld lP;obtain⟨ty,a1⟩:∃ty,tv y=ty:=⟨_,rfl⟩
        rw[a1]at cz tn;obtain⟨w6,oz,Zv,gQ⟩:=aK.o.store (v:=ty) (by have :=xq.o;unfold maxLen;omega) ⟨by omega,by omega⟩;have aM:aj (tu w6 bg (n1+(j+1)) ((l9.take (j+1)).map tv++g1)):=Zv.congr (fun x=>by have :=D8 bt g1 x;rw[hy,a1]at this;exact this);have aT:=ae (bT.o.fr gQ (by simp;have :=xr.o;omega));have bb:aj (Fr [] w w6):=aB.o.trans gQ (fun k hk=>by simp at hk;subst hk;right;have :=ad.o;omega);clear Zv gQ a1 hy;go_wp2;go_roundg (gk-1);case measure=>have :=HJ.o;omega
        case rel=>exact⟨j+1,by have :=HJ.o;omega,by go_num,aM.o,aT.o,bb.o⟩
       ·obtain rfl :j=l9.length:=by omega
        have cb:aj (tu wr bg (n1+l9.length) (l9.map tv++g1)):=by have :=aK.o;rw[cN]at this;exact this
        clear HJ aK;go_wp2;go_roundg i;case measure=>omega
        case rel=>exact⟨n1+l9.length,n2,l9.map tv++g1,J,by omega,rfl,ab.o,cb.o,bT.o,by have :=xq.o;omega,by have :=l8.o;omega,aB.o⟩
   ·have kk:=HG.o.look (v:=v) ⟨by omega,by omega⟩;have up:decide (v∈g1)=false:=qaj hg;rw[up]at kk;have ab:aj (Sv.dY S (S.T.lits.take i).reverse g1 J=Vu):=by have :=Ju.o;rw[Sv.xf (.inl (by rw[HV.o];exact hg))]at this;exact this
    clear hg up;go_wp2;go_roundg i;case measure=>omega
    case rel=>exact⟨n1,n2,g1,J,by omega,rfl,ab.o,HG.o,HT.o,by have :=xq.o;omega,by have :=l8.o;omega,HF.o⟩
end Go.Proofs.YtpjbaobgnhjgoaaGreat
