/- Parts of a proof. -/
import Derived.Test.YtdgplmgfkliijaaGreatGAH
set_option linter.unusedVariables false
set_option linter.unusedSimpArgs false
set_option maxHeartbeats 16000000
set_option maxRecDepth 100000
namespace Go.Proofs.YtdgplmgfkliijaaGreat
open Go.RowKit
def zi (n:Nat):List Value:=(Builtin.zeroCells #[.int .i64 0] n).toList
theorem UE (n:Nat):∀v∈zi n,v.oneCell'=true:=by
 intro v hv
 simp only [zi,Builtin.zeroCells,Array.toList_map,az] at hv
 obtain ⟨i,_,rfl⟩:=hv
 simp [Nat.mod_one]
 rfl
theorem IC (n:Nat):(zi n).length=n:=by simp [zi,Builtin.zeroCells]
theorem xO (w:World) (g o c ty n:Nat) (w':World) (h:(storeCells ⟨g,o,none⟩ (zi (n+1))).run Tryz.prog w= .ok () w'):
  (Builtin.clear_ #[22] ty #[.slice (some ⟨g,o,none⟩) (n+1) c]).run Tryz.prog w= .ok (.tuple #[]) w':=by
 simp only [zi] at h
 simp only [Builtin.clear_,go_sem]
 simp [h,run_underlying Tryz.underlying22]
theorem nW (w:World) (g c i ty c':Nat) (xs:List Int) (h:Ints w (some ⟨g,0,none⟩) c xs) (hi:i<xs.length):
  ∃w',(Builtin.clear_ #[22] ty #[.slice (some ⟨g,i,none⟩) (xs.length-i) c']).run Tryz.prog w= .ok (.tuple #[]) w'∧Ints w' (some ⟨g,0,none⟩) c (xs.take i)∧Fr [g] w w':=by
 have hl:=h.1
 rcases h.2 with ⟨h1,_⟩ |⟨g',cap,cur,hv,hb,hg,hn,hm,hs,ht⟩
 ·cases h1
 ·simp only [Value.slice.injEq,Option.some.injEq,Addr.mk.injEq,and_true,true_and] at hv
  obtain ⟨rfl,rfl⟩:=hv
  have hz:=IC (xs.length-i)
  have mg:=run_storeCells_at (P:=Tryz.prog) g i 3 (zi (xs.length-i)) 0 cur w hg (by rw [hz,Nat.add_zero,hs];omega) (UE _)
  obtain ⟨m,pF⟩:∃m,xs.length-i=m+1:=⟨xs.length-i-1,by omega⟩
  obtain ⟨new,jf⟩:∃new,cur.toList.take (i+0)++zi (xs.length-i)++cur.toList.drop (i+0+(zi (xs.length-i)).length)=new:=⟨_,rfl⟩
  rw [jf] at mg
  have hlen:new.length=c:=by
   rw [←jf]
   simp only [ai,aV,iX,hz,Array.length_toList,hs]
   omega
  have Hj:new.take i=(xs.take i).map (Value.int .i64):=by
   rw [List.map_take,←ht,←jf,List.take_take,js,Nat.add_zero,mB (by rw [aV,Array.length_toList,hs];omega),List.take_take]
   congr 1
   omega
  clear jf
  refine ⟨w.setRow g new.toArray,?_,?_,?_⟩
  ·rw [pF] at mg⊢
   exact xO _ _ _ _ _ _ _ mg
  ·have Ry:(xs.take i).length=i:=by rw [aV];omega
   refine ⟨by simp, .inr ⟨g,c,new.toArray,rfl,hb,setRow_heap w g cur _ _ _ hg,by omega,hm,by rw [List.size_toArray,hlen];omega,?_⟩⟩
   rw [Ry]
   simpa using Hj
  ·refine ⟨rfl,rfl,rfl,by simp,fun k _ hk=>setRow_other _ _ _ _ (fun e=>hk (by simp [e]))⟩
theorem Ra.set {xs:List Int} (h:Ra xs) (i:Nat) {x:Int} (hx:dY x):Ra (xs.set i x):=by
 refine (dW (p:=dY)).2 fun y hy=> ?_
 rcases List.mem_or_eq_of_mem_set hy with h1 |h1
 ·exact (dW (p:=dY)).1 h y h1
 ·rw [h1];exact hx
theorem Ra.sub {xs ys:List Int} (h:Ra xs) (hs:∀y∈ys,y∈xs):Ra ys:=(dW (p:=dY)).2 fun y hy=>(dW (p:=dY)).1 h y (hs y hy)
def IB (F:List Nat) (w:World) (g:Nat) (cb:Array Value) (p:Int→Bool) (xs:List Int):Prop:=∀W,Fr F w W→∀x,x∈xs→dY x→
 Calls Tryz.prog g (#[.int .i64 x]++cb) W fun e w'=>e= .returned (.bool (p x))∧Fr [] W w'
theorem IB.less {F:List Nat} {w:World} {g:Nat} {cb:Array Value} {p:Int→Bool} {xs:List Int} (h:IB F w g cb p xs):Tg w g cb p xs:=fun W hW x hx hr=>h W (hW.mono (fun k hk=>by cases hk)) x hx hr
def IxF (p:Int→Bool) (xs:List Int) (w:World) (e:Ending) (w':World):Prop:=
 ((e= .returned (.int .i64 (-1))∧∀x∈xs,p x=false)∨∃n:Nat,e= .returned (.int .i64 n)∧n<xs.length∧p xs[n]! =true∧eC xs p n)∧Fr [] w w'
theorem te (w:World) (A:Option Addr) (c:Nat) (xs:List Int) (g:Nat) (cb:Array Value) (p:Int→Bool) (eg:∀args w,(callFunc g args).run Tryz.prog w= .ok (.enter g args) w) (h:Rd w A xs) (hr:Ra xs) (hl:xs.length≤17592186044416) (hp:Tg w g cb p xs):
  Calls Tryz.prog 74 #[.slice A xs.length c, .func (.func g) #[] cb] w (IxF p xs w):=by
 have HH:=ae h
 have HR:=ae hr
 have HP:=ae hp
 have pP:al (∀(n:Nat) W,n<xs.length→p xs[n]! =true→eC xs p n→Fr [] w W→IxF p xs w (.returned (.int .i64 (n:Int))) W):=fun n W h1 h2 h3 h4=>⟨.inr ⟨n,rfl,h1,h2,h3⟩,h4⟩
 have NO:al (∀W,eC xs p xs.length→Fr [] w W→IxF p xs w (.returned (.int .i64 (-1))) W):=fun W h2 h3=>⟨.inl ⟨rfl,(dW (p:=fun x=>p x=false)).1 (fun j hj=>h2 j hj)⟩,h3⟩
 clear h hr hp
 go_enter Tryz.func74,Tryz.ntmps74
 go_wp2_with fail
 go_loopg [8] xs.length (fun g i wr=>∃k:Nat,k+g=xs.length∧i= .int .i64 k∧Fr [] w wr∧eC xs p k)
 case atStart=>exact ⟨0,by omega,rfl,Fr.refl _ _,eC.zero _ _⟩
 case round=>
  obtain ⟨k,hk,rfl,hx,hn⟩:=hrel
  have HK:=ae hk
  have HX:=ae hx
  have HN:=ae hn
  have ly:k≤xs.length:=by omega
  clear hk hx hn
  by_cases bM:k<xs.length
  ·obtain ⟨b,o,x,hA,he,cx,ij,ix⟩:=(HH.o.keep HX.o).one HR.o bM
   subst hA
   obtain ⟨q,HQ⟩:∃q,al (p x=q):=⟨_,rfl⟩
   have HC:=ae (HP.o wr HX.o x (by rw [←he.o];exact bu bM) ⟨ij,ix⟩)
   go_wp2_with fail
   refine HC.o.mono ?_
   rw [HQ.o]
   rintro e w2 ⟨rfl,hf⟩
   have HF:=ae (HX.o.aj hf)
   clear hf
   cases q with
   |true=>
    go_wp2
    go_ret
    exact pP.o k _ bM (by rw [he.o];exact HQ.o) HN.o HF.o
   |false=>
    go_wp2
    go_roundg (gk-1)
    case measure=>have :=HK.o;omega
    case rel=>exact ⟨k+1,by have :=HK.o;omega,by go_num,HF.o,HN.o.step (by rw [he.o];exact HQ.o)⟩
  ·obtain rfl :k=xs.length:=by omega
   clear HK
   go_wp2
   go_ret
   exact NO.o _ HN.o HX.o
def Dx (ys:List Int) (A:Option Addr) (c:Nat) (w:World) (e:Ending) (w':World):Prop:=e= .returned (.slice A ys.length c)∧Ints w' A c ys∧Fr (ap A) w w'
theorem Kc {xs:List Int} {p:Int→Bool} {n:Nat} (h:eC xs p n):(xs.take n).filter (fun x=> !p x)=xs.take n:=by
 rw [List.filter_eq_self]
 intro x hx
 obtain ⟨j,hj,e⟩:=List.mem_iff_getElem.1 hx
 rw [aV] at hj
 rw [List.getElem_take] at e
 have :=h j (by omega)
 rw [aa,af (by omega),ay,e] at this
 simp [this]
theorem zg (xs:List Int) (p:Int→Bool) {j:Nat} (hj:j<xs.length):(xs.take (j+1)).filter (fun x=> !p x)=(xs.take j).filter (fun x=> !p x)++(if p xs[j]! =true then [] else [xs[j]!]):=by
 rw [List.take_add_one,List.filter_append,af hj,fq]
 congr 1
 simp only [aa,af hj,ay]
 by_cases h:p xs[j]=true<;>simp [h]
theorem BQ (L:List Int) (i:Nat) (x:Int) (h:i<L.length):(L.set i x).take (i+1)=L.take i++[x]:=by
 rw [List.take_add_one,List.take_set_of_le (au _),List.getElem?_set_self h]
 rfl
theorem vZ {L:List Int} {i k:Nat} {x:Int} (h:i<k):(L.set i x)[k]! =L[k]! :=by
 simp only [aa]
 rw [List.getElem?_set_ne (by omega)]
theorem AE (w:World) (g c:Nat) (xs:List Int) (f:Nat) (cb:Array Value) (p:Int→Bool) (eg:∀args w,(callFunc f args).run Tryz.prog w= .ok (.enter f args) w) (h:Ints w (some ⟨g,0,none⟩) c xs) (hr:Ra xs) (hl:xs.length≤17592186044416) (hp:IB [g] w f cb p xs):
  Calls Tryz.prog 51 #[.slice (some ⟨g,0,none⟩) xs.length c, .func (.func f) #[] cb] w (Dx (xs.filter fun x=> !p x) (some ⟨g,0,none⟩) c w):=by
 have HH:=ae h
 have HR:=ae hr
 have HP:=ae hp
 have DY:xs.length≤c∧c≤maxLen:=by
  rcases h.form with ⟨h1,_⟩ |⟨g',h1,_,h2,h3⟩
  ·cases h1
  ·exact ⟨h2,h3⟩
 have DZ:=DY.2
 have DY:=DY.1
 rw [maxLen] at DZ
 obtain ⟨R,hR⟩:∃R,xs.filter (fun x=> !p x)=R:=⟨_,rfl⟩
 have HRR:=ae hR
 rw [hR]
 have NO:al (R=xs→∀W,Fr [] w W→Dx R (some ⟨g,0,none⟩) c w (.returned (.slice (some ⟨g,0,none⟩) xs.length c)) W):=fun e W h2=>by
  subst e
  exact ⟨rfl,HH.o.fr h2 (by simp),h2.mono (by simp)⟩
 have pP:al (∀(i:Nat) (L:List Int) W W',i<L.length→L.take i=R→Fr [g] w W→Ints W' (some ⟨g,0,none⟩) c (L.take i)→Fr [g] W W'→Dx R (some ⟨g,0,none⟩) c w (.returned (.slice (some ⟨g,0,none⟩) i c)) W'):=fun i L W W' h1 h2 h4 h5 h6=>by
  have hi:(L.take i).length=i:=by rw [aV];omega
  rw [←h2]
  exact ⟨by rw [hi],h5,by simpa [ap] using h4.aj h6⟩
 have HI:=ae (te w (some ⟨g,0,none⟩) c xs f cb p eg h.rd hr hl hp.less)
 clear h hr hp hR
 go_enter Tryz.func51,Tryz.ntmps51
 go_wp2_with fail
 refine HI.o.mono ?_
 rintro e w1 ⟨hc,cU⟩
 have dy:=ae cU
 clear cU
 rcases hc with ⟨rfl,gV⟩ |⟨n,rfl,hn,TN,oq⟩
 ·have aif:al (R=xs):=by
   rw [←HRR.o]
   exact List.filter_eq_self.2 (fun x hx=>by simp [gV x hx])
  clear gV
  go_wp2
  go_ret
  exact NO.o aif.o _ dy.o
 ·have HO0:=ae (HH.o.fr dy.o (by simp))
  have HNE:al (((n:Int)== -1)=false):=(beq_eq_false_iff_ne.2 (by omega):((n:Int)== -1)=false)
  have HS0:al (xs.take n=(xs.take (n+1)).filter (fun x=> !p x)):=by
   show xs.take n=_
   rw [zg xs p hn,TN,Kc oq]
   simp
  clear TN oq
  go_wp2_with fail
  go_loopg [5,6] (xs.length-(n+1)) (fun gk x5 x6 wr=>∃(i j:Nat) (L:List Int),j+gk=xs.length∧x5= .int .i64 i∧x6= .int .i64 j∧i<j∧L.length=xs.length∧Ra L∧al (L.take i=(xs.take j).filter (fun x=> !p x))∧al (∀k:Nat,j≤k→L[k]! =xs[k]!)∧Ints wr (some ⟨g,0,none⟩) c L∧Fr [g] w wr)
  case atStart=>exact ⟨n,n+1,xs,by omega,rfl,by go_num,by omega,rfl,HR.o,HS0.o,fun _ _=>rfl,HO0.o,dy.o.mono (by simp)⟩
  case round=>
   obtain ⟨i,j,L,hk,rfl,rfl,JQ,hLl,hLr,HT,HG,ho,hf⟩:=hrel
   have HK:=ae hk
   have HO:=ae ho
   have HF:=ae hf
   have rO:=ae hLr
   have DW:j≤xs.length:=by omega
   have qr:=ae hLl
   clear hk ho hf HO0 dy hLr hLl
   by_cases bM:j<xs.length
   ·obtain ⟨b,o,x,hA,he,cx,ij,ix⟩:=(HO.o.rd).one rO.o (j:=j) (by rw [qr.o];exact bM)
    simp only [Option.some.injEq,Addr.mk.injEq,and_true] at hA
    obtain ⟨rfl,rfl⟩:=hA
    rw [cS] at cx
    have HX:al (xs[j]! =x):=(HG.o j (au _)).symm.trans he.o
    obtain ⟨q,HQ⟩:∃q:Bool,al (p x=q):=⟨p x,ae rfl⟩
    have HC:=ae (HP.o wr HF.o x (by rw [←HX.o];exact bu bM) ⟨ij,ix⟩)
    rw [HQ.o] at HC
    have zo:al ((xs.take (j+1)).filter (fun x=> !p x)=L.take i++if q=true then [] else [x]):=by
     show _=_
     rw [zg xs p bM,HX.o,HQ.o,HT.o]
    go_wp2_with fail
    refine HC.o.mono ?_
    clear HC cx
    rintro e w3 ⟨rfl,hf⟩
    have cZ:al (Fr [g] w w3):=HF.o.aj (hf.mono (by simp))
    have sP:=ae (HO.o.fr hf (by simp))
    clear HF HO hf
    cases q with
    |true=>
     go_wp2
     go_roundg (gk-1)
     case measure=>have :=HK.o;omega
     case rel=>exact ⟨i,j+1,L,by have :=HK.o;omega,rfl,by go_num,by omega,qr.o,rO.o,by show _=_;rw [zo.o];simp,fun k hk=>HG.o k (by omega),sP.o,cZ.o⟩
    |false=>
     have hiL:i<L.length:=by rw [qr.o];omega
     have f0:=sP.o.frozen i
     have c0:=sP.o.cell hiL
     go_wp2
     go_roundg (gk-1)
     case measure=>have :=HK.o;omega
     case rel=>exact ⟨i+1,j+1,L.set i x,by have :=HK.o;omega,by go_num,by go_num,by omega,by rw [aw];exact qr.o,rO.o.set i ⟨ij,ix⟩,by show _=_;rw [zo.o,BQ _ _ _ hiL];simp,fun k hk=>(vZ (by omega)).trans (HG.o k (by omega)),sP.o.eo i x,cZ.o.setCell (.inl (by simp)) _⟩
   ·obtain rfl :j=xs.length:=by omega
    have Oa:=nW wr g c i 0 (c-i) L HO.o (by rw [qr.o];exact JQ)
    rw [qr.o] at Oa
    obtain ⟨w2,qf,jU,bZ⟩:=Oa
    have HTR:al (L.take i=R):=by
     show _=_
     rw [HT.o,eD]
     exact HRR.o
    go_wp2
    go_ret
    exact pP.o i L wr _ (by rw [qr.o];exact JQ) HTR.o HF.o jU bZ
theorem wJ (w:World) (A:Option Addr) (c:Nat) (xs:List Int) (f:Nat) (cb:Array Value) (p:Int→Bool) (eg:∀args w,(callFunc f args).run Tryz.prog w= .ok (.enter f args) w) (h:Ints w A c xs) (hr:Ra xs) (hl:xs.length≤17592186044416) (hp:IB (ap A) w f cb p xs):
  Calls Tryz.prog 51 #[.slice A xs.length c, .func (.func f) #[] cb] w (Dx (xs.filter fun x=> !p x) A c w):=by
 rcases h.form with ⟨rfl,rfl,rfl⟩ |⟨g,rfl,_⟩
 ·have HI:=ae (te w none 0 [] f cb p eg (fun h=>absurd h (aI _)) hr (by simp) hp.less)
  have HH:=ae h
  clear h hp
  go_enter Tryz.func51,Tryz.ntmps51
  go_wp2_with fail
  refine HI.o.mono ?_
  rintro e w1 ⟨hc,cU⟩
  rcases hc with ⟨rfl,_⟩ |⟨n,rfl,hn,_⟩
  ·have HF:=ae cU
   clear cU
   go_wp2
   go_ret
   exact ⟨rfl,HH.o.fr HF.o (by simp),HF.o.mono (by simp)⟩
  ·exact absurd hn (aI _)
 ·exact AE w g c xs f cb p eg h hr hl (by simpa [ap] using hp)
def fX (xs:List Int):Nat→List Int
 |0=>[]
 |k+1=>if k=0∨xs[k]! ≠xs[k-1]! then fX xs k++[xs[k]!] else fX xs k
def Sd (xs:List Int):List Int:=fX xs xs.length
theorem Ig {xs:List Int} {k:Nat} (h:xs[k+1]! ≠xs[k]!):fX xs (k+2)=fX xs (k+1)++[xs[k+1]!]:=by
 rw [fX.eq_2,if_pos (.inr h)]
theorem If {xs:List Int} {k:Nat} (h:xs[k+1]! =xs[k]!):fX xs (k+2)=fX xs (k+1):=by
 rw [fX.eq_2,if_neg]
 rintro (h1 |h1)
 ·omega
 ·exact h1 h
theorem yC {xs:List Int} {k:Nat} (h:k<xs.length):xs.take (k+1)=xs.take k++[xs[k]!]:=by
 rw [List.take_add_one,af h,fq]
 simp only [aa,af h,ay]
theorem Ie (xs:List Int) (h:0<xs.length):fX xs 1=xs.take 1:=by
 rw [yC h]
 simp [fX]
theorem ye (w:World) (g c:Nat) (xs:List Int) (h:Ints w (some ⟨g,0,none⟩) c xs) (hr:Ra xs) (hl:xs.length≤17592186044416):
  Calls Tryz.prog 81 #[.slice (some ⟨g,0,none⟩) xs.length c] w (Dx (Sd xs) (some ⟨g,0,none⟩) c w):=by
 have HH:=ae h
 have HR:=ae hr
 have DY:xs.length≤c∧c≤maxLen:=by
  rcases h.form with ⟨h1,_⟩ |⟨g',h1,_,h2,h3⟩
  ·cases h1
  ·exact ⟨h2,h3⟩
 have DZ:=DY.2
 have DY:=DY.1
 rw [maxLen] at DZ
 have NO:al (fX xs xs.length=xs→∀W,Fr [] w W→Dx (Sd xs) (some ⟨g,0,none⟩) c w (.returned (.slice (some ⟨g,0,none⟩) xs.length c)) W):=fun e W h2=>by
  unfold Sd
  rw [e]
  exact ⟨rfl,HH.o.fr h2 (by simp),h2.mono (by simp)⟩
 have pP:al (∀(i:Nat) (L:List Int) W W',i<L.length→L.take i=fX xs xs.length→Fr [g] w W→Ints W' (some ⟨g,0,none⟩) c (L.take i)→Fr [g] W W'→Dx (Sd xs) (some ⟨g,0,none⟩) c w (.returned (.slice (some ⟨g,0,none⟩) i c)) W'):=fun i L W W' h1 h2 h4 h5 h6=>by
  have hi:(L.take i).length=i:=by rw [aV];omega
  unfold Sd
  rw [←h2]
  exact ⟨by rw [hi],h5,by simpa [ap] using h4.aj h6⟩
 clear h hr
 by_cases h2:xs.length<2
 ·have d2:decide ((xs.length:Int)<2)=true:=decide_eq_true (by omega)
  go_enter Tryz.func81,Tryz.ntmps81
  go_wp2
  go_ret
  exact NO.o (by
   rcases bK 0 xs.length with h0 |h0
   ·have e:xs.length=1:=by omega
    rw [e,Ie xs h0]
    exact dn (by omega)
   ·have e:xs.length=0:=by omega
    rw [e]
    exact (aJ e).symm) _ (Fr.refl _ _)
 ·have d2:decide ((xs.length:Int)<2)=false:=decide_eq_false (by omega)
  go_enter Tryz.func81,Tryz.ntmps81
  go_wp2_with fail
  go_loopg [3] (xs.length-1) (fun gk x3 wr=>∃j:Nat,j+1+gk=xs.length∧x3= .int .i64 ((j+1:Nat):Int)∧al (fX xs (j+1)=xs.take (j+1))∧Fr [] w wr)
  case atStart=>exact ⟨0,by omega,rfl,Ie xs (by omega),Fr.refl _ _⟩
  case round=>
   obtain ⟨j,hk,rfl,HD,hf⟩:=hrel
   have HK:=ae hk
   have HF:=ae hf
   have HO:=ae (HH.o.fr hf (by simp))
   have RD:j+1≤xs.length:=by omega
   clear hk hf
   by_cases bM:j+1<xs.length
   ·obtain ⟨b,o,x,hA,he,cx,ij,ix⟩:=(HO.o.rd).one HR.o bM
    obtain ⟨b',o',x',Bi,dZ,OL,Vb,ZA⟩:=(HO.o.rd).one HR.o (j:=j) (by omega)
    simp only [Option.some.injEq,Addr.mk.injEq,and_true] at hA Bi
    obtain ⟨rfl,rfl⟩:=hA
    obtain ⟨rfl,rfl⟩:=Bi
    rw [cS] at cx OL
    have e1:=Ext.cell cx
    have e2:=Ext.cell OL
    obtain ⟨q,HQ⟩:∃q:Bool,al ((x==x')=q):=⟨(x==x'),ae rfl⟩
    have hq:=HQ.o
    have dO:IntKind.i64.wrap (((j+1:Nat):Int)-1)=(j:Int):=by rw [IntKind.wrap_i64];omega
    cases q with
    |false=>
     have SL:al (fX xs (j+1+1)=xs.take (j+1+1)):=by
      show _=_
      rw [Ig (by rw [he.o,dZ.o];exact fun e=>by have :=HQ.o;simp [e] at this),HD.o,yC bM]
     go_wp2
     refine ax ?_
     repeat (go_big_quiet_step (fail))
     refine gO ?_
     intro w2 bl
     clear cx OL e1 e2
     go_wp2
     go_roundg (gk-1)
     case measure=>have :=HK.o;omega
     case rel=>exact ⟨j+1,by have :=HK.o;omega,by go_num,SL.o,HF.o.aj bl.o⟩
    |true=>
     have ahs:al (xs.take (j+1)=fX xs (j+1+0+1)):=by
      show _=_
      rw [Nat.add_zero,If (by rw [he.o,dZ.o];exact beq_iff_eq.1 HQ.o),HD.o]
     go_wp2
     refine ax ?_
     repeat (go_big_quiet_step (fail))
     refine gO ?_
     intro w2 bl
     clear cx OL e1 e2 hq dO
     have ul:=ae (HO.o.fr bl.o (by simp))
     have cH:=ae (HF.o.aj bl.o)
     clear HO HF bl
     go_wp2_with fail
     generalize hM2:xs.length-(j+1)=M2
     go_loopg [3,5] (M2-1) (fun gk x3 x5 wr=>∃(k m:Nat) (L:List Int),m+1+gk=M2∧x3= .int .i64 k∧x5= .int .i64 ((m+1:Nat):Int)∧j+1≤k∧k<j+1+(m+1)∧L.length=xs.length∧Ra L∧al (L.take k=fX xs (j+1+m+1))∧al (∀q:Nat,j+1+m≤q→L[q]! =xs[q]!)∧Ints wr (some ⟨g,0,none⟩) c L∧Fr [g] w wr)
     case atStart=>exact ⟨j+1,0,xs,by omega,by go_num,by go_num,by omega,by omega,rfl,HR.o,ahs.o,fun _ _=>rfl,ul.o,cH.o.mono (by simp)⟩
     case round=>
      obtain ⟨k,m,L,hk,rfl,rfl,JO,RB,hLl,hLr,HT,HG,ho,hf⟩:=hrel
      have HK:=ae hk
      have HF:=ae hf
      have HO:=ae ho
      have qr:=ae hLl
      have rO:=ae hLr
      have hmn:m+1≤M2:=by omega
      clear hk hf ho hLl hLr ul cH
      by_cases xU:m+1<M2
      ·obtain ⟨b,o,y,hA,he,cy,im,kS⟩:=(HO.o.rd).one rO.o (j:=j+1+(m+1)) (by rw [qr.o];omega)
       obtain ⟨b',o',y',Bi,dZ,qz,aeI,aeH⟩:=(HO.o.rd).one rO.o (j:=j+1+m) (by rw [qr.o];omega)
       simp only [Option.some.injEq,Addr.mk.injEq,and_true] at hA Bi
       obtain ⟨rfl,rfl⟩:=hA
       obtain ⟨rfl,rfl⟩:=Bi
       rw [cS] at cy qz
       have e1:=Ext.cell cy
       have e2:=Ext.cell qz
       have dO:IntKind.i64.wrap (((m+1:Nat):Int)-1)=(m:Int):=by rw [IntKind.wrap_i64];omega
       obtain ⟨q,HQ⟩:∃q:Bool,al ((y !=y')=q):=⟨(y !=y'),ae rfl⟩
       have hq:=HQ.o
       have lP:al (xs[j+1+m+1]! =y):=(HG.o (j+1+m+1) (by omega)).symm.trans he.o
       have mE:al (xs[j+1+m]! =y'):=(HG.o (j+1+m) (au _)).symm.trans dZ.o
       cases q with
       |false=>
        have HS:al (L.take k=fX xs (j+1+(m+1)+1)):=by
         show _=_
         rw [HT.o,show j+1+(m+1)+1=j+1+m+2 from by omega,If (by rw [lP.o,mE.o];have :=HQ.o;simpa using this)]
        go_wp2
        refine ax ?_
        repeat (go_big_quiet_step (fail))
        refine gO ?_
        intro w2 bl
        clear cy qz e1 e2
        go_wp2
        go_roundg (gk-1)
        case measure=>have :=HK.o;omega
        case rel=>exact ⟨k,m+1,L,by have :=HK.o;omega,rfl,by go_num,JO,by omega,qr.o,rO.o,HS.o,fun q hq=>HG.o q (by omega),HO.o.fr bl.o (by simp),HF.o.aj (bl.o.mono (by simp))⟩
       |true=>
        have hkL:k<L.length:=by rw [qr.o];omega
        have HS:al ((L.set k y).take (k+1)=fX xs (j+1+(m+1)+1)):=by
         show _=_
         rw [BQ _ _ _ hkL,HT.o,show j+1+(m+1)+1=j+1+m+2 from by omega,Ig (by rw [lP.o,mE.o];have :=HQ.o;simpa using this),lP.o]
        go_wp2
        refine ax ?_
        repeat (go_big_quiet_step (fail))
        refine gO ?_
        intro w2 bl
        have sP:=ae (HO.o.fr bl.o (by simp))
        have cZ:al (Fr [g] w w2):=HF.o.aj (bl.o.mono (by simp))
        have cy2:=bl.o.aT cy
        clear cy qz e1 e2 hq dO HF HO bl
        have f0:=sP.o.frozen k
        have c0:=sP.o.cell hkL
        go_wp2
        go_roundg (gk-1)
        case measure=>have :=HK.o;omega
        case rel=>exact ⟨k+1,m+1,L.set k y,by have :=HK.o;omega,by go_num,by go_num,by omega,by omega,by rw [aw];exact qr.o,rO.o.set k ⟨im,kS⟩,HS.o,fun q hq=>(vZ (by omega)).trans (HG.o q (by omega)),sP.o.eo k y,cZ.o.setCell (.inl (by simp)) _⟩
      ·obtain rfl :M2=m+1:=by omega
       have nI:k<xs.length:=by omega
       have Oa:=nW wr g c k 0 (c-k) L HO.o (by rw [qr.o];exact nI)
       rw [qr.o] at Oa
       obtain ⟨w2,qf,jU,bZ⟩:=Oa
       have HTR:al (L.take k=fX xs xs.length):=by
        show _=_
        rw [HT.o,show j+1+m+1=xs.length from by omega]
       go_wp2
       go_ret
       exact pP.o k L wr _ (by rw [qr.o];exact nI) HTR.o HF.o jU bZ
   ·have HDD:al (fX xs xs.length=xs):=by
     show _=_
     have e:j+1=xs.length:=by omega
     have :=HD.o
     rw [e,eD] at this
     exact this
    clear HK
    go_wp2
    go_ret
    exact NO.o HDD.o _ HF.o
theorem Di (w:World) (A:Option Addr) (c:Nat) (xs:List Int) (h:Ints w A c xs) (hr:Ra xs) (hl:xs.length≤17592186044416):
  Calls Tryz.prog 81 #[.slice A xs.length c] w (Dx (Sd xs) A c w):=by
 rcases h.form with ⟨rfl,rfl,rfl⟩ |⟨g,rfl,_⟩
 ·have HH:=ae h
  clear h
  go_enter Tryz.func81,Tryz.ntmps81
  go_wp2
  go_ret
  exact ⟨rfl,HH.o,Fr.refl _ _⟩
 ·exact ye w g c xs h hr hl
theorem Ti {a:Int} (h:dY a) (hl:a<wrap64 (-a)):wrap64 (-a)=tv a:=by
 obtain ⟨h0,h1⟩:=h
 rcases mf a h0 with ⟨h2,h3⟩ |⟨h2,h3,h4⟩ |⟨h2,h3,h4⟩
 ·have :wrap64 (-a)= -a:=by unfold wrap64;omega
  omega
 ·rw [h4];unfold wrap64;omega
 ·omega
theorem Tj {a:Int} (h:dY a) (hl:¬a<wrap64 (-a)):a=tv a:=by
 obtain ⟨h0,h1⟩:=h
 rcases mf a h0 with ⟨h2,h3⟩ |⟨h2,h3,h4⟩ |⟨h2,h3,h4⟩
 ·omega
 ·have :wrap64 (-a)= -a:=by unfold wrap64;omega
  omega
 ·omega
theorem Kv (w:World) (a:Int) (h:dY a):Calls Tryz.prog 42 #[.int .i64 a] w fun e w'=>e= .returned (.int .i64 (tv a))∧w=w':=by
 have HU:=ae (@Ti a h)
 have HO:=ae (@Tj a h)
 go_enter Tryz.func42,Tryz.ntmps42
 go_wp2_with fail
 all_goals (go_ret;first |exact ⟨by rw [←HU.o (by assumption)];rfl,rfl⟩ |exact ⟨by rw [←HO.o (by omega)];rfl,rfl⟩)
def iw (vars:Int) (x:Int):Bool:=decide (tv x<1) ||decide (vars<tv x)
theorem FW (W:World) (b:Nat) (vars:Int) (hc:W.cell? ⟨b,0,none⟩=some (.int .i64 vars)) (x:Int) (hx:dY x):
  Calls Tryz.prog 41 #[.int .i64 x, .pointer (some ⟨b,0,none⟩)] W fun e w'=>e= .returned (.bool (iw vars x))∧Fr [] W w':=by
 have KA:=ae (fun u:Ext W=>Kv u.v x hx)
 obtain ⟨t,ht⟩:∃t,tv x=t:=⟨_,rfl⟩
 simp only [ht] at KA
 have eb:=Ext.cell hc
 unfold iw
 rw [ht]
 by_cases h1:t<1
 ·have hd:decide (t<1)=true:=decide_eq_true h1
  rw [hd]
  go_enter Tryz.func41,Tryz.ntmps41
  go_wp2
  refine ax ?_
  repeat (go_big_quiet_step (exact bk (KA.o _)))
  refine gO ?_
  intro w2 bl
  clear eb hc
  go_wp2
  go_ret
  exact ⟨rfl,bl.o⟩
 ·have hd:decide (t<1)=false:=decide_eq_false h1
  rw [hd]
  by_cases h2:vars<t
  ·have rl:decide (vars<t)=true:=decide_eq_true h2
   rw [rl]
   go_enter Tryz.func41,Tryz.ntmps41
   go_wp2
   refine ax ?_
   repeat (go_big_quiet_step (exact bk (KA.o _)))
   refine gO ?_
   intro w2 bl
   clear eb hc
   go_wp2
   go_ret
   exact ⟨rfl,bl.o⟩
  ·have rl:decide (vars<t)=false:=decide_eq_false h2
   rw [rl]
   go_enter Tryz.func41,Tryz.ntmps41
   go_wp2
   refine ax ?_
   repeat (go_big_quiet_step (exact bk (KA.o _)))
   refine gO ?_
   intro w2 bl
   clear eb hc
   go_wp2
   go_ret
   exact ⟨rfl,bl.o⟩
theorem C8:∀args w,(callFunc 41 args).run Tryz.prog w= .ok (.enter 41 args) w:=enters_of Tryz.func41 (by kernel_rfl) rfl
def fK (vars:Int) (xs:List Int):Int:=if 1024<xs.length then 5 else if xs.any (iw vars)=true then 4 else 0
theorem gX (w:World) (vars:Int) (A:Option Addr) (c:Nat) (xs:List Int) (h:Rd w A xs) (hr:Ra xs):
  Calls Tryz.prog 24 #[.int .i64 vars, .slice A xs.length c] w fun e w'=>e= .returned (.int .i64 (fK vars xs))∧Fr [] w w':=by
 unfold fK
 by_cases hl:1024<xs.length
 ·rw [if_pos hl]
  have Fm:(1024:Int)<(xs.length:Int):=by omega
  clear h hr
  go_enter Tryz.func24,Tryz.ntmps24
  go_wp2
  go_ret
  exact ⟨rfl,aN _ _⟩
 ·rw [if_neg hl]
  have HB:al (Fr [] w (w.alloc (.cells #[.int .i64 vars] 3))):=aN _ _
  have PN:al ((w.alloc (.cells #[.int .i64 vars] 3)).cell? ⟨w.heap.size,0,none⟩=some (.int .i64 vars)):=(At.new w _ _).cell 0
  have KC:=ae (gW (w.alloc (.cells #[.int .i64 vars] 3)) A c xs 41 #[.pointer (some ⟨w.heap.size,0,none⟩)] (iw vars) C8 (h.keep HB.o) hr (by omega) (fun W hW x _ hx=>FW W w.heap.size vars (hW.aT PN.o) x hx))
  have Fm:(xs.length:Int)≤(1024:Int):=by omega
  obtain ⟨q,hq⟩:∃q,xs.any (iw vars)=q:=⟨_,rfl⟩
  rw [hq] at KC⊢
  clear h hr hq
  go_enter Tryz.func24,Tryz.ntmps24
  go_wp2_with fail
  refine KC.o.mono ?_
  rintro e w2 ⟨rfl,hf⟩
  have HF:=ae (HB.o.aj hf)
  clear hf KC
  cases q with
  |true=>
   go_wp2
   go_ret
   exact ⟨rfl,HF.o⟩
  |false=>
   go_wp2
   go_ret
   exact ⟨rfl,HF.o⟩
theorem Em (W:World) (b a:Nat) (vars:Int) (hb:W.cell? ⟨b,0,none⟩=some (.pointer (some ⟨a,0,none⟩))) (hc:W.cell? ⟨a,2,none⟩=some (.int .i64 vars)) (x:Int) (hx:dY x):
  Calls Tryz.prog 84 #[.int .i64 x, .pointer (some ⟨b,0,none⟩)] W fun e w'=>e= .returned (.bool (iw vars x))∧Fr [] W w':=by
 have HU:=ae (@Ti x hx)
 have HO:=ae (@Tj x hx)
 unfold iw
 go_enter Tryz.func84,Tryz.ntmps84
 go_wp2_with fail
 all_goals (go_ret;refine ⟨?_,Fr.refl _ _⟩;first |rw [←HU.o (by assumption)] |rw [←HO.o (by omega)])
 all_goals first | (rw [Bool.or_comm];rfl) | (rw [decide_eq_true (by assumption:vars<wrap64 (-x)),Bool.or_true];rfl) | (rw [decide_eq_true (by assumption:vars<x),Bool.or_true];rfl) | (rw [decide_eq_false (by omega:¬vars<wrap64 (-x)),Bool.or_false];rfl) | (rw [decide_eq_false (by omega:¬vars<x),Bool.or_false];rfl)
theorem C6:∀args w,(callFunc 84 args).run Tryz.prog w= .ok (.enter 84 args) w:=enters_of Tryz.func84 (by kernel_rfl) rfl
theorem Rd.Mu {w:World} {A:Option Addr} {us:List Int} {k:Nat} (h:Rd w A us):Rd w A (us.take k):=by
 intro h0
 rw [aV] at h0
 obtain ⟨b,o,hA,hx⟩:=h (by omega)
 refine ⟨b,o,hA,fun j hj=> ?_⟩
 rw [aV] at hj
 rw [hx j (by omega)]
 simp only [aa,List.getElem?_take,if_pos (show j<k by omega)]
theorem Eh {x:Int} (h:dY x):(x≤tv x∧ -x≤tv x)∨tv x<0:=by
 obtain ⟨h0,h1⟩:=h
 rcases mf x h0 with ⟨h2,h3⟩ |⟨h2,h3,h4⟩ |⟨h2,h3,h4⟩<;>omega
namespace Sv
def bw (S:Sv):Sv:={ S with has:=false,core:=[] }
def lE (red:Bool) (budget:Int) (us:List Int) (D C:Nat) (Q:Sv→Int→Prop) (S:Sv):Prop:=
 if (decide (budget<1) ||us.any (iw S.vars))=true then Q S.bw 0
 else if S.bad=true then Q S.bw.cE 2
 else eJ red budget us (fun S1 r=>Q (S1.back 0) r) D C 64 0 S.bw.cE
theorem Ok.bw {S:Sv} {m:Nat} (ok:S.Ok m):S.bw.Ok m:=⟨ok.vl,ok.tr,ok.hi,ok.hl,ok.ph,ok.wl,ok.ll,ok.wb,ok.wt,ok.lr,ok.ln,ok.lb,ok.hd,ok.rs⟩
end Sv
theorem bf.bw {w:World} {L:aQ} {S:Sv} (h:bf w L S):
  ∃L',bf ((w.setCell ⟨L.a,14,none⟩ (.bool false)).setCell ⟨L.a,7,none⟩ (.slice none 0 0)).drew L' S.bw∧L.ext L' w∧Fr (L.own w) w ((w.setCell ⟨L.a,14,none⟩ (.bool false)).setCell ⟨L.a,7,none⟩ (.slice none 0 0)).drew:=by
 obtain ⟨g1,f1⟩:=h.pk 14 (.bool false) { S with has:=false } (by simp [oQ]) ⟨rfl,rfl,rfl,rfl,rfl,rfl,rfl⟩
 obtain ⟨L',g2,e2,f2,_⟩:=g1.oN (F:=[]) (Ints.nil _) (Fr.refl _ _) (fun k hk=>by cases hk) (fun k hk=>by simp [ap] at hk)
 have hz:w.heap.size≤(w.setCell ⟨L.a,14,none⟩ (.bool false)).heap.size:=f1.size
 exact ⟨L',g2.keep (Fr.refl [] _).drew,⟨e2.1,e2.2.1,fun k hk e=>e2.2.2 k (aK hk hz) e⟩,(aQ.aR (aQ.co L w) f1 f2).drew⟩
theorem BN (red:Bool) (qq:red=true→Ge) (w:World) (L:aQ) (S:Sv) (h:bf w L S) (ok:S.Ok 0) (A:Option Addr) (c:Nat) (us:List Int) (rQ:Bk w L A us) (lM:Ra us) (sI:us.length≤c) (xS:us.length≤1099511627776) (budget:Int) (D C:Nat) (Q:Sv→Int→Prop) (yZ:S.used<4611686018427387904) (hW:S.lE red budget us D C Q):
  Calls Tryz.prog 56 #[.pointer (some ⟨L.a,0,none⟩), .int .i64 budget, .slice A us.length c] w (Dw Q L w):=by
 obtain ⟨w1,dO⟩:∃w1,w.alloc (.cells #[.pointer (some ⟨L.a,0,none⟩)] 59)=w1:=⟨_,rfl⟩
 have fE:al (Fr [] w w1):=by rw [←dO];exact aN _ _
 have mR:w1.cell? ⟨w.heap.size,0,none⟩=some (.pointer (some ⟨L.a,0,none⟩)):=by rw [←dO];exact (At.new w _ _).cell 0
 have xq:=ae mR
 obtain ⟨L1,xF⟩:∃L1,L.shut w=L1:=⟨_,rfl⟩
 have H1:al (bf w1 L1 S):=by rw [←xF];exact h.shut.keep fE.o
 have eG:al (L.ext L1 w):=by rw [←xF];exact L.lY w
 have TQ:(L1.cQ w.heap.size).1≠L1.id:=by rw [←xF];exact aQ.ju (au _)
 have Lc:al (w.heap.size∉L1.own w1):=aQ.mN TQ
 have ahx:=ae TQ
 have dy:al (Fr (L.own w) w w1):=fE.o.mono (fun k hk=>by cases hk)
 have uR:al (Bk w1 L1 A us):=⟨rQ.1.keep fE.o,fun h0=>Ax eG.o (rQ.2 h0) (fun k hk=>rQ.1.blk h0 k hk)⟩
 have kM:=ae ok
 have HW:=ae hW
 have nv:=ae lM
 have HKR:=ae qq
 have KM:=ae (vt w1 L1 S H1.o)
 have lO:L1.a=L.a:=eG.o.1
 rw [lO] at KM
 have f14:=H1.o.obj.frozen 14
 have f7:=H1.o.obj.frozen 7
 obtain ⟨-,-,-,-,-,-,-,c7,-,-,-,-,-,-,c14⟩:=H1.o.cells
 rw [lO] at f14 f7 c7 c14
 obtain ⟨L2,h2,jp,bZ⟩:=H1.o.bw
 rw [lO] at h2 bZ
 have HH2:=ae h2
 have SZ:=ae jp
 have Xt:=ae bZ
 clear h ok rQ hW lM xF lO h2 jp bZ qq TQ
 go_enter Tryz.func56,Tryz.ntmps56
 go_upto_region 1 with fail
 clear dO
 go_wp2_with fail
 refine KM.o.mono ?_
 clear KM
 rintro e w2 ⟨rfl,rfl⟩
 go_upto_region 3 with fail
 go_region
 obtain ⟨w3,rf⟩:∃w3,((w1.setCell ⟨L.a,14,none⟩ (.bool false)).setCell ⟨L.a,7,none⟩ (.slice none 0 0)).drew=w3:=⟨_,rfl⟩
 rw [rf] at HH2 Xt⊢
 have H3:=HH2
 have GA:=Xt
 have iu:al (L.ext L2 w):=aQ.aX eG.o SZ.o dy.o.size
 have cZ:al (Fr (L.own w) w w3):=aQ.aR eG.o dy.o GA.o
 have Qb:al (Bk w3 L2 A us):=uR.o.step SZ.o GA.o
 have ua:=GA.o.bD Lc.o xq.o
 have GD:=ae ua
 have SM:al ((L2.cQ w.heap.size).1≠L2.id):=fun e=>ahx.o (SZ.o.2.2 _ (by have :=bE xq.o;exact this) (e.trans SZ.o.2.1))
 have sP:=ae kM.o.bw
 clear rf mR c7 c14 f7 f14 HH2 Xt
 have Vc:=HW.o
 unfold Sv.lE at Vc
 by_cases Bf:budget<1
 ·have hd:decide (budget<1)=true:=decide_eq_true Bf
  rw [hd,Bool.true_or,if_pos rfl] at Vc
  have HQ:=ae Vc
  clear Vc
  go_wp2
  go_region
  clear ua
  have FF:al (Dw Q L w (.returned (.int .i64 0)) w3.drew):=⟨S.bw,0,HQ.o,sP.o,rfl,L2,H3.o.keep (Fr.refl [] w3).drew,iu.o,cZ.o.aj ((Fr.refl [] w3).drew.mono (fun k hk=>by cases hk))⟩
  go_wp2
  go_ret
  exact FF.o
 ·have hd:decide (budget<1)=false:=decide_eq_false Bf
  rw [hd,Bool.false_or] at Vc
  have HQ:=ae Vc
  obtain ⟨-,-,c2,-⟩:=H3.o.cells
  rw [iu.o.1] at c2
  have oK:=ae c2
  have jT:S.bw.vars=S.vars:=rfl
  rw [jT] at c2
  have e2:=Ext.cell c2
  have eb:=Ext.cell ua
  have AT:=ae (fun u:Ext w3=>gW u.v A c us 84 #[.pointer (some ⟨w.heap.size,0,none⟩)] (iw (S.vars:Int)) C6 (Qb.o.1.keep u.fr) nv.o (by omega) (fun W hW x _ hx=>Em W w.heap.size L.a (S.vars:Int) ((u.fr.aj hW).aT GD.o) ((u.fr.aj hW).aT oK.o) x hx))
  clear Vc jT
  by_cases hk:1024<us.length
  ·have LM:(1024:Int)<(us.length:Int):=by omega
   have hcc:(1024:Int)≤(c:Int):=by omega
   have hlen:(us.take 1024).length=1024:=by rw [aV];omega
   have uP:=ae (fun u:Ext w3=>gX u.v (S.vars:Int) A c (us.take 1024) (Qb.o.1.keep u.fr).Mu (Ra.sub nv.o (fun y hy=>List.mem_of_mem_take hy)))
   have HP:al ((us.take 1024).any (iw (S.vars:Int))=true→us.any (iw (S.vars:Int))=true):=fun h5=>by
    rw [bI] at h5⊢
    obtain ⟨y,hy,h6⟩:=h5
    exact ⟨y,List.mem_of_mem_take hy,h6⟩
   unfold fK at uP
   rw [hlen] at uP
   simp only [Nat.lt_irrefl,if_false] at uP
   obtain ⟨p,hp⟩:∃p,(us.take 1024).any (iw (S.vars:Int))=p:=⟨_,rfl⟩
   rw [hp] at uP HP
   clear hp hlen hk
   cases p with
   |true=>
    have hq:=HQ.o
    rw [if_pos (HP.o rfl)] at hq
    have HQ:=ae hq
    simp only [if_true] at uP
    clear hq HP
    go_wp2
    refine ax ?_
    repeat (go_big_quiet_step (first |exact bV (uP.o _) |exact bV (AT.o _)))
    refine gO ?_
    intro w4 cv
    clear ua c2 e2 eb uP AT
    have FF:al (Dw Q L w (.returned (.int .i64 0)) w4):=⟨S.bw,0,HQ.o,sP.o,rfl,L2,H3.o.keep cv.o,iu.o,cZ.o.aj (cv.o.mono (fun k hk=>by cases hk))⟩
    go_wp2
    go_ret
    exact FF.o
   |false=>
    simp only [dt,if_false] at uP
    obtain ⟨q,Ns⟩:∃q,us.any (iw (S.vars:Int))=q:=⟨_,rfl⟩
    rw [Ns] at AT
    have hq:=HQ.o
    rw [Ns] at hq
    have HUQ:=ae Ns
    cases q with
    |true=>
     rw [if_pos rfl] at hq
     have HQ:=ae hq
     clear hq HP Ns
     go_wp2
     refine ax ?_
     repeat (go_big_quiet_step (first |exact bV (uP.o _) |exact bV (AT.o _)))
     refine gO ?_
     intro w4 cv
     clear ua c2 e2 eb uP AT
     have FF:al (Dw Q L w (.returned (.int .i64 0)) w4):=⟨S.bw,0,HQ.o,sP.o,rfl,L2,H3.o.keep cv.o,iu.o,cZ.o.aj (cv.o.mono (fun k hk=>by cases hk))⟩
     go_wp2
     go_ret
     exact FF.o
    |false=>
     rw [if_neg (by simp)] at hq
     have HQ:=ae hq
     clear hq HP Ns
     go_wp2
     refine ax ?_
     repeat (go_big_quiet_step (first |exact bV (uP.o _) |exact bV (AT.o _)))
     refine gO ?_
     intro w4 cv
     clear ua c2 e2 eb uP AT
     have H4:=ae (H3.o.keep cv.o)
     have fM:al (Fr (L.own w) w w4):=cZ.o.aj (cv.o.mono (fun k hk=>by cases hk))
     have Pi:=ae (Qb.o.keep cv.o)
     have Od:=cv.o.aT GD.o
     obtain ⟨-,-,-,-,-,-,-,-,-,c9,-,-,-,LX,-⟩:=H4.o.cells
     rw [iu.o.1] at c9 LX
     have f9:=H4.o.obj.frozen 9
     rw [iu.o.1] at f9
     obtain ⟨uu,QY⟩:∃uu,S.bw.used=uu:=⟨_,rfl⟩
     have aeO:uu<4611686018427387904:=by rw [←QY];exact yZ
     obtain ⟨g5,f5⟩:=H4.o.pk 9 (.int .i64 ((uu:Int)+1)) S.bw.cE (by simp [oQ,Sv.cE,QY]) ⟨rfl,rfl,rfl,rfl,rfl,rfl,rfl⟩
     rw [iu.o.1] at g5 f5
     rw [QY] at c9
     have ZB:IntKind.i64.wrap ((uu:Int)+1)=(uu:Int)+1:=IntWalk.i64_in _ (by omega)
     obtain ⟨bd,J0⟩:∃bd,S.bad=bd:=⟨_,rfl⟩
     have Of:S.bw.bad=bd:=J0
     rw [Of] at LX
     have hq:=HQ.o
     rw [J0] at hq
     have Lb:al (w.heap.size≠L.a):=fun e=>by
      have h5:=H4.o.t0
      rw [iu.o.1,←e] at h5
      exact SM.o (by rw [h5])
     clear J0 Of HQ QY yZ
     go_upto_region 7 with fail
     obtain ⟨w5,EZ⟩:∃w5,w4.setCell ⟨L.a,9,none⟩ (.int .i64 ((uu:Int)+1))=w5:=⟨_,rfl⟩
     have Oc:w5.cell? ⟨w.heap.size,0,none⟩=some (.pointer (some ⟨L.a,0,none⟩)):=by
      rw [←EZ]
      exact ((Fr.refl [L.a] w4).setCell (p:=⟨L.a,9,none⟩) (.inl (by simp)) _).bD (by simpa using Lb.o) Od
     have afL:w5.cell? ⟨L.a,13,none⟩=some (.bool bd):=by
      have h5:=g5.cells.2.2.2.2.2.2.2.2.2.2.2.2.2.1
      rw [iu.o.1,EZ] at h5
      have h6:=H4.o.cells.2.2.2.2.2.2.2.2.2.2.2.2.2.1
      rw [iu.o.1,LX] at h6
      have h7:bd=S.bw.bad:=by simpa using h6
      rw [h7]
      exact h5
     rw [EZ] at g5 f5⊢
     have H5:=ae g5
     have kN:=ae (aQ.aR iu.o fM.o f5)
     have DF:=ae (Pi.o.step (aQ.co L2 w4) f5)
     have XB:=ae Oc
     clear EZ g5 f5 c9 LX f9 Od ZB
     cases bd with
     |true=>
      rw [if_pos rfl] at hq
      have FF:al (Dw Q L w (.returned (.int .i64 2)) w5):=⟨S.bw.cE,2,hq,sP.o.cE,rfl,L2,H5.o,iu.o,kN.o⟩
      clear hq
      go_wp2
      go_ret
      exact FF.o
     |false=>
      rw [if_neg (by simp)] at hq
      have KS:=ae (qM red HKR.o w5 L2 S.bw.cE H5.o sP.o.cE A c us DF.o (fun x hx=>by
       have h5:=HUQ.o
       rw [List.any_eq_false] at h5
       have h6:=h5 x hx
       unfold iw at h6
       simp only [Bool.or_eq_true,decide_eq_true_eq,not_or] at h6
       have h7:=(dW (p:=dY)).1 nv.o x hx
       have h8:=Eh h7
       show -(S.vars:Int)≤x∧x≤(S.vars:Int)
       omega) xS budget _ D C hq)
      rw [iu.o.1] at KS
      clear hq
      go_wp2_with fail
      refine KS.o.mono ?_
      clear KS
      rintro e w6 ⟨S6,r,ZX,JG,rfl,L6,h6,N6,fN⟩
      have H6:=ae h6
      have pS:=ae (aQ.aX iu.o N6 kN.o.size)
      have ik:=ae (aQ.aR iu.o kN.o fN)
      have We:=fN.bD (aQ.mN SM.o) XB.o
      have K9:=ae ZX
      have uk:=ae JG
      have KB:=ae (m6 w6 L6 S6 H6.o 0 JG 0 (by omega))
      rw [pS.o.1] at KB
      clear h6 N6 fN ZX JG Oc
      go_wp2_with fail
      refine KB.o.mono ?_
      clear KB We
      rintro e w7 ⟨rfl,L7,h7,CQ,gG⟩
      have FF:al (Dw Q L w (.returned (.int .i64 r)) w7):=⟨S6.back 0,r,K9.o,(uk.o.back 0).1,rfl,L7,h7,aQ.aX pS.o CQ ik.o.size,aQ.aR pS.o ik.o gG⟩
      clear h7 CQ gG
      go_wp2
      go_ret
      exact FF.o
  ·have LM:(us.length:Int)≤(1024:Int):=by omega
   have hcc:(us.length:Int)≤(c:Int):=by omega
   have uP:=ae (fun u:Ext w3=>gX u.v (S.vars:Int) A c us (Qb.o.1.keep u.fr) nv.o)
   unfold fK at uP
   rw [if_neg hk] at uP
   have HP:al (us.any (iw (S.vars:Int))=true→us.any (iw (S.vars:Int))=true):=id
   obtain ⟨p,hp⟩:∃p,us.any (iw (S.vars:Int))=p:=⟨_,rfl⟩
   have HP:al (p=true→us.any (iw (S.vars:Int))=true):=fun h5=>hp.trans h5
   rw [hp] at uP
   clear hp hk
   cases p with
   |true=>
    have hq:=HQ.o
    rw [if_pos (HP.o rfl)] at hq
    have HQ:=ae hq
    simp only [if_true] at uP
    clear hq HP
    go_wp2
    refine ax ?_
    repeat (go_big_quiet_step (first |exact bV (uP.o _) |exact bV (AT.o _)))
    refine gO ?_
    intro w4 cv
    clear ua c2 e2 eb uP AT
    have FF:al (Dw Q L w (.returned (.int .i64 0)) w4):=⟨S.bw,0,HQ.o,sP.o,rfl,L2,H3.o.keep cv.o,iu.o,cZ.o.aj (cv.o.mono (fun k hk=>by cases hk))⟩
    go_wp2
    go_ret
    exact FF.o
   |false=>
    simp only [dt,if_false] at uP
    obtain ⟨q,Ns⟩:∃q,us.any (iw (S.vars:Int))=q:=⟨_,rfl⟩
    rw [Ns] at AT
    have hq:=HQ.o
    rw [Ns] at hq
    have HUQ:=ae Ns
    cases q with
    |true=>
     rw [if_pos rfl] at hq
     have HQ:=ae hq
     clear hq HP Ns
     go_wp2
     refine ax ?_
     repeat (go_big_quiet_step (first |exact bV (uP.o _) |exact bV (AT.o _)))
     refine gO ?_
     intro w4 cv
     clear ua c2 e2 eb uP AT
     have FF:al (Dw Q L w (.returned (.int .i64 0)) w4):=⟨S.bw,0,HQ.o,sP.o,rfl,L2,H3.o.keep cv.o,iu.o,cZ.o.aj (cv.o.mono (fun k hk=>by cases hk))⟩
     go_wp2
     go_ret
     exact FF.o
    |false=>
     rw [if_neg (by simp)] at hq
     have HQ:=ae hq
     clear hq HP Ns
     go_wp2
     refine ax ?_
     repeat (go_big_quiet_step (first |exact bV (uP.o _) |exact bV (AT.o _)))
     refine gO ?_
     intro w4 cv
     clear ua c2 e2 eb uP AT
     have H4:=ae (H3.o.keep cv.o)
     have fM:al (Fr (L.own w) w w4):=cZ.o.aj (cv.o.mono (fun k hk=>by cases hk))
     have Pi:=ae (Qb.o.keep cv.o)
     have Od:=cv.o.aT GD.o
     obtain ⟨-,-,-,-,-,-,-,-,-,c9,-,-,-,LX,-⟩:=H4.o.cells
     rw [iu.o.1] at c9 LX
     have f9:=H4.o.obj.frozen 9
     rw [iu.o.1] at f9
     obtain ⟨uu,QY⟩:∃uu,S.bw.used=uu:=⟨_,rfl⟩
     have aeO:uu<4611686018427387904:=by rw [←QY];exact yZ
     obtain ⟨g5,f5⟩:=H4.o.pk 9 (.int .i64 ((uu:Int)+1)) S.bw.cE (by simp [oQ,Sv.cE,QY]) ⟨rfl,rfl,rfl,rfl,rfl,rfl,rfl⟩
     rw [iu.o.1] at g5 f5
     rw [QY] at c9
     have ZB:IntKind.i64.wrap ((uu:Int)+1)=(uu:Int)+1:=IntWalk.i64_in _ (by omega)
     obtain ⟨bd,J0⟩:∃bd,S.bad=bd:=⟨_,rfl⟩
     have Of:S.bw.bad=bd:=J0
     rw [Of] at LX
     have hq:=HQ.o
     rw [J0] at hq
     have Lb:al (w.heap.size≠L.a):=fun e=>by
      have h5:=H4.o.t0
      rw [iu.o.1,←e] at h5
      exact SM.o (by rw [h5])
     clear J0 Of HQ QY yZ
     go_upto_region 7 with fail
     obtain ⟨w5,EZ⟩:∃w5,w4.setCell ⟨L.a,9,none⟩ (.int .i64 ((uu:Int)+1))=w5:=⟨_,rfl⟩
     have Oc:w5.cell? ⟨w.heap.size,0,none⟩=some (.pointer (some ⟨L.a,0,none⟩)):=by
      rw [←EZ]
      exact ((Fr.refl [L.a] w4).setCell (p:=⟨L.a,9,none⟩) (.inl (by simp)) _).bD (by simpa using Lb.o) Od
     have afL:w5.cell? ⟨L.a,13,none⟩=some (.bool bd):=by
      have h5:=g5.cells.2.2.2.2.2.2.2.2.2.2.2.2.2.1
      rw [iu.o.1,EZ] at h5
      have h6:=H4.o.cells.2.2.2.2.2.2.2.2.2.2.2.2.2.1
      rw [iu.o.1,LX] at h6
      have h7:bd=S.bw.bad:=by simpa using h6
      rw [h7]
      exact h5
     rw [EZ] at g5 f5⊢
     have H5:=ae g5
     have kN:=ae (aQ.aR iu.o fM.o f5)
     have DF:=ae (Pi.o.step (aQ.co L2 w4) f5)
     have XB:=ae Oc
     clear EZ g5 f5 c9 LX f9 Od ZB
     cases bd with
     |true=>
      rw [if_pos rfl] at hq
      have FF:al (Dw Q L w (.returned (.int .i64 2)) w5):=⟨S.bw.cE,2,hq,sP.o.cE,rfl,L2,H5.o,iu.o,kN.o⟩
      clear hq
      go_wp2
      go_ret
      exact FF.o
     |false=>
      rw [if_neg (by simp)] at hq
      have KS:=ae (qM red HKR.o w5 L2 S.bw.cE H5.o sP.o.cE A c us DF.o (fun x hx=>by
       have h5:=HUQ.o
       rw [List.any_eq_false] at h5
       have h6:=h5 x hx
       unfold iw at h6
       simp only [Bool.or_eq_true,decide_eq_true_eq,not_or] at h6
       have h7:=(dW (p:=dY)).1 nv.o x hx
       have h8:=Eh h7
       show -(S.vars:Int)≤x∧x≤(S.vars:Int)
       omega) xS budget _ D C hq)
      rw [iu.o.1] at KS
      clear hq
      go_wp2_with fail
      refine KS.o.mono ?_
      clear KS
      rintro e w6 ⟨S6,r,ZX,JG,rfl,L6,h6,N6,fN⟩
      have H6:=ae h6
      have pS:=ae (aQ.aX iu.o N6 kN.o.size)
      have ik:=ae (aQ.aR iu.o kN.o fN)
      have We:=fN.bD (aQ.mN SM.o) XB.o
      have K9:=ae ZX
      have uk:=ae JG
      have KB:=ae (m6 w6 L6 S6 H6.o 0 JG 0 (by omega))
      rw [pS.o.1] at KB
      clear h6 N6 fN ZX JG Oc
      go_wp2_with fail
      refine KB.o.mono ?_
      clear KB We
      rintro e w7 ⟨rfl,L7,h7,CQ,gG⟩
      have FF:al (Dw Q L w (.returned (.int .i64 r)) w7):=⟨S6.back 0,r,K9.o,(uk.o.back 0).1,rfl,L7,h7,aQ.aX pS.o CQ ik.o.size,aQ.aR pS.o ik.o gG⟩
      clear h7 CQ gG
      go_wp2
      go_ret
      exact FF.o
theorem GK (z:Value) (m:Nat):(Builtin.zeroCells #[z] m).toList=List.replicate m z:=by
 apply List.ext_getElem?
 intro j
 simp only [Builtin.zeroCells,Array.toList_map,aO]
 by_cases h:j<m
 ·simp [h,Nat.mod_one]
 ·simp [h]
theorem Mj (z:Value) (m:Nat):Builtin.zeroCells #[z] m=(List.replicate m z).toArray:=by
 rw [←GK,Array.toArray_toList]
theorem lZ (w:World) (t ti ty e:TypeId) (z:Value) (bytes:Nat) (ht:Tryz.prog.underlying t=some (.slice e)) (Vg:Tryz.prog.underlying ti=some (.int .i64)) (hi:(Tryz.prog.info? e).map (fun i=>(i.zero,i.size,i.bytes))=some (some z,1,bytes)) (AZ:z.cells=#[z]) (h1z:z.oneCell'=true)
  (A:Option Addr) (c n:Nat) (xs:List Value) (dA:w.ownsRow 0 e 1 (.slice A n c) n xs) (m:Nat) (LV:n+m≤maxLen) (jW:(n+m)*bytes≤140737488355328) (hm:(m:Int)≤9223372036854775807):
  ∃A' cap w',(Builtin.append_ #[t,ti] ty #[.slice A n c, .int .i64 m]).run Tryz.prog w= .ok (.slice A' (n+m) cap) w'∧
   w'.ownsRow 0 e 1 (.slice A' (n+m) cap) (n+m) (xs++List.replicate m z)∧Fr (ap A) w w'∧(∀k,k∈ap A'→k∈ap A∨w.heap.size≤k):=by
 obtain ⟨i,hi,hz,y8,hby⟩:=info_parts hi
 have hw:IntKind.i64.wrap (m:Int)=m:=IntWalk.i64_in _ (by omega)
 have Lz:IntKind.i64.wrap 0=0:=by decide
 have sC:¬((m:Int)<0):=by omega
 have LJ:(m:Int)*(bytes:Int)≤281474976710656:=by
  have :m*bytes≤(n+m)*bytes:=Nat.mul_le_mul_right _ (by omega)
  have h2:((m*bytes:Nat):Int)≤281474976710656:=by omega
  simpa using h2
 have VM:¬(281474976710656<(m:Int)*(bytes:Int)):=by omega
 have vJ:n+m≤9223372036854775807:=by simp only [maxLen] at LV;omega
 have hlen:(xs++List.replicate m z).length=(n+m)*1:=by rw [ai,dA.1,bh];omega
 have grown:∀(old:Nat),old<n+m→∀(S:List Nat),
   (w.drew.alloc (.cells (xs.toArray++(List.replicate m z).toArray++Builtin.zeroCells #[z] (grownCap w (n+m) old e-(n+m))) e)).ownsRow 0 e 1
    (.slice (some ⟨w.heap.size,0,none⟩) (n+m) (grownCap w (n+m) old e)) (n+m) (xs++List.replicate m z)∧
   Fr S w (w.drew.alloc (.cells (xs.toArray++(List.replicate m z).toArray++Builtin.zeroCells #[z] (grownCap w (n+m) old e-(n+m))) e)):=by
  intro old ho S
  have Bd:=grownCap_ge w (n+m) old e
  have DZ:grownCap w (n+m) old e≤maxLen:=grownCap_le_maxLen w (n+m) old e LV
  refine ⟨⟨hlen, .inr ⟨w.heap.size,_,_,rfl,bH _,heap_alloc_new w.drew _,Bd,DZ,?_,?_⟩⟩,((Fr.refl S w).drew).alloc _⟩
  ·have hx:=dA.1
   simp only [Array.size_append,List.size_toArray,size_zeroCells,bh,hx]
   simp
   omega
  ·simp only [Array.toList_append,js]
   rw [←js,←hlen]
   exact List.take_left
 rcases dA.2 with ⟨hv,rfl⟩ |⟨g,cap,cur,hv,RZ,hg,rR,DZ,xE,ZK⟩
 ·simp only [Value.slice.injEq,true_and] at hv
  obtain ⟨rfl,rfl⟩:=hv
  have hx:xs=[]:=aJ (by simpa using dA.1)
  subst hx
  by_cases xT:m=0
  ·subst xT
   refine ⟨none,0,w,?_,World.ownsRow_nil w 0 e 1,Fr.refl _ _,fun k hk=>by simp [ap] at hk⟩
   simp [Builtin.append_,run_underlying ht,run_underlying Vg,sizeOf,typeInfo,hi,asInt,asIntOf,Lz]
  ·have LQ:=grown 0 (by omega) (ap none)
   simp only [cS,List.nil_append] at LQ⊢
   refine ⟨_,_,_,?_,LQ.1,LQ.2,fun k hk=> .inr (by simp [ap] at hk;omega)⟩
   have Ov:¬(281474976710656<Builtin.nextslicecap m 0*bytes):=by
    rw [nextslicecap_zero (by omega)]
    have :=jW
    simp only [cS] at this
    omega
   have Ws:¬(9223372036854775807<(m:Int)):=by omega
   simp [Builtin.append_,run_underlying ht,run_underlying Vg,sizeOf,typeInfo,zeroValue,hi,hz,asInt,asIntOf,y8,hby,hw,sC,VM,xT,Ws,Ov,Question.forced,run_firstCells_none,newRow,grownCap,AZ,Mj]
 ·simp only [Value.slice.injEq,true_and] at hv
  obtain ⟨rfl,rfl⟩:=hv
  by_cases Hn:n+m≤c
  ·have sF:n*1+(List.replicate m z).length≤cur.size:=by rw [xE,bh];omega
   have mg:=run_storeCells_at Tryz.prog g (n*1) e (List.replicate m z) 0 cur w hg (by simpa using sF) (fun u hu=>by rw [List.mem_replicate] at hu;rw [hu.2];exact h1z)
   simp only [Nat.add_zero] at mg
   refine ⟨some ⟨g,0,none⟩,c,w.setRow g (cur.toList.take (n*1)++List.replicate m z++cur.toList.drop (n*1+(List.replicate m z).length)).toArray,?_,⟨hlen, .inr ⟨g,c,_,rfl,RZ,setRow_heap w g cur _ e _ hg,Hn,DZ,?_,?_⟩⟩,?_,fun k hk=> .inl hk⟩
   ·by_cases xT:m=0
    ·subst xT
     simp only [List.replicate_zero] at mg⊢
     have lN:n≤c:=Hn
     simp [Builtin.append_,run_underlying ht,run_underlying Vg,sizeOf,typeInfo,hi,asInt,asIntOf,Lz,lN,Addr.add_lit]
     simp only [mz] at mg
     simp [y8,mg]
    ·simp [Builtin.append_,run_underlying ht,run_underlying Vg,sizeOf,typeInfo,zeroValue,hi,hz,asInt,asIntOf,y8,hby,hw,sC,VM,xT,Hn,Addr.add_lit,AZ,GK]
     simp only [mz] at mg
     first |exact mg | (rw [mg];simp) |simp [mg]
   ·simp only [List.size_toArray,ai,aV,iX,Array.length_toList,bh]
    omega
   ·rw [ZK,←hlen]
    exact List.take_left
   ·exact ⟨rfl,rfl,rfl,by simp,fun k _ hk=>setRow_other w g k _ (fun e=>hk (by simp [ap,e]))⟩
  ·have holds:∀j u,xs[j]? =some u→w.cell? ((⟨g,0,none⟩:Addr).add j)=some u:=dA.cells (g:=g) rfl
   have LQ:=grown c (by omega) (ap (some (⟨g,0,none⟩:Addr)))
   refine ⟨_,_,_,?_,LQ.1,LQ.2,fun k hk=> .inr (by simp [ap] at hk;omega)⟩
   have xT:m≠0:=by omega
   have hfo:=run_firstCells_some (P:=Tryz.prog) w.drew 1 n ⟨g,0,none⟩ n c xs (by rw [dA.1]) (by simpa using holds)
   have Ws:¬(9223372036854775807<((n:Int)+(m:Int))):=by omega
   have Ov:¬(281474976710656<Builtin.nextslicecap (n+m) c*bytes):=by
    have :=growslice_fits (need:=n+m) (old:=c) (bytes:=bytes) (by omega) jW
    omega
   simp [Builtin.append_,run_underlying ht,run_underlying Vg,sizeOf,typeInfo,zeroValue,hi,hz,asInt,asIntOf,y8,hby,hw,sC,VM,xT,Hn,Ws,Ov,Question.forced,hfo,newRow,grownCap,AZ,Mj]
   try rw [hby] at Ov
   try simp [Ov]
theorem bf.YN {w w1:World} {L:aQ} {S:Sv} (h:bf w L S) {A':Option Addr} {c':Nat} {F:List Nat} {ls:List Bool} (hi:Bools w1 A' c' ls) (hf:Fr F w w1) (hF:∀k,k∈F→k<w.heap.size→L.cQ k=(L.id,5,0))
  (hA:∀k,k∈ap A'→(k<w.heap.size∧L.cQ k=(L.id,5,0))∨w.heap.size≤k):
  ∃L',bf (w1.setCell ⟨L.a,5,none⟩ (.slice A' ls.length c')) L' { S with phase:=ls }∧L.ext L' w∧Fr (L.own w) w (w1.setCell ⟨L.a,5,none⟩ (.slice A' ls.length c')):=by
 have bZ:Fr (L.a::F) w (w1.setCell ⟨L.a,5,none⟩ (.slice A' ls.length c')):=(hf.mono (fun k hk=> .inl (by simp [hk]))).setCell (.inl (by simp)) _
 have Bh:∀k,k∈L.a::F→k<w.heap.size→∃t,(t=(5,0)∨t=(0,0))∧L.cQ k=(L.id,t):=by
  intro k hk hl
  rcases av.1 hk with rfl |hk
  ·exact ⟨_, .inr rfl,h.t0⟩
  ·exact ⟨_, .inl rfl,hF k hk hl⟩
 have o:=h.off (P:=fun t=>t=(5,0)∨t=(0,0)) bZ Bh
 have o1:=h.off (P:=(· =(5,0))) hf (fun k hk hl=>⟨_,rfl,hF k hk hl⟩)
 have g:=h.tags (5,0)
 have dI:L.a∉ap A':=fun hk=>by
  rcases hA _ hk with ⟨_,h2⟩ |h2
  ·rw [h.t0] at h2;simp at h2
  ·have :=h.obj.lt;omega
 refine ⟨{ L with pA:=A',pC:=c',cQ:=L.re w (5,0) },⟨?_,o.tr (by simp),o.hp (by simp),h.io,h.AA,h.Ay,o.ux (by simp),o.rws (by simp),?_,o.xv (by simp),o.tO (by simp),fun n hn=>o.pr n hn (by simp),fun c hc=>o.rr c hc (by simp),
  g.t0,g.t1,g.t2,g.t3,g.t4,fun k hk=>aQ.mK (hA k hk),g.t6,g.t7,g.t8,g.t9⟩,⟨rfl,rfl,fun k hk e=>aQ.nZ hk e⟩,aQ.gE bZ (fun k hk hl=>by obtain ⟨t,_,e⟩:=Bh k hk hl;rw [e])⟩
 ·have :=(o1.obj (by simp)).eo 5 (.slice A' ls.length c')
  simpa [oQ] using this
 ·unfold Bools at hi⊢
  exact eH hi ((Fr.refl [L.a] w1).setCell (.inl (by simp)) _) (fun k hk hm=>by simp at hm;subst hm;exact dI hk)
theorem bf.Yu {w w1:World} {L:aQ} {S:Sv} (h:bf w L S) {A':Option Addr} {c' m:Nat} {F:List Nat} (hi:ug w1 A' c' (L.ws++List.replicate m ⟨none,0,[]⟩)) (hf:Fr F w w1) (hF:∀k,k∈F→k<w.heap.size→L.cQ k=(L.id,4,0))
  (hA:∀k,k∈ap A'→(k<w.heap.size∧L.cQ k=(L.id,4,0))∨w.heap.size≤k):
  ∃L',bf (w1.setCell ⟨L.a,4,none⟩ (.slice A' (L.ws.length+m) c')) L' { S with watch:=S.watch++List.replicate m [] }∧L.ext L' w∧Fr (L.own w) w (w1.setCell ⟨L.a,4,none⟩ (.slice A' (L.ws.length+m) c')):=by
 have bZ:Fr (L.a::F) w (w1.setCell ⟨L.a,4,none⟩ (.slice A' (L.ws.length+m) c')):=(hf.mono (fun k hk=> .inl (by simp [hk]))).setCell (.inl (by simp)) _
 have Bh:∀k,k∈L.a::F→k<w.heap.size→∃t,(t=(4,0)∨t=(0,0))∧L.cQ k=(L.id,t):=by
  intro k hk hl
  rcases av.1 hk with rfl |hk
  ·exact ⟨_, .inr rfl,h.t0⟩
  ·exact ⟨_, .inl rfl,hF k hk hl⟩
 have o:=h.off (P:=fun t=>t=(4,0)∨t=(0,0)) bZ Bh
 have o1:=h.off (P:=(· =(4,0))) hf (fun k hk hl=>⟨_,rfl,hF k hk hl⟩)
 have g:=h.tags (4,0)
 have dI:L.a∉ap A':=fun hk=>by
  rcases hA _ hk with ⟨_,h2⟩ |h2
  ·rw [h.t0] at h2;simp at h2
  ·have :=h.obj.lt;omega
 have po:∀j:Nat,j<L.ws.length+m→(j<L.ws.length∧(L.ws++List.replicate m (⟨none,0,[]⟩:Wl))[j]! =L.ws[j]!)∨(L.ws++List.replicate m (⟨none,0,[]⟩:Wl))[j]! =⟨none,0,[]⟩:=fun j hj=>by
  by_cases e:j<L.ws.length
  ·left
   refine ⟨e,?_⟩
   simp [aa,cW e]
  ·right
   rw [aa,gm (by omega),List.getElem?_replicate,if_pos (by omega)]
   rfl
 refine ⟨{ L with wA:=A',wC:=c',ws:=L.ws++List.replicate m ⟨none,0,[]⟩,cQ:=L.re w (4,0) },⟨?_,o.tr (by simp),o.hp (by simp),h.io,h.AA,?_,o.ux (by simp),?_,o.uv (by simp),o.xv (by simp),o.tO (by simp),fun n hn=>o.pr n hn (by simp),fun c hc=> ?_,
  g.t0,g.t1,g.t2,g.t3,fun k hk=>aQ.mK (hA k hk),g.t5,g.t6,g.t7,g.t8,fun c hc k hk=> ?_⟩,⟨rfl,rfl,fun k hk e=>aQ.nZ hk e⟩,aQ.gE bZ (fun k hk hl=>by obtain ⟨t,_,e⟩:=Bh k hk hl;rw [e])⟩
 ·have :=(o1.obj (by simp)).eo 4 (.slice A' (L.ws.length+m) c')
  simpa [oQ] using this
 ·simp only [bJ,List.map_replicate]
  rw [h.Ay]
 ·unfold ug at hi⊢
  exact eH hi ((Fr.refl [L.a] w1).setCell (.inl (by simp)) _) (fun k hk hm=>by simp at hm;subst hm;exact dI hk)
 ·simp only [ai,bh] at hc
  simp only
  rcases po c hc with ⟨h1,h2⟩ |h2
  ·rw [h2]
   exact o.rr c h1 (by simp)
  ·rw [h2]
   exact Ints.nil _
 ·simp only [ai,bh] at hc
  simp only at hk
  rcases po c hc with ⟨h1,h2⟩ |h2
  ·rw [h2] at hk
   exact g.t9 c h1 k hk
  ·rw [h2] at hk
   simp [ap] at hk
namespace Sv
theorem yI:∀(n:Nat) (v:Int) (H:Hp),HI H→HI (ie n v H)∧(ie n v H).at_.length=H.at_.length
 |0,v,H,h=>⟨h,rfl⟩
 |n+1,v,H,h=>by
  have h1:=h.ff v
  have h2:=yI n (v+1) _ h1.1
  exact ⟨h2.1,h2.2.trans h1.2⟩
theorem o4 {H:Hp} {v n:Nat} (h:H.at_.length=v+1) (hb:v+n≤262143):H.dS n=H.growBy n:=by
 unfold Hp.dS
 have e:(kH H.at_.length n-H.at_.length).toNat=n:=by
  unfold kH
  rw [h]
  omega
 rw [e]
theorem Ok.grow {S:Sv} (ok:S.Ok 0) (n:Nat) (hb:S.vars+n≤262143):(S.grow n).Ok 0:=by
 obtain ⟨R,hR⟩:=ok.tr
 have hg:=hR.grow n (by omega)
 have hh:HI (S.H.dS n)∧(S.H.dS n).at_.length=S.vars+n+1:=by
  rw [o4 ok.hl hb]
  refine ⟨ok.hi.grow n,?_⟩
  have :=ok.hl
  simp only [Hp.growBy,ai,bh]
  omega
 have hp:=yI n ((S.vars:Int)+1) _ hh.1
 have hw:∀c:Nat,(S.watch++List.replicate (2*n) ([]:List Nat))[c]! =S.watch[c]! :=fun c=>by
  simp only [aa]
  by_cases e:c<S.watch.length
  ·rw [cW e]
  ·rw [gm (by omega),List.getElem?_replicate,kt (l:=S.watch) (by omega)]
   split<;>rfl
 have e0:(S.grow n).vars=S.vars+n:=rfl
 have e1:(S.grow n).T=S.T.dS n:=rfl
 have e2:(S.grow n).H=ie n ((S.vars:Int)+1) (S.H.dS n):=rfl
 have e3:(S.grow n).list=S.list:=rfl
 refine ⟨by rw [e0];exact hb,⟨R,?_⟩,by rw [e2];exact hp.1,by rw [e2,e0];exact hp.2.trans hh.2,?_,?_,by rw [e3];exact ok.ll,fun c k hk=> ?_,?_,fun j x hx=> ?_,fun j=>ok.ln j,fun j=>ok.lb j,?_,fun v=> ?_⟩
 ·rw [e0,e1];exact hg
 ·show (S.phase++List.replicate n false).length=S.vars+n+1
  have :=ok.ph
  simp
  omega
 ·show (S.watch++List.replicate (2*n) []).length=2*(S.vars+n)+2
  have :=ok.wl
  simp
  omega
 ·have e:k∈(S.watch++List.replicate (2*n) ([]:List Nat))[c]! :=hk
  rw [hw] at e
  exact ok.wb c k e
 ·show ((S.watch++List.replicate (2*n) []).map List.length).sum+0≤_
  have :=ok.wt
  simp
  exact this
 ·have :=ok.lr j x hx
  show x≠0∧ -((S.vars+n:Nat):Int)≤x∧x≤((S.vars+n:Nat):Int)
  omega
 ·exact ok.hd
 ·have :=ok.rs v
  rw [hR.fe] at this
  rw [e1,e3]
  rw [hg.fe]
  exact this
end Sv
theorem oo:(Tryz.prog.info? 22).map (fun i=>(i.zero,i.size,i.bytes))=some (some (.slice none 0 0),1,24):=by kernel_rfl
theorem jY (w:World) {ops:Array Oper} {rest:List Oper} {o:Oper} {a:Act} {Q:Exit→Act→World→Prop} (ou:o.guard=none) (s x:Operand) (t ti e:TypeId)
  (ho:o.op= .call { callee:= .builtin .append,args:=#[s,x],argTypes:=#[t,ti] }) (z:Value) (bytes:Nat) (ht:Tryz.prog.underlying t=some (.slice e)) (Vg:Tryz.prog.underlying ti=some (.int .i64)) (hi:(Tryz.prog.info? e).map (fun i=>(i.zero,i.size,i.bytes))=some (some z,1,bytes)) (AZ:z.cells=#[z]) (h1z:z.oneCell'=true)
  (A:Option Addr) (c n:Nat) (hs:a.eval s= .slice A n c) (xs:List Value) (dA:w.ownsRow 0 e 1 (.slice A n c) n xs) (m:Nat) (v:Int) (hv:v=m) (hx:a.eval x= .int .i64 v) (LV:n+m≤maxLen) (jW:(n+m)*bytes≤140737488355328) (hm:(m:Int)≤9223372036854775807)
  (h:∀A' cap w',w'.ownsRow 0 e 1 (.slice A' (n+m) cap) (n+m) (xs++List.replicate m z)→Fr (ap A) w w'→(∀k,k∈ap A'→k∈ap A∨w.heap.size≤k)→wpList Tryz.prog ops Q rest (a.put o.dst (.slice A' (n+m) cap)) w'):
  wpList Tryz.prog ops Q (o::rest) a w:=by
 subst hv
 refine wpList_plain ou fun K hK=> ?_
 obtain ⟨A',cap,w',hr,h2,h3,h4⟩:=lZ w t ti o.type e z bytes ht Vg hi AZ h1z A c n xs dA m LV jW hm
 unfold Oper.wp execOp
 simp only [ho,resolve,invoke,builtin,Sem.run_bind,Sem.run_pure,Result.andThen_ok,List.map_toArray,cM,dU,hs,hx,hr]
 exact hK _ _ (h A' cap w' h2 h3 h4)
theorem FN (w:World) (L:aQ) (S:Sv) (h:bf w L S) (ok:S.Ok 0) (n:Nat) (hb:S.vars+n≤262143):
  Calls Tryz.prog 45 #[.pointer (some ⟨L.a,0,none⟩), .int .i64 n] w (oF (.tuple #[]) (S.grow n) L w):=by
 have kM:=ae ok
 have Te:=ae ok.hl
 have HPH:=ae ok.ph
 have HWL:=ae ok.wl
 have qf:0<S.T.cells.length∧S.T.cells.length≤262145:=by
  obtain ⟨R,hR⟩:=ok.tr
  rw [hR.size]
  omega
 obtain ⟨c0,c1,-⟩:=h.cells
 have KT:=ae (uZ w L.tL S.T h.tr qf.1 qf.2 (n:Int))
 have HH:=ae h
 clear h ok
 go_enter Tryz.func45,Tryz.ntmps45
 go_wp2_with fail
 refine KT.o.mono ?_
 clear KT c0 c1
 rintro e w1 ⟨rfl,tL,ht,hte,htf⟩
 obtain ⟨L1,h1,rT,cU⟩:=HH.o.qab ht hte htf
 have H1:=ae h1
 have eG:=ae rT
 have dy:=ae cU
 have c1:=h1.cells.2.1
 rw [eG.o.1] at c1
 have KH:=ae (zc w1 L1.hL S.H h1.hp h1.io (n:Int) (by have :=Te.o;omega))
 clear h1 rT cU ht hte htf HH
 go_wp2_with fail
 refine KH.o.mono ?_
 clear KH c1
 rintro e w2 ⟨rfl,hL,hh,hhe,hhf⟩
 obtain ⟨L2,h2,jp,bZ⟩:=H1.o.heap hh hhe hhf
 obtain ⟨H0,hH0⟩:∃H0,S.H.dS (n:Int)=H0:=⟨_,rfl⟩
 obtain ⟨T0,db⟩:∃T0,S.T.dS (n:Int)=T0:=⟨_,rfl⟩
 rw [hH0] at h2
 rw [db] at h2
 have H2:=ae h2
 have dx:=ae (aQ.aX eG.o jp dy.o.size)
 have cH:=ae (aQ.aR eG.o dy.o bZ)
 have HT0:=ae db
 have HH0:=ae hH0
 have c5:=h2.cells.2.2.2.2.2.1
 rw [dx.o.1] at c5
 have Uz:=ae c5
 have f5:=h2.obj.frozen 5
 rw [dx.o.1] at f5
 have kN:=ae f5
 have Yj:al (L.a∉ap L2.pA):=fun hm=>by
  have e1:=H2.o.t5 _ hm
  rw [←dx.o.1,H2.o.t0] at e1
  simp at e1
 have TN:S.phase.length+n≤262144:=by have :=HPH.o;omega
 have HPN:=ae TN
 clear h2 jp bZ hh hhe hhf H1 eG dy db hH0 TN f5
 go_upto_region 3 with (at_builtin;(refine jY _ rfl _ _ 81 3 4 rfl (.bool false) 1 Tryz.underlying81 Tryz.underlying3 Cj rfl rfl L2.pA L2.pC S.phase.length rfl (S.phase.map Value.bool) H2.o.uv n _ rfl rfl (by have :=HPN.o;unfold maxLen;omega) (by have :=HPN.o;omega) (by omega) ?_;intro A5 Wz w3 uH eu RM;have s5:=eu.bD Yj.o Uz.o;have fz5:=(World.frozen?_of_block (eu.block L.a (bE Uz.o) Yj.o)).trans kN.o))
 --UK ad5
 obtain ⟨w4,yY⟩:∃w4,w3.setCell ⟨L.a,5,none⟩ (.slice A5 (S.phase.length+n) Wz)=w4:=⟨_,rfl⟩
 have NX:Bools w3 A5 Wz (S.phase++List.replicate n false):=by
  unfold Bools
  rw [ai,bh,bJ,List.map_replicate]
  exact uH
 obtain ⟨L4,h4,TY,eW⟩:=H2.o.YN NX eu (fun k hk _=>H2.o.t5 k hk) (fun k hk=>by
  rcases RM k hk with h5 |h5
  ·exact .inl ⟨dN H2.o.uv k h5,H2.o.t5 k h5⟩
  ·exact .inr h5)
 rw [dx.o.1,ai,bh,yY] at h4 eW
 have H4:=ae h4
 have uS:=ae (aQ.aX dx.o TY cH.o.size)
 have fM:=ae (aQ.aR dx.o cH.o eW)
 have c4:=h4.cells.2.2.2.2.1
 rw [uS.o.1] at c4
 have Ln:=ae c4
 have f4:=h4.obj.frozen 4
 rw [uS.o.1] at f4
 have aci:=ae f4
 have um:al (L.a∉ap L4.wA):=fun hm=>by
  have e1:=H4.o.t4 _ hm
  rw [←uS.o.1,H4.o.t0] at e1
  simp at e1
 have Ht:L4.ws.length=S.watch.length:=H4.o.qX
 have Gv:=ae Ht
 have mD:IntKind.i64.wrap (2*(n:Int))=2*(n:Int):=IntWalk.i64_in _ (by omega)
 have h2n:2*(n:Int)=((2*n:Nat):Int):=by omega
 have H2N:=ae h2n
 have eR:L4.ws.length+2*n≤600000:=by have :=HWL.o;omega
 have Pa:=ae eR
 clear h4 TY eW H2 dx cH uH NX eu RM s5 fz5 c5 f4 Ht h2n eR Uz kN Yj
 rw [yY]
 clear yY
 go_upto_region 4 with (at_builtin;(refine jY _ rfl _ _ 28 3 22 rfl (.slice none 0 0) 24 Tryz.underlying28 Tryz.underlying3 oo rfl rfl L4.wA L4.wC L4.ws.length rfl (L4.ws.map Wl.val) H4.o.rws (2*n) (2*(n:Int)) H2N.o rfl (by have :=Pa.o;unfold maxLen;omega) (by have :=Pa.o;omega) (by have :=Pa.o;omega) ?_;intro A6 abp w5 V1 fN hg6;have s6:=fN.bD um.o Ln.o;have fz6:=(World.frozen?_of_block (fN.block L.a (bE Ln.o) um.o)).trans aci.o))
 --UK watch lists
 obtain ⟨w6,tf⟩:∃w6,w5.setCell ⟨L.a,4,none⟩ (.slice A6 (L4.ws.length+2*n) abp)=w6:=⟨_,rfl⟩
 have aax:ug w5 A6 abp (L4.ws++List.replicate (2*n) ⟨none,0,[]⟩):=by
  unfold ug
  rw [ai,bh,bJ,List.map_replicate]
  exact V1
 obtain ⟨L6,h6,N6,V8⟩:=H4.o.Yu aax fN (fun k hk _=>H4.o.t4 k hk) (fun k hk=>by
  rcases hg6 k hk with h5 |h5
  ·exact .inl ⟨dN H4.o.rws k h5,H4.o.t4 k h5⟩
  ·exact .inr h5)
 rw [uS.o.1,tf] at h6 V8
 have H6:=ae h6
 have pS:=ae (aQ.aX uS.o N6 fM.o.size)
 have ik:=ae (aQ.aR uS.o fM.o V8)
 have c2:=h6.cells.2.2.1
 rw [pS.o.1] at c2
 have hwv:IntKind.i64.wrap ((S.vars:Int)+1)=(S.vars:Int)+1:=IntWalk.i64_in _ (by omega)
 have aml:IntKind.i64.wrap ((S.vars:Int)+(n:Int))=(S.vars:Int)+(n:Int):=IntWalk.i64_in _ (by omega)
 have Z6:HI H0∧H0.at_.length=S.vars+n+1:=by
  have h5:=kM.o.hl
  rw [←HH0.o,Sv.o4 h5 hb]
  refine ⟨kM.o.hi.grow n,?_⟩
  simp only [Hp.growBy,ai,bh]
  omega
 have HHI:=ae Z6
 clear h6 N6 V8 H4 uS fM V1 aax fN hg6 s6 fz6 c4 Ln aci um Z6 mD
 rw [tf]
 clear tf
 go_wp2_with fail
 clear c2
 go_loopg [4] n (fun g x4 wr=>∃(k:Nat) (Hk:Hp) (Lk:aQ),k+g=n∧x4= .int .i64 ((S.vars:Int)+1+k)∧al (Sv.ie g ((S.vars:Int)+1+k) Hk=Sv.ie n ((S.vars:Int)+1) H0)∧al (HI Hk∧Hk.at_.length=S.vars+n+1)∧
   al (bf wr Lk { S with T:=T0,H:=Hk,phase:=S.phase++List.replicate n false,watch:=S.watch++List.replicate (2*n) [] })∧al (L.ext Lk w)∧al (Fr (L.own w) w wr))
 case atStart=>exact ⟨0,H0,L6,by omega,by go_num,by show _=_;simp,HHI.o,H6.o,pS.o,ik.o⟩
 case round=>
  obtain ⟨k,Hk,Lk,hk,rfl,HP,HIK,H7,AX,rW⟩:=hrel
  have HK:=ae hk
  have ly:k≤n:=by omega
  obtain ⟨-,c1,c2,-⟩:=H7.o.cells
  rw [AX.o.1] at c1 c2
  clear hk
  by_cases bM:k<n
  ·obtain ⟨f,rfl⟩:∃f,gk=f+1:=⟨gk-1,by have :=HK.o;omega⟩
   have hd:(S.vars:Int)+1+(k:Int)≤(S.vars:Int)+(n:Int):=by omega
   have KP:=ae (vS wr Lk.hL Hk H7.o.hp HIK.o.1 (by have :=HIK.o.2;omega) ((S.vars:Int)+1+k))
   have hwk:IntKind.i64.wrap ((S.vars:Int)+1+(k:Int)+1)=(S.vars:Int)+1+(k:Int)+1:=IntWalk.i64_in _ (by omega)
   have Bo:al (Sv.ie f ((S.vars:Int)+1+((k+1:Nat):Int)) (Sv.ff Hk ((S.vars:Int)+1+k))=Sv.ie n ((S.vars:Int)+1) H0):=by
    have h5:=HP.o
    rw [Sv.ie] at h5
    rw [show (S.vars:Int)+1+((k+1:Nat):Int)=(S.vars:Int)+1+(k:Int)+1 from by omega]
    exact h5
   have ahL:al (HI (Sv.ff Hk ((S.vars:Int)+1+k))∧(Sv.ff Hk ((S.vars:Int)+1+k)).at_.length=S.vars+n+1):=by
    have h5:=HIK.o.1.ff ((S.vars:Int)+1+k)
    exact ⟨h5.1,h5.2.trans HIK.o.2⟩
   go_wp2_with fail
   refine KP.o.mono ?_
   clear KP c1 c2
   rintro e w8 ⟨b,rfl,hL8,hh8,RS,jg⟩
   obtain ⟨L8,h8,aaQ,aaH⟩:=H7.o.heap hh8 RS jg
   have H8:=ae h8
   have HE8:=ae (aQ.aX AX.o aaQ rW.o.size)
   have Li:=ae (aQ.aR AX.o rW.o aaH)
   clear h8 aaQ aaH hh8 RS jg
   go_wp2
   go_roundg f
   case measure=>omega
   case rel=>exact ⟨k+1,Sv.ff Hk ((S.vars:Int)+1+k),L8,by have :=HK.o;omega,by go_num,Bo.o,ahL.o,H8.o,HE8.o,Li.o⟩
  ·obtain rfl :k=n:=by omega
   have XW:gk=0:=by have :=HK.o;omega
   subst XW
   have hHk:Hk=Sv.ie k ((S.vars:Int)+1) H0:=HP.o
   have hd:¬((S.vars:Int)+1+(k:Int)≤(S.vars:Int)+(k:Int)):=by omega
   have hd':(S.vars:Int)+(k:Int)<(S.vars:Int)+1+(k:Int):=by omega
   have f2:=H7.o.obj.frozen 2
   rw [AX.o.1] at f2
   obtain ⟨g9,f9⟩:=H7.o.pk 2 (.int .i64 ((S.vars:Int)+(k:Int))) { S with T:=T0,H:=Hk,phase:=S.phase++List.replicate k false,watch:=S.watch++List.replicate (2*k) [],vars:=S.vars+k } (by simp [oQ]) ⟨rfl,rfl,rfl,rfl,rfl,rfl,rfl⟩
   rw [AX.o.1] at g9 f9
   have hS9:({ S with T:=T0,H:=Hk,phase:=S.phase++List.replicate k false,watch:=S.watch++List.replicate (2*k) [],vars:=S.vars+k }:Sv)=S.grow k:=by
    unfold Sv.grow
    rw [hHk,←HT0.o,←HH0.o]
   rw [hS9] at g9
   have FF:al (oF (.tuple #[]) (S.grow k) L w (.returned (.tuple #[])) (wr.setCell ⟨L.a,2,none⟩ (.int .i64 ((S.vars:Int)+(k:Int))))):=⟨rfl,Lk,g9,AX.o,aQ.aR AX.o rW.o f9⟩
   clear g9 f9 hS9 hHk HP c1
   go_wp2_with fail
   go_end0
   exact FF.o
def sm (a:Nat) (tL:ew) (hL:fD) (g4 g5:Nat):aQ where
  a:=a
  tL:=tL
  hL:=hL
  cA:=none
  cC:=0
  wA:=some ⟨g4,0,none⟩
  wC:=2
  pA:=some ⟨g5,0,none⟩
  pC:=1
  mA:=none
  mC:=0
  oA:=none
  oC:=0
  cs:=[]
  ws:=[⟨none,0,[]⟩,⟨none,0,[]⟩]
  id:=0
  cQ:=fun k=>if k=a then (0,0,0) else if k∈tL.fp then (0,1,0) else if k∈hL.fp then (0,2,0) else if k=g4 then (0,4,0) else if k=g5 then (0,5,0) else (1,0,0)
theorem bf.make {w:World} {tL:ew} {hL:fD} {g4 g5:Nat} (ht:TrAt w tL (Tr.fresh.dS 0)) (hh:ct w hL (Hp.none_.dS 1)) (hm:hL.A2.isSome=true) (hw:ug w (some ⟨g4,0,none⟩) 2 [⟨none,0,[]⟩,⟨none,0,[]⟩]) (hp:Bools w (some ⟨g5,0,none⟩) 1 [false])
    (b:Nat) (hb:b≤w.heap.size) (hx:(∀k,k∈tL.fp→b≤k)∧(∀k,k∈hL.fp→b≤k)∧b≤g4∧b≤g5∧(∀k,k∈tL.fp→k∉hL.fp)∧g4∉tL.fp∧g5∉tL.fp∧g4∉hL.fp∧g5∉hL.fp∧g4≠g5):
    ∃L:aQ,L.a=w.heap.size∧bf (w.alloc (.cells #[.pointer (some ⟨tL.a,0,none⟩), .pointer (some ⟨hL.a,0,none⟩), .int .i64 0, .slice none 0 0, .slice (some ⟨g4,0,none⟩) 2 2, .slice (some ⟨g5,0,none⟩) 1 1, .slice none 0 0, .slice none 0 0, .int .i64 0, .int .i64 0, .int .i64 1, .int .i64 0, .int .i64 400, .bool false, .bool false] 84)) L Sv.bare∧(∀k,k<b→(L.cQ k).1≠L.id)∧Fr [] w (w.alloc (.cells #[.pointer (some ⟨tL.a,0,none⟩), .pointer (some ⟨hL.a,0,none⟩), .int .i64 0, .slice none 0 0, .slice (some ⟨g4,0,none⟩) 2 2, .slice (some ⟨g5,0,none⟩) 1 1, .slice none 0 0, .slice none 0 0, .int .i64 0, .int .i64 0, .int .i64 1, .int .i64 0, .int .i64 400, .bool false, .bool false] 84)):=by
  obtain ⟨n1,n2,n4,n5,d12,d14,d15,d24,d25,d45⟩:=hx
  have vQ:=ht.lt
  have jM:=hh.lt
  have JN:g4<w.heap.size:=dN hw g4 (by simp [ap])
  have hl5:g5<w.heap.size:=dN hp g5 (by simp [ap])
  have hf:Fr [] w (w.alloc (.cells #[.pointer (some ⟨tL.a,0,none⟩), .pointer (some ⟨hL.a,0,none⟩), .int .i64 0, .slice none 0 0, .slice (some ⟨g4,0,none⟩) 2 2, .slice (some ⟨g5,0,none⟩) 1 1, .slice none 0 0, .slice none 0 0, .int .i64 0, .int .i64 0, .int .i64 1, .int .i64 0, .int .i64 400, .bool false, .bool false] 84)):=aN _ _
  refine ⟨sm w.heap.size tL hL g4 g5,rfl,?_,?_,hf⟩
  · refine ⟨At.new w _ _,ht.fr hf (by simp),hh.fr hf (by simp),hm,rfl,rfl,World.ownsRow_nil _ 0 _ 3,?_,?_,World.ownsRow_nil _ 0 _ 1,Ints.nil _,fun n hn=>absurd hn (aI _),fun c hc=> ?_,?_,?_,?_,?_,?_,?_,?_,?_,fun n hn=>absurd hn (aI _),fun c hc=> ?_⟩
    · exact eH hw hf (by simp)
    · exact eH hp hf (by simp)
    · have :c=0∨c=1:=by simp [sm] at hc;omega
      rcases this with rfl |rfl <;>exact Ints.nil _
    · simp [sm]
    · intro k (hk:k∈tL.fp)
      have :=vQ k hk
      show (if k=w.heap.size then (0,0,0) else if k∈tL.fp then (0,1,0) else _)=((0,1,0):Nat×Nat×Nat)
      rw [if_neg (by omega),if_pos hk]
    · intro k (hk:k∈hL.fp)
      have :=jM k hk
      show (if k=w.heap.size then (0,0,0) else if k∈tL.fp then (0,1,0) else if k∈hL.fp then (0,2,0) else _)=((0,2,0):Nat×Nat×Nat)
      rw [if_neg (by omega),if_neg (fun h=>d12 k h hk),if_pos hk]
    · intro k hk
      simp [sm,ap] at hk
    · intro k hk
      simp [sm,ap] at hk
      subst hk
      simp only [sm]
      rw [if_neg (by omega),if_neg d14,if_neg d24];rfl
    · intro k hk
      simp [sm,ap] at hk
      subst hk
      simp only [sm]
      rw [if_neg (by omega),if_neg d15,if_neg d25,if_neg (fun h=>d45 h.symm)];rfl
    · intro k hk
      simp [sm,ap] at hk
    · intro k hk
      simp [sm,ap] at hk
    · have :c=0∨c=1:=by simp [sm] at hc;omega
      rcases this with rfl |rfl <;>(intro k hk;simp [sm,ap] at hk)
  · intro k hk
    simp only [sm]
    rw [if_neg (by omega),if_neg (fun h=>by have :=n1 k h;omega),if_neg (fun h=>by have :=n2 k h;omega),if_neg (by omega),if_neg (by omega)]
    simp
theorem Sv.Ok.bare:Sv.bare.Ok 0:=by
  have hT:TRep (Tr.fresh.dS 0) 0 [] 0:=by
    have :=TRep.fresh.grow 0 (by omega)
    exact this
  have hH:(Hp.none_.dS 1)=Hp.none_.growBy 1:=rfl
  refine ⟨by decide,⟨[],hT⟩,?_,rfl,rfl,rfl,by decide,fun c k hk=> ?_,by decide,fun j x hx=> ?_,fun j=> ?_,fun j=> ?_,by decide,fun v=> ?_⟩
  · show HI (Hp.none_.dS 1)
    rw [hH]
    exact HI.none_.grow 1
  · have :k∈([[],[]]:List (List Nat))[c]! :=hk
    rcases c with _ |_ |c
    · simp at this
    · simp at this
    · exact absurd (show k∈([]:List Nat) from this) cK
  · have e:Sv.bare.rc j=⟨[],false,0⟩:=Sv.mL (bH j)
    rw [e] at hx
    simp at hx
  · have e:Sv.bare.rc j=⟨[],false,0⟩:=Sv.mL (bH j)
    rw [e]
    simp
  · have e:Sv.bare.rc j=⟨[],false,0⟩:=Sv.mL (bH j)
    rw [e]
    simp
  · have :=hT.fe v
    show 0≤(Tr.fresh.dS 0).fe v∧(Tr.fresh.dS 0).fe v≤_
    rw [this]
    simp [look]
theorem vb (W:World) (z:Int) (h0:0≤z) (h1:z≤1099511627776):
    (Instr.makeSlice 28 (.int .i64 z) (.int .i64 z)).run Tryz.prog W= .ok (.slice (some ⟨W.heap.size,0,none⟩) z.toNat z.toNat) (W.alloc (.cells (madeCells #[.slice none 0 0] z.toNat) 22)):=by
  obtain ⟨i0,hi,vG,nc,A8⟩:=info_parts oo
  obtain ⟨n,rfl⟩:=Int.eq_ofNat_of_zero_le h0
  have hr:=run_make (P:=Tryz.prog) W 28 22 i0 (.slice none 0 0) Tryz.underlying28 hi vG .i64 .i64 n n (by omega) (Int.le_refl _) (by rw [A8];omega) (by omega)
  simp only [Int.toNat_natCast] at hr⊢
  rw [nc,mz] at hr
  exact hr
theorem QM (W:World):ug (W.alloc (.cells (madeCells #[.slice none 0 0] 2) 22)) (some ⟨W.heap.size,0,none⟩) 2 [⟨none,0,[]⟩,⟨none,0,[]⟩]:=by
  have :=World.ownsRow_lit (base:=0) (e:=22) (size:=1) W (madeCells #[.slice none 0 0] 2) 2 (bH _) (by decide) (by rw [size_madeCells])
  rw [toList_madeCells_one] at this
  exact this
theorem QN (W:World):Bools (W.alloc (.cells (madeCells #[.bool false] 1) 4)) (some ⟨W.heap.size,0,none⟩) 1 [false]:=qa W 1 (by decide)
def SB (S:Sv) (w:World) (e:Ending) (w':World):Prop:=∃L:aQ,e= .returned (.pointer (some ⟨L.a,0,none⟩))∧bf w' L S∧(∀k,k<w.heap.size→(L.cQ k).1≠L.id)∧Fr [] w w'
def NT (lo hi ta:Nat) (w:World):Prop:=∃tL:ew,tL.a=ta∧TrAt w tL (Tr.fresh.dS 0)∧∀k,k∈tL.fp→lo≤k∧k<hi
def NH (lo hi ha:Nat) (w:World):Prop:=∃hL:fD,hL.a=ha∧ct w hL (Hp.none_.dS 1)∧hL.A2.isSome=true∧∀k,k∈hL.fp→lo≤k∧k<hi
def NW (g:Nat) (w:World):Prop:=ug w (some ⟨g,0,none⟩) 2 [⟨none,0,[]⟩,⟨none,0,[]⟩]
def NB (g:Nat) (w:World):Prop:=Bools w (some ⟨g,0,none⟩) 1 [false]
theorem NT.k {lo hi a:Nat} {w w':World} (h:al (NT lo hi a w)) (hf:Fr [] w w'):al (NT lo hi a w'):=by
  obtain ⟨tL,h1,h2,h3⟩:=h
  exact ⟨tL,h1,h2.fr hf (by simp),h3⟩
theorem NH.k {lo hi a:Nat} {w w':World} (h:al (NH lo hi a w)) (hf:Fr [] w w'):al (NH lo hi a w'):=by
  obtain ⟨tL,h1,h2,h3,h4⟩:=h
  exact ⟨tL,h1,h2.fr hf (by simp),h3,h4⟩
theorem NW.k {g:Nat} {w w':World} (h:al (NW g w)) (hf:Fr [] w w'):al (NW g w'):=eH (F:=[]) h hf (by simp)
theorem NB.k {g:Nat} {w w':World} (h:al (NB g w)) (hf:Fr [] w w'):al (NB g w'):=eH (F:=[]) h hf (by simp)
theorem mk2 {w cur:World} (h:(fun w':World=>Fr [] w w') cur):∃(g:Nat) (W:World),cur.heap.size=g∧cur.alloc (.cells (madeCells #[.slice none 0 0] 2) 22)=W∧al (NW g W)∧Fr [] cur W∧cur.heap.size≤g∧g<W.heap.size:=⟨_,_,rfl,rfl,QM cur,aN _ _,au _,by simp⟩
theorem mk1 {w cur:World} (h:(fun w':World=>Fr [] w w') cur):∃(g:Nat) (W:World),cur.heap.size=g∧cur.alloc (.cells (madeCells #[.bool false] 1) 4)=W∧al (NB g W)∧Fr [] cur W∧cur.heap.size≤g∧g<W.heap.size:=⟨_,_,rfl,rfl,QN cur,aN _ _,au _,by simp⟩
theorem Yz {C P:Nat→Nat→Nat→Nat→Nat→World→Prop} {G:Prop} (m:(∀a b c d g W,C a b c d g W→P a b c d g W)→G) (t:∀a b c d g W,C a b c d g W→P a b c d g W):G:=m t
theorem Ow {w W:World} {L9:aQ} (h9:bf W L9 Sv.bare) (hLn:∀k,k<w.heap.size→(L9.cQ k).1≠L9.id) (hF:Fr [] w W) (n:Nat) (hn:n≤262143):
    Calls Tryz.prog 45 #[.pointer (some ⟨L9.a,0,none⟩), .int .i64 (n:Int)] W fun e w8=>e= .returned (.tuple #[])∧SB (Sv.bare.grow n) w (.returned (.pointer (some ⟨L9.a,0,none⟩))) w8:=by
  refine (FN _ L9 Sv.bare h9 Sv.Ok.bare n (by show 0+n≤_;omega)).mono ?_
  rintro e w8 ⟨rfl,L8,h8,RS,jg⟩
  refine ⟨rfl,L8,by rw [RS.1],h8,fun k hk e=>hLn k hk (RS.2.2 k (aK hk hF.size) (e.trans RS.2.1)),hF.trans jg (fun k hk=> ?_)⟩
  rw [aQ.bQ] at hk
  rcases bK k w.heap.size with hl |hl
  · exact absurd hk.2 (hLn k hl)
  · exact .inr hl
theorem QL {w0 w:World} {vars:Int} {n la lb ma mb ta ha g4 g5:Nat} (hS:Sv.new vars=Sv.bare.grow n) (hn:n≤262143) (hT:al (NT la lb ta w)) (hH:al (NH ma mb ha w)) (hw:al (NW g4 w)) (hp:al (NB g5 w)) (hf:al (Fr [] w0 w))
    (hx:w0.heap.size≤la∧w0.heap.size≤ma∧w0.heap.size≤g4∧w0.heap.size≤g5∧(lb≤ma∨mb≤la)∧(g4<la∨lb≤g4)∧(g5<la∨lb≤g5)∧(g4<ma∨mb≤g4)∧(g5<ma∨mb≤g5)∧g4≠g5):
    ∃(g:Nat) (W:World),w.alloc (.cells #[.pointer (some ⟨ta,0,none⟩), .pointer (some ⟨ha,0,none⟩), .int .i64 0, .slice none 0 0, .slice (some ⟨g4,0,none⟩) 2 2, .slice (some ⟨g5,0,none⟩) 1 1, .slice none 0 0, .slice none 0 0, .int .i64 0, .int .i64 0, .int .i64 1, .int .i64 0, .int .i64 400, .bool false, .bool false] 84)=W∧w.heap.size=g∧
      Calls Tryz.prog 45 #[.pointer (some ⟨g,0,none⟩), .int .i64 (n:Int)] W fun e w8=>e= .returned (.tuple #[])∧SB (Sv.new vars) w0 (.returned (.pointer (some ⟨g,0,none⟩))) w8:=by
  obtain ⟨tL,rfl,ht,Ba⟩:=hT
  obtain ⟨hL,rfl,hh,hm,NZ⟩:=hH
  obtain ⟨L,h1,h2,h3,h4⟩:=bf.make ht hh hm hw hp w0.heap.size (Fr.size hf) (by
    refine ⟨fun k a=> ?_,fun k a=> ?_,?_,?_,fun k a b=> ?_,fun a=> ?_,fun a=> ?_,fun a=> ?_,fun a=> ?_,?_⟩
    · have :=Ba k a;omega
    · have :=NZ k a;omega
    · omega
    · omega
    · have :=Ba k a;have :=NZ k b;omega
    · have :=Ba _ a;omega
    · have :=Ba _ a;omega
    · have :=NZ _ a;omega
    · have :=NZ _ a;omega
    · omega)
  have KG:=Ow (w:=w0) h2 h3 (Fr.aj hf h4) n hn
  rw [←hS,h1] at KG
  exact ⟨_,_,rfl,rfl,KG⟩
theorem IW (w:World) (vars:Int) (LB: -9223372036854775808≤vars) (hv1:vars≤9223372036854775807):Calls Tryz.prog 25 #[.int .i64 vars] w (SB (Sv.new vars) w):=by
  have KT:al (∀W,Calls Tryz.prog 43 #[.int .i64 (0:Nat)] W fun e w'=>∃ta,e= .returned (.pointer (some ⟨ta,0,none⟩))∧al (NT W.heap.size w'.heap.size ta w')∧Fr [] W w'):=fun W=>(IH W 0).mono fun e w' ⟨tL,h1,h2,h3,h4⟩=>⟨tL.a,h1,⟨tL,rfl,h2,fun k hk=>⟨h3 k hk,h2.lt k hk⟩⟩,h4⟩
  have KH:al (∀W,Calls Tryz.prog 44 #[.int .i64 (1:Nat)] W fun e w'=>∃ha,e= .returned (.pointer (some ⟨ha,0,none⟩))∧al (NH W.heap.size w'.heap.size ha w')∧Fr [] W w'):=fun W=>(N4 W 1).mono fun e w' ⟨hL,h1,h2,h3,h4,h5⟩=>⟨hL.a,h1,⟨hL,rfl,h2,h3,fun k hk=>⟨h4 k hk,h2.lt k hk⟩⟩,h5⟩
  have pF:=fun W=>vb W 2 (by omega) (by omega)
  have vO:=fun W=>lF W 1 (by omega) (by omega)
  simp only [show (2:Int).toNat=2 from rfl] at pF
  simp only [show (1:Int).toNat=1 from rfl] at vO
  obtain ⟨n,hn⟩:∃n:Nat,(min (max vars 0) 262143).toNat=n:=⟨_,rfl⟩
  have oZ:n≤262143:=by omega
  have Uq:al (Sv.new vars=Sv.bare.grow n):=by show _=_;unfold Sv.new;rw [hn]
  have Qd:al (min (max vars 0) 262143=(n:Int)):=by show _=_;omega
  clear hn
  go_enter Tryz.func25,Tryz.ntmps25
  go_upto_region 1 with fail
  apply Yz (C:=fun (_ _ _ _ g:Nat) (W:World)=>Calls Tryz.prog 45 #[.pointer (some ⟨g,0,none⟩), .int .i64 (n:Int)] W fun e w8=>e= .returned (.tuple #[])∧SB (Sv.new vars) w (.returned (.pointer (some ⟨g,0,none⟩))) w8)
  · intro agu
    refine wp_region_noPanic ?_
    refine bp (fun w':World=>Fr [] w w') 5 (by kernel_rfl) ((Fr.refl [] w).drew) (fun hT=> ?_)
    have hwd:w.heap.size≤w.drew.heap.size:=au _
    generalize w.drew=wd at hT hwd⊢
    repeat' first
      |exact bY.nil
      |refine bY.cons rfl ?_ ?_
      | (intro K hK
         go_simp
         first
           | (refine (KT.o _).mono ?_;rintro e w5 ⟨ta,rfl,HT,hf⟩;(try have HP:=NH.k HP hf);(try have HW:=NW.k HW hf);(try have HB:=NB.k HB hf);have hz:=hf.size;have HX:=ae (aH.aj hf);dsimp only)
           | (refine (KH.o _).mono ?_;rintro e w5 ⟨ha,rfl,HP,hf⟩;(try have HT:=NT.k HT hf);(try have HW:=NW.k HW hf);(try have HB:=NB.k HB hf);have hz:=hf.size;have HX:=ae (aH.aj hf);dsimp only)
           | (obtain ⟨g4,w6,e1,e2,HW,hf,l1,l2⟩:=mk2 aH;rw [e1,e2];clear e1 e2;(try have HT:=NT.k HT hf);(try have HP:=NH.k HP hf);(try have HB:=NB.k HB hf);have HX:=ae (aH.aj hf))
           | (obtain ⟨g5,w6,e1,e2,HB,hf,l1,l2⟩:=mk1 aH;rw [e1,e2];clear e1 e2;(try have HT:=NT.k HT hf);(try have HP:=NH.k HP hf);(try have HW:=NW.k HW hf);have HX:=ae (aH.aj hf))
           |skip
         first
           |refine hK.out _ _ (.inl rfl) (fun hT=> ?_)
           | (refine hK.out _ _ (.inr ?_) (fun hT=> ?_)
              · first |exact HX.o |exact aH)
         clear hK K
         try simp only [Act.put,q5,q6,q7])
      | (have aH:=hT.resolve_left (by decide)
         first
           |refine aU (rs:=[0,2,3]) (by decide+kernel) (by simp) ?_
           |refine aU (rs:=[1,2,3]) (by decide+kernel) (by simp) ?_
           |refine aU (rs:=[2,3]) (by decide+kernel) (by simp) ?_
           |refine aU (rs:=[3]) (by decide+kernel) (by simp) ?_
           |refine aU (rs:=[4]) (by decide+kernel) (by simp) ?_
           |refine aU (rs:=[5]) (by decide+kernel) (by simp) ?_
           |refine aU (rs:=[2]) (by decide+kernel) (by simp) ?_
           |refine aU (rs:=[1,3]) (by decide+kernel) (by simp) ?_
           |refine aU (rs:=[1]) (by decide+kernel) (by simp) ?_
           |refine aU (rs:=[1,2]) (by decide+kernel) (by simp) ?_
           |refine aU (rs:=[0,3]) (by decide+kernel) (by simp) ?_
           |refine aU (rs:=[0]) (by decide+kernel) (by simp) ?_
           |refine aU (rs:=[0,2]) (by decide+kernel) (by simp) ?_)
      |refine aU (rs:=[6]) (by decide+kernel) (by simp) ?_
      | (refine kZ (by decide+kernel) ?_ _
         refine NoPanic.normal ?_
         obtain ⟨g9,w9,e1,e2,KG⟩:=QL Uq.o oZ HT HP HW HB HX (by omega)
         rw [e1,e2]
         exact agu ta ha g4 g5 g9 w9 KG)
  · intro ta ha g4 g5 g9 w9 KG
    clear pF vO
    have KG:=ae KG
    by_cases h0:vars<0
    · obtain rfl :n=0:=by have :=Qd.o;omega
      go_wp2_with fail
      refine KG.o.mono ?_
      rintro e w8 ⟨rfl,hN⟩
      have FF:=ae hN
      clear hN KG
      go_wp2
      go_ret
      exact FF.o
    · have h0':(0:Int)≤vars:=by omega
      by_cases h1:262143<vars
      · obtain rfl :n=262143:=by have :=Qd.o;omega
        go_wp2_with fail
        refine KG.o.mono ?_
        rintro e w8 ⟨rfl,hN⟩
        have FF:=ae hN
        clear hN KG
        go_wp2
        go_ret
        exact FF.o
      · obtain rfl :vars=(n:Int):=by have :=Qd.o;omega
        have J6:(n:Int)≤262143:=by omega
        go_wp2_with fail
        refine KG.o.mono ?_
        rintro e w8 ⟨rfl,hN⟩
        have FF:=ae hN
        clear hN KG
        go_wp2
        go_ret
        exact FF.o
theorem TRep.canon {T:Tr} {vars:Nat} {R:List St} {d:Nat} (h:TRep T vars R d):R=T.lits.map fun x=>(⟨x,T.da (tv x),T.fe (tv x)⟩:St):=by
 rw [h.lits,List.map_map]
 have :∀e∈R,((fun x=>(⟨x,T.da (tv x),T.fe (tv x)⟩:St))∘fun e:St=>e.x) e=e:=fun e he=>by
  simp only [Function.comp_apply]
  rw [h.da,h.fe,gS h.nd he]
 exact (List.map_id R).symm.trans (List.map_congr_left fun e he=>(this e he).symm)
namespace Sv
def R (S:Sv):List St:=S.T.lits.map fun x=>(⟨x,S.T.da (tv x),S.T.fe (tv x)⟩:St)
theorem Ok.rep {S:Sv} {m:Nat} (ok:S.Ok m):TRep S.T S.vars S.R S.T.levels.length:=by
 obtain ⟨R,hR⟩:=ok.tr
 have :=hR.canon
 unfold Sv.R
 rw [←this]
 exact hR
theorem iT (S:Sv):S.R.length=S.T.lits.length:=by simp [R]
theorem Su {S:Sv} {R:List St} {d:Nat} (h:TRep S.T S.vars R d):S.R=R:=h.canon.symm
theorem dp {S S':Sv} (h:S'.T=S.T):S'.R=S.R:=by unfold R;rw [h]
theorem fu {S:Sv} {m:Nat} (ok:S.Ok m) (x:Int):0<S.val x↔∃e∈S.R,e.x=x:=by
 have h:=ok.rep
 unfold val
 rw [h.kQ]
 cases hk:look S.R (tv x) with
 |none=>
  simp only [Int.lt_irrefl,false_iff]
  rintro ⟨e,he,rfl⟩
  exact oX hk e he rfl
 |some e=>
  obtain ⟨h1,h2⟩:=il hk
  simp only
  constructor
  ·intro h3
   split at h3
   ·rename_i h4;exact ⟨e,h1,h4⟩
   ·omega
  ·rintro ⟨e',dZ,rfl⟩
   rw [gS h.nd dZ] at hk
   cases hk
   rw [if_pos rfl]
   omega
theorem gx {S:Sv} {m:Nat} (ok:S.Ok m) (x:Int):S.val x=0∨S.val x=1∨S.val x= -1:=by
 have h:=ok.rep
 unfold val
 rw [h.kQ]
 cases look S.R (tv x) with
 |none=>exact .inl rfl
 |some e=>
  simp only
  split
  ·exact .inr (.inl rfl)
  ·exact .inr (.inr rfl)
theorem Qo {x y:Int} (h:tv x=tv y) (h1:1≤tv x):x=y∨x= -y:=by
 unfold tv at h h1
 split at h1
 ·omega
 ·rename_i e1
  rw [if_neg e1] at h
  split at h
  ·split at h
   ·omega
   ·split at h<;>omega
  ·split at h
   ·omega
   ·split at h<;>omega
theorem zC (x:Int) (h:1≤tv x) (h2:tv x≤4611686018427387904):tv (-x)=tv x:=by
 have h3:x=tv x∨x= -tv x:=by
  unfold tv at *
  split at h
  ·omega
  ·rename_i e1
   rw [if_neg e1]
   split at h
   ·rename_i e2;rw [if_pos e2];omega
   ·rename_i e2;rw [if_neg e2];omega
 generalize tv x=t at *
 rcases h3 with rfl |rfl
 ·rw [pV (by omega) (by omega)];omega
 ·rw [Int.neg_neg,mH (by omega)]
theorem fm {S:Sv} {m:Nat} (ok:S.Ok m) {e:St} (he:e∈S.R):1≤tv e.x∧tv e.x≤S.vars∧0≤e.l∧e.l≤S.T.levels.length:=by
 have :=ok.rep.bound e he
 exact ⟨this.2.2.1,this.2.2.2,this.1,this.2.1⟩
theorem val_neg {S:Sv} {m:Nat} (ok:S.Ok m) {x:Int}:S.val x<0↔∃e∈S.R,e.x= -x:=by
 have h:=ok.rep
 have nF:=ok.vl
 have LD:∀e∈S.R,e.x= -x→tv e.x=tv x:=fun e he hx=>by
  have hb:=h.bound e he
  have :=zC e.x hb.2.2.1 (by omega)
  rw [←this,hx,Int.neg_neg]
 unfold val
 rw [h.kQ]
 cases hk:look S.R (tv x) with
 |none=>
  simp only [Int.lt_irrefl,false_iff]
  rintro ⟨e,he,hx⟩
  exact oX hk e he (LD e he hx)
 |some e=>
  obtain ⟨h1,h2⟩:=il hk
  have hb:=h.bound e h1
  simp only
  constructor
  ·intro h3
   split at h3
   ·omega
   ·rename_i h4
    rcases Qo h2 hb.2.2.1 with h5 |h5
    ·exact absurd h5 h4
    ·exact ⟨e,h1,h5⟩
  ·rintro ⟨e',dZ,hx⟩
   have h7:=LD e' dZ hx
   have h8:=gS h.nd dZ
   rw [h7,hk] at h8
   cases h8
   rw [if_neg (by
    intro h9
    rw [hx] at h9
    have h10:x=0:=by omega
    have h11:=hb.2.2.1
    rw [hx,h10,mH (by omega)] at h11
    omega)]
   omega
theorem kF {S:Sv} {m:Nat} (ok:S.Ok m) {e:St} (he:e∈S.R):S.T.da (tv e.x)=e.l∧S.T.fe (tv e.x)=e.r:=by
 have h:=ok.rep
 rw [h.da,h.fe,gS h.nd he]
 exact ⟨rfl,rfl⟩
theorem ng {S:Sv} {m:Nat} (ok:S.Ok m) {x r:Int} (hb:S.T.iI x=true):(S.put x r).R=S.R++[⟨x,S.T.levels.length,r⟩]:=by
 have h:=ok.rep.put x r hb
 have e:(S.put x r).T=S.T.n8 x r:=by unfold put;simp only;rw [if_pos hb]
 have :TRep (S.put x r).T (S.put x r).vars (S.R++[⟨x,S.T.levels.length,r⟩]) S.T.levels.length:=by
  rw [e];exact h
 exact Su this
theorem iH {S:Sv} {m:Nat} (ok:S.Ok m) {x:Int} (h1:1≤tv x) (h2:tv x≤S.vars) (hv:S.val x=0):S.T.iI x=true:=by
 have h:=ok.rep
 rw [h.iI]
 simp only [aD,decide_eq_true_eq,Option.isNone_iff_eq_none]
 refine ⟨⟨h1,h2⟩,?_⟩
 unfold val at hv
 rw [h.kQ] at hv
 cases hk:look S.R (tv x) with
 |none=>rfl
 |some e=>
  rw [hk] at hv
  simp only at hv
  split at hv<;>omega
theorem qp {S:Sv} {m:Nat} (ok:S.Ok m):S.deep.R=S.R:=by
 have h:=ok.rep.deep
 exact Su (S:=S.deep) h
theorem WL {S:Sv} {m:Nat} (ok:S.Ok m) (level:Nat) (hl:level<S.T.levels.length):(S.back level).R=S.R.filter (fun e:St=>decide (e.l≤(level:Int))):=by
 have h:=ok.rep.back level hl
 have hq:=jl (level:Int) S.T.lits.reverse S m ok
 have e:(S.back level).T=S.T.cV level∧(S.back level).vars=S.vars:=by
  unfold back
  rw [if_neg (by omega)]
  exact ⟨by simp only;rw [hq.2.1],hq.2.2.2.1⟩
 refine Su (d:=level) ?_
 rw [e.1,e.2]
 exact h
end Sv
end Go.Proofs.YtdgplmgfkliijaaGreat
