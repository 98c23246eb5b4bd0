/- Parts of a proof. -/
import Derived.Test.YtjmmpfjcpdepjaaGreatDoorGAN
import Derived.Shelf.Strings.SlTrimAscii
import Derived.Shelf.Bits.Mul64
import Derived.Ground.SlgnProg
import Derived.Ground.Names2Prog
import Derived.Laws.MakeOwn
import Derived.Laws.CopyOwn
import Derived.Deep.RegionLaw
import Derived.Deep.RegionHeld3
import Derived.Laws.IdiomStrings
set_option linter.unusedVariables false
set_option linter.unusedSimpArgs false
set_option maxHeartbeats 8000000
namespace Go.Proofs.YtjmmpfjcpdepjaaGreatDoor
open Go.Shelf
def layTrim_ren:Go.Shelf.Ren:=⟨fun |160=>129 |232=>156 |231=>155 |227=>157 |234=>159 |233=>158 |236=>161 |235=>160 |228=>193 |271=>196 |151=>195 |197=>194 |120=>214 |152=>213 |260=>212 |137=>221 |119=>222 |224=>191 |225=>190 |217=>189 |266=>210 |n=>n,fun |9=>9 |4=>4 |3=>3 |5=>5 |117=>185 |116=>184 |0=>0 |124=>188 |21=>21 |105=>215 |46=>159 |119=>239 |139=>242 |138=>241 |n=>n,fun |3=>1 |4=>2 |n=>n⟩
theorem layTrim:Go.Proofs.Lays.n160 Tryz.prog layTrim_ren:={
 mixed:=by kernel_rfl
 f119:=Tryz.func222.trans (congrArg some (by kernel_rfl))
 f120:=Tryz.func214.trans (congrArg some (by kernel_rfl))
 f137:=Tryz.func221.trans (congrArg some (by kernel_rfl))
 f151:=Tryz.func195.trans (congrArg some (by kernel_rfl))
 f152:=Tryz.func213.trans (congrArg some (by kernel_rfl))
 f160:=Tryz.func129.trans (congrArg some (by kernel_rfl))
 f197:=Tryz.func194.trans (congrArg some (by kernel_rfl))
 f217:=Tryz.func189.trans (congrArg some (by kernel_rfl))
 f224:=Tryz.func191.trans (congrArg some (by kernel_rfl))
 f225:=Tryz.func190.trans (congrArg some (by kernel_rfl))
 f227:=Tryz.func157.trans (congrArg some (by kernel_rfl))
 f228:=Tryz.func193.trans (congrArg some (by kernel_rfl))
 f231:=Tryz.func155.trans (congrArg some (by kernel_rfl))
 f232:=Tryz.func156.trans (congrArg some (by kernel_rfl))
 f233:=Tryz.func158.trans (congrArg some (by kernel_rfl))
 f234:=Tryz.func159.trans (congrArg some (by kernel_rfl))
 f235:=Tryz.func160.trans (congrArg some (by kernel_rfl))
 f236:=Tryz.func161.trans (congrArg some (by kernel_rfl))
 f260:=Tryz.func212.trans (congrArg some (by kernel_rfl))
 f266:=Tryz.func210.trans (congrArg some (by kernel_rfl))
 f271:=Tryz.func196.trans (congrArg some (by kernel_rfl))
 t0:=Tryz.underlying0
 a0:=Tryz.isAgg0
 z0:=Tryz.sizeOf0
 v0:=Tryz.zeroValue0
 t3:=Tryz.underlying3
 a3:=Tryz.isAgg3
 z3:=Tryz.sizeOf3
 v3:=Tryz.zeroValue3
 t4:=Tryz.underlying4
 a4:=Tryz.isAgg4
 z4:=Tryz.sizeOf4
 v4:=Tryz.zeroValue4
 t5:=Tryz.underlying5
 a5:=Tryz.isAgg5
 z5:=Tryz.sizeOf5
 v5:=Tryz.zeroValue5
 t9:=Tryz.underlying9
 a9:=Tryz.isAgg9
 z9:=Tryz.sizeOf9
 v9:=Tryz.zeroValue9
 t21:=Tryz.underlying21
 a21:=Tryz.isAgg21
 z21:=Tryz.sizeOf21
 v21:=Tryz.zeroValue21
 t46:=Tryz.underlying159
 a46:=Tryz.isAgg159
 z46:=Tryz.sizeOf159
 v46:=Tryz.zeroValue159
 t105:=Tryz.underlying215
 a105:=Tryz.isAgg215
 z105:=Tryz.sizeOf215
 v105:=Tryz.zeroValue215
 t116:=Tryz.underlying184
 a116:=Tryz.isAgg184
 z116:=Tryz.sizeOf184
 t117:=Tryz.underlying185
 a117:=Tryz.isAgg185
 z117:=Tryz.sizeOf185
 v117:=Tryz.zeroValue185
 t119:=Tryz.underlying239
 a119:=Tryz.isAgg239
 z119:=Tryz.sizeOf239
 t124:=Tryz.underlying188
 a124:=Tryz.isAgg188
 z124:=Tryz.sizeOf188
 v124:=Tryz.zeroValue188
 t138:=Tryz.underlying241
 a138:=Tryz.isAgg241
 z138:=Tryz.sizeOf241
 v138:=Tryz.zeroValue241
 t139:=Tryz.underlying242
 a139:=Tryz.isAgg242
 z139:=Tryz.sizeOf242
 v139:=Tryz.zeroValue242
 g3:=by kernel_rfl
 g4:=by kernel_rfl }
def layMul_ren:Go.Shelf.Ren:=⟨fun |212=>134 |263=>164 |264=>165 |n=>n,fun |46=>159 |51=>191 |146=>192 |53=>194 |148=>195 |n=>n,fun |n=>n⟩
theorem layMul:Go.Proofs.Lays.n212 Tryz.prog layMul_ren:={
 mixed:=by kernel_rfl
 f212:=Tryz.func134.trans (congrArg some (by kernel_rfl))
 f263:=Tryz.func164.trans (congrArg some (by kernel_rfl))
 f264:=Tryz.func165.trans (congrArg some (by kernel_rfl))
 t46:=Tryz.underlying159
 a46:=Tryz.isAgg159
 z46:=Tryz.sizeOf159
 v46:=Tryz.zeroValue159
 t51:=Tryz.underlying191
 a51:=Tryz.isAgg191
 z51:=Tryz.sizeOf191
 v51:=Tryz.zeroValue191
 t53:=Tryz.underlying194
 a53:=Tryz.isAgg194
 z53:=Tryz.sizeOf194
 v53:=Tryz.zeroValue194
 t146:=Tryz.underlying192
 a146:=Tryz.isAgg192
 z146:=Tryz.sizeOf192
 v146:=Tryz.zeroValue192
 t148:=Tryz.underlying195
 a148:=Tryz.isAgg195
 z148:=Tryz.sizeOf195
 v148:=Tryz.zeroValue195 }
open Go.RowKit in
theorem trim_calls (w:World) (s:List UInt8) (hs:s.length≤maxLen):
  Calls Tryz.prog 129 #[.string ⟨s.toArray⟩, .string ⟨#[48,49]⟩] w fun e w'=>e= .returned (.string ⟨(Lib.trimS s [48,49]).toArray⟩)∧Fr [] w w':=by
 have hz:(⟨s.toArray⟩:ByteArray).size=s.length:=by simp [ByteArray.size]
 refine (Any.strings_Trim_laid layTrim (by kernel_rfl) ⟨s.toArray⟩ ⟨#[48,49]⟩ w (by rw [hz];unfold maxLen at hs;omega) (by decide) (ascii_of_all (by decide))).mono ?_
 rintro e w' ⟨rfl,hb⟩
 exact ⟨rfl,Fr.of_below hb⟩
open Go.RowKit in
theorem mul_calls (w:World) (x y:Nat) (hx:x<18446744073709551616) (hy:y<18446744073709551616):
  Calls Tryz.prog 134 #[.int .u64 x, .int .u64 y] w fun e w'=>e= .returned (.tuple #[.int .u64 ((x*y/18446744073709551616:Nat):Int), .int .u64 ((x*y%18446744073709551616:Nat):Int)])∧w'=w:=Any.bits_Mul layMul x y hx hy w
end Go.Proofs.YtjmmpfjcpdepjaaGreatDoor
namespace Go.Proofs.YtjmmpfjcpdepjaaGreatDoor
open Go.RowKit
theorem all_dw {α:Type} (p:α→Bool):∀l:List α,(l.dropWhile p).all p=l.all p
 |[]=>rfl
 |a::l=>by
  by_cases h:p a=true
  ·rw [List.dropWhile_cons_of_pos h,all_dw p l,List.all_cons,h,Bool.true_and]
  ·rw [List.dropWhile_cons_of_neg h]
theorem nil_dw {α:Type} (p:α→Bool):∀l:List α,(l.dropWhile p).isEmpty=l.all p
 |[]=>rfl
 |a::l=>by
  by_cases h:p a=true
  ·rw [List.dropWhile_cons_of_pos h,nil_dw p l,List.all_cons,h,Bool.true_and]
  ·rw [List.dropWhile_cons_of_neg h,List.all_cons,Bool.eq_false_iff.2 h]
   rfl
theorem trim_bits (s:List UInt8):(Lib.trimS s [48,49]).isEmpty=s.all Wp.bitOk:=by
 have e:(fun x:UInt8=>[48,49].contains x)=Wp.bitOk:=by
  funext x
  simp [Wp.bitOk,List.contains,List.elem]
  cases x==48<;>cases x==49<;>rfl
 unfold Lib.trimS Lib.trimLeftS Lib.trimRightS
 rw [e,nil_dw,List.all_reverse,all_dw,List.all_reverse]
def sv (s:List UInt8):Value:= .string ⟨s.toArray⟩
def StrR (w:World) (A:Option Addr) (c:Nat) (l:List (List UInt8)):Prop:=w.ownsRow 0 9 1 (.slice A l.length c) l.length (l.map sv)
theorem StrR.keep {w w':World} {A:Option Addr} {c:Nat} {l:List (List UInt8)} (h:StrR w A c l) (hf:Fr [] w w'):StrR w' A c l:=hf.own h (by simp)
def RdS (w:World) (A:Option Addr) (l:List (List UInt8)):Prop:=0<l.length→∃b o,A=some ⟨b,o,none⟩∧∀j:Nat,j<l.length→w.cell? ⟨b,o+j,none⟩=some (sv l[j]!)
theorem RdS.keep {w w':World} {A:Option Addr} {l:List (List UInt8)} (h:RdS w A l) (hf:Fr [] w w'):RdS w' A l:=fun h0=>by
 obtain ⟨b,o,hA,hc⟩:=h h0
 exact ⟨b,o,hA,fun j hj=>hf.cellS (hc j hj)⟩
theorem RdS.one {w:World} {A:Option Addr} {l:List (List UInt8)} (h:RdS w A l) {j:Nat} (hj:j<l.length):∃b o s,A=some ⟨b,o,none⟩∧Hid (l[j]! =s)∧w.cell? ⟨b,o+j,none⟩=some (.string ⟨s.toArray⟩):=by
 obtain ⟨b,o,hA,hc⟩:=h (by omega)
 exact ⟨b,o,l[j]!,hA,rfl,hc j hj⟩
theorem StrR.cell {w:World} {g c:Nat} {l:List (List UInt8)} (h:StrR w (some ⟨g,0,none⟩) c l) {j:Nat} (hj:j<l.length):w.cell? ⟨g,j,none⟩=some (sv l[j]!):=by
 rw [World.ownsRow.cellAt h j (by omega)]
 simp only [List.getElem?_map,List.getElem?_eq_getElem hj,Option.map_some,List.getElem!_eq_getElem?_getD,Option.getD_some]
theorem StrR.pos {w:World} {A:Option Addr} {c:Nat} {l:List (List UInt8)} (h:StrR w A c l) (h0:0<l.length):∃g,A=some ⟨g,0,none⟩:=by
 rcases h.2 with ⟨_,h2⟩ |⟨g,cap,cur,hv,_⟩
 ·omega
 ·simp only [Value.slice.injEq,true_and] at hv
  exact ⟨g,hv.1⟩
theorem StrR.rd {w:World} {A:Option Addr} {c:Nat} {l:List (List UInt8)} (h:StrR w A c l):RdS w A l:=fun h0=>by
 obtain ⟨g,rfl⟩:=h.pos h0
 exact ⟨g,0,rfl,fun j hj=>by rw [Nat.zero_add];exact h.cell hj⟩
theorem StrR.set_ {w:World} {g c:Nat} {l:List (List UInt8)} (h:StrR w (some ⟨g,0,none⟩) c l) (i:Nat) (x:List UInt8):StrR (w.setCell ⟨g,i,none⟩ (sv x)) (some ⟨g,0,none⟩) c (l.set i x):=by
 have :=(World.ownsRow.stored h i (sv x)).1
 unfold StrR
 rw [List.length_set,List.map_set]
 exact this
def BtR (w:World) (A:Option Addr) (c:Nat) (l:List UInt8):Prop:=w.ownsRow 0 5 1 (.slice A l.length c) l.length (Lib.byteCells l)
theorem BtR.keep {w w':World} {A:Option Addr} {c:Nat} {l:List UInt8} (h:BtR w A c l) (hf:Fr [] w w'):BtR w' A c l:=hf.own h (by simp)
theorem BtR.cell {w:World} {g c:Nat} {l:List UInt8} (h:BtR w (some ⟨g,0,none⟩) c l) {j:Nat} (hj:j<l.length):w.cell? ⟨g,j,none⟩=some (.int .u8 ((l[j]!).toNat:Int)):=by
 rw [World.ownsRow.cellAt h j (by omega)]
 simp [Lib.byteCells,List.getElem?_map,List.getElem?_eq_getElem hj]
theorem BtR.set_ {w:World} {g c:Nat} {l:List UInt8} (h:BtR w (some ⟨g,0,none⟩) c l) (i:Nat) (x:UInt8):BtR (w.setCell ⟨g,i,none⟩ (.int .u8 (x.toNat:Int))) (some ⟨g,0,none⟩) c (l.set i x):=by
 have :=(World.ownsRow.stored h i (.int .u8 (x.toNat:Int))).1
 unfold BtR Lib.byteCells at *
 rw [List.length_set,List.map_set]
 exact this
def RdB (w:World) (g:Nat) (l:List UInt8):Prop:=∀j:Nat,j<l.length→w.cell? ⟨g,j,none⟩=some (.int .u8 ((l[j]!).toNat:Int))
theorem RdB.keep {w w':World} {g:Nat} {l:List UInt8} (h:RdB w g l) (hf:Fr [] w w'):RdB w' g l:=fun j hj=>hf.cellS (h j hj)
theorem BtR.rd {w:World} {g c:Nat} {l:List UInt8} (h:BtR w (some ⟨g,0,none⟩) c l):RdB w g l:=fun j hj=>h.cell hj
theorem sub97 (c:UInt8):IntKind.u8.wrap (97-(c.toNat:Int))=(((97:UInt8)-c).toNat:Int):=by
 have h:=c.toNat_lt
 rw [UInt8.toNat_sub]
 have h97:(97:UInt8).toNat=97:=rfl
 rw [h97,IntKind.wrap_u8]
 omega
theorem sbits_calls (w:World) (s:List UInt8) (n:Nat) (hs:s.length≤maxLen) (hn:n≤17592186044416):
  Calls Tryz.prog 99 #[.string ⟨s.toArray⟩, .int .i64 n] w fun e w'=>e= .returned (.bool (Wp.bits s n))∧Fr [] w w':=by
 obtain ⟨r,hr⟩:∃r,Wp.bits s n=r:=⟨_,rfl⟩
 rw [hr]
 have HR:=Lib.hid hr
 have hsz:(⟨s.toArray⟩:ByteArray).size=s.length:=by simp [ByteArray.size]
 have KT:=Lib.hid (trim_calls w s hs)
 obtain ⟨z,hz⟩:∃z,Lib.trimS s [48,49]=z:=⟨_,rfl⟩
 rw [hz] at KT
 have HZ:=Lib.hid (trim_bits s)
 rw [hz] at HZ
 obtain ⟨b,hb⟩:∃b:ByteArray,⟨s.toArray⟩=b:=⟨_,rfl⟩
 obtain ⟨y,hy⟩:∃y:ByteArray,⟨z.toArray⟩=y:=⟨_,rfl⟩
 rw [hb] at KT hsz⊢
 rw [hy] at KT
 have HY:Hid (y.toList.isEmpty=s.all Wp.bitOk):=by
  show _=_
  rw [←HZ.out,←hy,Lib.toList_data]
 rw [maxLen] at hs
 clear hr hz hb hy HZ
 by_cases hl:s.length=n
 ·have d:((b.size:Int)==(n:Int))=true:=by rw [beq_iff_eq];omega
  have hre:r=y.toList.isEmpty:=by rw [HY.out,←HR.out];unfold Wp.bits;simp [hl]
  have HRE:=Lib.hid hre
  have hl2:(s.length:Int)=(n:Int):=by omega
  clear hre HR HY hl
  go_enter Tryz.func99,Tryz.ntmps99
  go_wp2_with fail
  refine KT.out.mono ?_
  rintro e w2 ⟨rfl,hf⟩
  have HF:=Lib.hid hf
  clear hf
  go_wp2_with fail
  go_ret
  exact ⟨by rw [HRE.out];rfl,HF.out⟩
 ·have d:((b.size:Int)==(n:Int))=false:=by rw [beq_eq_false_iff_ne];omega
  have hre:r=false:=by rw [←HR.out];unfold Wp.bits;simp [hl]
  subst hre
  have hl2:¬(s.length:Int)=(n:Int):=by omega
  clear HR HY
  go_enter Tryz.func99,Tryz.ntmps99
  go_wp2_with fail
  go_ret
  exact ⟨rfl,Fr.refl _ _⟩
theorem of_parts (v:List UInt8) (l:Int):∃c:UInt8,Hid (Wp.of v l=if l%2=1 then 97-c else c)∧Hid ((l/2).toNat<v.length→c=v[(l/2).toNat]!)∧Hid (¬(l/2).toNat<v.length→c=48):=
 ⟨if (l/2).toNat<v.length then v[(l/2).toNat]! else 48,rfl,fun h=>if_pos h,fun h=>if_neg h⟩
theorem sof_calls (w:World) (g c:Nat) (v:List UInt8) (l:Int) (hb:RdB w g v) (h0:0≤l) (h1:l≤9000) (hv:v.length≤4096):
  Calls Tryz.prog 106 #[.slice (some ⟨g,0,none⟩) v.length c, .int .i64 l] w fun e w'=>e= .returned (.int .u8 ((Wp.of v l).toNat:Int))∧w=w':=by
 obtain ⟨x,HX,HX1,HX2⟩:=of_parts v l
 rw [HX.out]
 obtain ⟨n,hn⟩:∃n:Nat,l/2=n:=⟨(l/2).toNat,by omega⟩
 have hnn:(l/2).toNat=n:=by omega
 rw [hnn] at HX1 HX2
 obtain ⟨q,hq⟩:∃q,(l%2==1)=q:=⟨_,rfl⟩
 have KV:=Lib.hid (fun W=>lvar_nn W l h0 (by omega))
 have KN:=Lib.hid (fun W=>lneg_nn W l h0 (by omega))
 rw [hn] at KV
 rw [hq] at KN
 have HQ:Hid ((if l%2=1 then 97-x else x)=if q=true then 97-x else x):=by
  show _=_
  rw [←hq]
  simp
 rw [HQ.out]
 have HS:=Lib.hid (sub97 x)
 clear hn hnn hq HX HQ
 by_cases hlt:n<v.length
 ·have hc:=hb n hlt
  rw [←HX1.out hlt] at hc
  clear hb HX1 HX2
  go_enter Tryz.func106,Tryz.ntmps106
  go_wp2_with fail
  refine (KV.out _).mono ?_
  rintro e w1 ⟨rfl,rfl⟩
  go_wp2_with fail
  refine (KN.out _).mono ?_
  rintro e w1 ⟨rfl,rfl⟩
  cases q with
  |true=>
   go_wp2_with fail
   go_ret
   exact ⟨by rw [←HS.out];rfl,rfl⟩
  |false=>
   go_wp2_with fail
   go_ret
   exact ⟨rfl,rfl⟩
 ·have hx:=HX2.out hlt
  subst hx
  clear hb HX1 HX2
  go_enter Tryz.func106,Tryz.ntmps106
  go_wp2_with fail
  refine (KV.out _).mono ?_
  rintro e w1 ⟨rfl,rfl⟩
  go_wp2_with fail
  refine (KN.out _).mono ?_
  rintro e w1 ⟨rfl,rfl⟩
  cases q with
  |true=>
   go_wp2_with fail
   go_ret
   exact ⟨rfl,rfl⟩
  |false=>
   go_wp2_with fail
   go_ret
   exact ⟨rfl,rfl⟩
theorem sset_calls (w:World) (g c:Nat) (v:List UInt8) (l:Int) (x:UInt8) (hb:BtR w (some ⟨g,0,none⟩) c v) (h0:0≤l) (h1:(l/2).toNat<v.length) (hv:v.length≤4096):
  Calls Tryz.prog 105 #[.slice (some ⟨g,0,none⟩) v.length c, .int .i64 l, .int .u8 (x.toNat:Int)] w fun e w'=>e= .returned (.tuple #[])∧BtR w' (some ⟨g,0,none⟩) c (v.set (l/2).toNat x)∧Fr [g] w w':=by
 obtain ⟨n,hn⟩:∃n:Nat,l/2=n:=⟨(l/2).toNat,by omega⟩
 have hnn:(l/2).toNat=n:=by omega
 rw [hnn] at h1⊢
 have KV:=Lib.hid (fun W=>lvar_nn W l h0 (by omega))
 rw [hn] at KV
 have HB:=Lib.hid hb
 have hc:=hb.cell h1
 have hfz:w.frozen? ⟨g,n,none⟩=false:=World.ownsRow.frozenAt hb n
 clear hn hnn hb
 go_enter Tryz.func105,Tryz.ntmps105
 go_wp2_with fail
 refine (KV.out _).mono ?_
 rintro e w1 ⟨rfl,rfl⟩
 go_wp2_with fail
 go_end0
 exact ⟨rfl,HB.out.set_ n x,(Fr.refl _ _).setCell (.inl (by simp)) _⟩
theorem infoByteW:(Tryz.prog.info? 5).map (fun i=>(i.zero,i.size,i.bytes))=some (some (.int .u8 0),1,1):=by kernel_rfl
theorem run_make_byte (W:World) (n:Nat) (h1:n≤1099511627776):
  (Instr.makeSlice 142 (.int .i64 (n:Int)) (.int .i64 (n:Int))).run Tryz.prog W= .ok (.slice (some ⟨W.heap.size,0,none⟩) n n) (W.alloc (.cells (madeCells #[.int .u8 0] n) 5)):=by
 obtain ⟨i0,hi,hz0,hz1,hz2⟩:=info_parts infoByteW
 have hr:=run_make (P:=Tryz.prog) W 142 5 i0 (.int .u8 0) Tryz.underlying142 hi hz0 .i64 .i64 n n (by omega) (Int.le_refl _) (by rw [hz2];omega) (by omega)
 simp only [Int.toNat_natCast] at hr⊢
 rw [hz1,Nat.mul_one] at hr
 exact hr
theorem szByteW:(Tryz.prog.info? 5).map (·.size)=some 1:=by kernel_rfl
def ZrAt (w:World) (g N n:Nat):Prop:=∃cur:List Value,w.heap[g]? =some (.cells cur.toArray 5 (0,0))∧cur.length=N∧∀j:Nat,j<n→cur[j]? =some (.int .u8 48)
theorem ZrAt.start (W:World) (N:Nat):ZrAt (W.alloc (.cells (madeCells #[.int .u8 0] N) 5)) W.heap.size N 0:=
 ⟨(madeCells #[.int .u8 0] N).toList,by rw [Array.toArray_toList];exact heap_alloc_new W _,by rw [toList_madeCells_one];simp,fun j hj=>absurd hj (Nat.not_lt_zero _)⟩
theorem ZrAt.row {w:World} {g N:Nat} (h:ZrAt w g N N) (hN:N≤4096):BtR w (some ⟨g,0,none⟩) N (List.replicate N 48):=by
 obtain ⟨cur,h1,h2,h3⟩:=h
 refine ⟨by simp [Lib.byteCells], .inr ⟨g,N,cur.toArray,by simp,Nat.zero_le _,h1,by simp,by unfold maxLen;omega,by simp [h2],?_⟩⟩
 refine List.ext_getElem? fun j=> ?_
 simp only [List.length_replicate,Nat.mul_one]
 rw [List.getElem?_take]
 by_cases hj:j<N
 ·rw [if_pos hj,h3 j hj]
  simp [Lib.byteCells,hj]
 ·rw [if_neg hj]
  simp [Lib.byteCells,hj]
theorem zr_splice {cur:List Value} {N n m:Nat} (hl:cur.length=N) (h:∀j:Nat,j<n→cur[j]? =some (.int .u8 48)) (hn:n≤N) (hm:n+m≤N):
  (splice cur n (List.replicate m (.int .u8 48))).length=N∧∀j:Nat,j<n+m→(splice cur n (List.replicate m (.int .u8 48)))[j]? =some (.int .u8 48):=by
 refine ⟨by rw [length_splice _ _ _ (by simp;omega),hl],fun j hj=> ?_⟩
 unfold splice
 by_cases h1:j<n
 ·rw [List.getElem?_append_left (by simp;omega),List.getElem?_take,if_pos h1]
  exact h j h1
 ·rw [List.getElem?_append_right (by simp;omega),List.getElem?_append_left (by simp;omega),List.getElem?_replicate,if_pos (by simp;omega)]
set_option maxRecDepth 100000 in
theorem repeat_calls (w:World) (b c N:Nat) (hc:w.cell? ⟨b,0,none⟩=some (.int .u8 48)) (h0:1≤N) (hN:N≤4096):
  Calls Tryz.prog 104 #[.slice (some ⟨b,0,none⟩) 1 c, .int .i64 (N:Int)] w fun e w'=>∃g,e= .returned (.slice (some ⟨g,0,none⟩) N N)∧BtR w' (some ⟨g,0,none⟩) N (List.replicate N 48)∧w.heap.size≤g∧Fr [] w w':=by
 have KM:Hid (∀W,Calls Tryz.prog 134 #[.int .u64 1, .int .u64 (N:Int)] W fun e w'=>e= .returned (.tuple #[.int .u64 0, .int .u64 (N:Int)])∧w'=W):=fun W=>by
  have :=mul_calls W 1 N (by decide) (by omega)
  rw [Nat.one_mul,Nat.div_eq_of_lt (by omega),Nat.mod_eq_of_lt (by omega)] at this
  exact this
 have HC:=Lib.hid hc
 have hmk:=run_make_byte w N (by omega)
 have HZ:=Lib.hid (ZrAt.start w N)
 obtain ⟨w1,hw1⟩:∃W,w.alloc (.cells (madeCells #[.int .u8 0] N) 5)=W:=⟨_,rfl⟩
 have HF1:Hid (Below w.heap.size w w1):=hw1▸(Below.refl _ w).alloc (Nat.le_refl _) _
 have hc1:w1.cell? ⟨b,0,none⟩=some (.int .u8 48):=(hw1▸(Fr.refl [] w).alloc _:Fr [] w w1).cellS hc
 rw [hw1] at hmk HZ
 obtain ⟨g,hg⟩:∃g,w.heap.size=g:=⟨_,rfl⟩
 rw [hg] at hmk HZ HF1⊢
 clear hc hw1
 go_enter Tryz.func104,Tryz.ntmps104
 go_wp2_with fail
 refine (KM.out _).mono ?_
 rintro e w2 ⟨rfl,rfl⟩
 obtain ⟨cur,hcur,hcl,hcz⟩:=HZ.out
 have hsp:=zr_splice (m:=1) hcl hcz (Nat.zero_le _) (by omega)
 have HSP:=Lib.hid hsp
 have HCL:=Lib.hid hcl
 clear hsp hcz HZ
 have hA1:[Value.int .u8 48].length=Nat.min 1 N:=(Nat.min_eq_left h0).symm
 have hA2:∀j v,[Value.int .u8 48][j]? =some v→w1.cell? ((Addr.mk b 0 none).add j)=some v:=fun j v hj=>by
  match j,hj with
  |0,hj=>simp at hj;subst hj;exact hc1
 have hA3:0+[Value.int .u8 48].length≤cur.length:=by have :=HCL.out;simp;omega
 have hA4:∀v∈[Value.int .u8 48],v.oneCell'=true:=by simp [Value.oneCell']
 have HA1:=Lib.hid hA1
 have HA2:=Lib.hid hA2
 have HA3:=Lib.hid hA3
 have HA4:=Lib.hid hA4
 clear hA1 hA2 hA3 hA4
 have HCU:=Lib.hid hcur
 clear hcur hcl
 go_wp2_with ((refine wpList_copy_splice rfl _ _ 142 142 rfl 5 Tryz.underlying142 szByteW (some ⟨g,0,none⟩) (some ⟨b,0,none⟩) N N 1 c rfl rfl g 0 cur 5 HCU.out [.int .u8 48] HA1.out (fun _=>⟨rfl,⟨b,0,none⟩,rfl,HA2.out⟩) HA3.out HA4.out g w2 HF1.out (Nat.le_refl _) ?_;intro w3 hg3 hb3))
 have HZ3:Hid (ZrAt w3 g N 1):=⟨_,hg3.out,HSP.out.1,HSP.out.2⟩
 have HB3:=Lib.hid hb3
 clear hg3 hb3 HSP HCU HCL hc1 hmk HF1 HC KM HA1 HA2 HA3 HA4
 go_wp2_with fail
 go_loopg [8] (N-1) (fun gk v wr=>∃n:Nat,n+gk=N∧v= .int .i64 n∧1≤n∧Hid (ZrAt wr g N n)∧Hid (Below g w2 wr))
 case atStart=>exact ⟨1,by omega,rfl,Nat.le_refl _,HZ3,HB3⟩
 case round=>
  clear HZ3 HB3
  obtain ⟨n,hk,rfl,hn1,HZ,HB⟩:=hrel
  have HK:=Lib.hid hk
  have hkn:n≤N:=by omega
  clear hk
  by_cases hlt:n<N
  ·obtain ⟨cur,hcur,hcl,hcz⟩:=HZ.out
   obtain ⟨m,hm⟩:∃m,Nat.min n (N-n)=m:=⟨_,rfl⟩
   have hm1:1≤m∧n+m≤N∧m≤n:=by
    rw [←hm]
    have :Nat.min n (N-n)=min n (N-n):=rfl
    omega
   have HSP:=Lib.hid (zr_splice (m:=m) hcl hcz hkn hm1.2.1)
   have HCZ:=Lib.hid hcz
   clear hcz HZ
   go_upto_region 9 with fail
   have hne:¬N=n:=by omega
   have hne2:¬n=N:=by omega
   have HR1:Hid ((List.replicate m (Value.int .u8 48)).length=Nat.min n (N-n)):=by
    show _=_
    rw [List.length_replicate,hm]
   have HR2:Hid (∀W:World,W.heap[g]? =some (.cells cur.toArray 5 (0,0))→∀j v,(List.replicate m (Value.int .u8 48))[j]? =some v→W.cell? ((Addr.mk g 0 none).add j)=some v):=fun W hW j v hj=>by
    obtain ⟨hj1,rfl⟩:j<m∧v= .int .u8 48:=by
     rw [List.getElem?_replicate] at hj
     split at hj
     ·exact ⟨by assumption,by cases hj;rfl⟩
     ·cases hj
    have e:(Addr.mk g 0 none).add j=⟨g,j,none⟩:=by rw [adr_add,Nat.zero_add]
    rw [e,Lib.cell_of_heap hW]
    simpa using HCZ.out j (by omega)
   have HR3:Hid (n+(List.replicate m (Value.int .u8 48)).length≤cur.length):=by
    show _≤_
    rw [List.length_replicate,hcl]
    exact hm1.2.1
   have HR4:Hid (∀v∈List.replicate m (Value.int .u8 48),v.oneCell'=true):=fun v hv=>by rw [List.eq_of_mem_replicate hv];rfl
   have HM:=Lib.hid hm1
   clear hm hcl HCZ hm1
   obtain ⟨rs,hrs⟩:∃rs,List.replicate m (Value.int .u8 48)=rs:=⟨_,rfl⟩
   have HRL:Hid (rs.length=m):=by
    show _=_
    rw [←hrs,List.length_replicate]
   rw [hrs] at HR1 HR2 HR3 HR4 HSP
   clear hrs
   refine wp_region_noPanic ?_
   refine wp_region_C (fun w':World=>w'.heap[g]? =some (.cells cur.toArray 5 (0,0))∧Below g w2 w') 7 (by kernel_rfl) (⟨hcur,HB.out.drew⟩) (fun hT0=> ?_)
   apply TB 7 [(0,[]),(1,[]),(2,[]),(3,[]),(4,[]),(5,[]),(6,[])];kernel_rfl;rfl;· (repeat (apply TBc;rfl;rfl;(· intro w hSw;go_simp<;>with_reducible rfl);try simp only [Act.put,q5,q6,q7]));exact TBn
   exact hT0;intro hT0
   refine R2 7 (by kernel_rfl) (by rfl) hT0 fun K hK hSx=> ?_
   (refine step_copy_splice rfl _ _ 142 142 rfl 5 Tryz.underlying142 szByteW (some ⟨g,n,none⟩) (some ⟨g,0,none⟩) (N-n) (N-n) n N rfl rfl g n cur 5 hSx.1 rs HR1.out (fun _=>⟨rfl,⟨g,0,none⟩,rfl,HR2.out _ hSx.1⟩) HR3.out HR4.out g w2 hSx.2 (Nat.le_refl _) ?_);intro w4 hg4 hb4
   refine hK.out _ _ (.inl rfl) (fun hT8=> ?_)
   clear hK K
   try simp only [Act.put,q5,q6,q7]
   apply TB 1 [(8,[])];kernel_rfl;rfl;· (repeat (apply TBc;rfl;rfl;(· intro w hSw;go_simp<;>with_reducible rfl);try simp only [Act.put,q5,q6,q7]));exact TBn
   exact hT8;intro hT8
   refine R1 (i:=9) (o:= ?or9u10) (by kernel_rfl) (by rfl) ?_
   intro K hK
   go_simp
   refine hK.out _ _ (.inl rfl) (fun hT10=> ?_)
   clear hK K
   try simp only [Act.put,q5,q6,q7]
   refine wpAnyC_done (by kernel_rfl) ?_ _
   refine NoPanic.normal ?_
   have HZ4:Hid (ZrAt w4 g N (n+m)):=⟨_,hg4.out,HSP.out.1,HSP.out.2⟩
   have HB4:=Lib.hid hb4
   have HMM:=HM.out
   try rw [HRL.out]
   clear hg4 hb4 hT0 HRL HSP HR1 HR2 HR3 HR4
   have hwr:IntKind.i64.wrap ((n:Int)+(m:Int))=(n:Int)+(m:Int):=IntWalk.i64_in _ (by omega)
   go_wp2_with fail
   go_roundg (gk-m)
   case measure=>have :=HK.out;omega
   case rel=>exact ⟨n+m,by have :=HK.out;omega,by go_num,by omega,HZ4,HB4⟩
  ·obtain rfl :n=N:=by omega
   go_wp2_with fail
   go_ret
   exact ⟨g,rfl,HZ.out.row hN,Nat.le_refl _,Fr.of_below (hg▸HB.out)⟩
theorem infoStrA:(Tryz.prog.info? 9).map (fun i=>(i.zero,i.size,i.bytes))=some (some (.string ⟨#[]⟩),1,16):=by kernel_rfl
theorem StrR.fr {S:List Nat} {w w':World} {A:Option Addr} {c:Nat} {l:List (List UInt8)} (h:StrR w A c l) (hf:Fr S w w') (hd:∀k,k∈blks A→k∉S):StrR w' A c l:=hf.own h (fun k hk=>hd k ((blks_own k).1 hk))
def AsksLM (w:World) (g:Nat) (p0:Value) (p:List Int→Bool) (hs:List Ls):Prop:=∀W,Fr [] w W→∀h,h∈hs→OkL W h→
 Calls Tryz.prog g #[p0,h.val] W fun e w'=>e= .returned (.bool (p h.l))∧Fr [] W w'
theorem index_listsM (w:World) (A:Option Addr) (c:Nat) (hs:List Ls) (g:Nat) (p0:Value) (p:List Int→Bool) (eg:∀args w,(callFunc g args).run Tryz.prog w= .ok (.enter g args) w) (h:RdL w A hs) (hl:hs.length≤17592186044416) (hp:AsksLM w g p0 p hs):
  Calls Tryz.prog 51 #[.slice A hs.length c, .func (.func g) #[p0] #[]] w (IxP (hs.any fun h=>p h.l) w):=by
 have HH:=Lib.hid h
 have HP:=Lib.hid hp
 have YES:Hid (∀(n:Nat) W,n≤17592186044416→(hs.any fun h=>p h.l)=true→Fr [] w W→IxP (hs.any fun h=>p h.l) w (.returned (.int .i64 (n:Int))) W):=fun n W h1 h2 h3=>⟨n,rfl,by omega,by omega,by rw [h2];exact decide_eq_true (by omega),h3⟩
 have NO:Hid (∀W,(hs.any fun h=>p h.l)=false→Fr [] w W→IxP (hs.any fun h=>p h.l) w (.returned (.int .i64 (-1))) W):=fun W h2 h3=>⟨-1,rfl,by omega,by omega,by rw [h2];rfl,h3⟩
 clear h hp
 go_enter Tryz.func51,Tryz.ntmps51
 go_wp2_with fail
 go_loopg [8] hs.length (fun g i wr=>∃k:Nat,k+g=hs.length∧i= .int .i64 k∧Fr [] w wr∧NoneTo hs (fun h=>p h.l) k)
 case atStart=>exact ⟨0,by omega,rfl,Fr.refl _ _,NoneTo.zero _ _⟩
 case round=>
  obtain ⟨k,hk,rfl,hx,hn⟩:=hrel
  have HK:=Lib.hid hk
  have HX:=Lib.hid hx
  have HN:=Lib.hid hn
  have hkn:k≤hs.length:=by omega
  clear hk hx hn
  by_cases hlt:k<hs.length
  ·obtain ⟨b,o,B,d,l,hA,he,cx,ok⟩:=(HH.out.keep HX.out).one hlt
   subst hA
   obtain ⟨q,HQ⟩:∃q,Hid (p l=q):=⟨_,rfl⟩
   have KC:=HP.out wr HX.out ⟨B,d,l⟩ (by rw [←he.out];exact mem_get hlt) ok
   have HC:Hid (Calls Tryz.prog g #[p0, .slice B l.length d] wr fun e w'=>e= .returned (.bool (p l))∧Fr [] wr w'):=KC
   clear ok KC
   go_wp2_with fail
   refine HC.out.mono ?_
   rw [HQ.out]
   rintro e w2 ⟨rfl,hf⟩
   have HF:=Lib.hid (HX.out.then_ hf)
   clear hf
   cases q with
   |true=>
    go_wp2_with fail
    go_ret
    exact YES.out k _ (by omega) (any_yes _ _ k hlt (by rw [he.out];exact HQ.out)) HF.out
   |false=>
    go_wp2_with fail
    go_roundg (gk-1)
    case measure=>have :=HK.out;omega
    case rel=>exact ⟨k+1,by have :=HK.out;omega,by go_num,HF.out,HN.out.step (by rw [he.out];exact HQ.out)⟩
  ·have HT:=Lib.hid (HN.out.all hlt)
   clear HN HK
   go_wp2_with fail
   go_ret
   exact NO.out _ HT.out HX.out
theorem contains_listsM (w:World) (A:Option Addr) (c:Nat) (hs:List Ls) (g:Nat) (p0:Value) (p:List Int→Bool) (eg:∀args w,(callFunc g args).run Tryz.prog w= .ok (.enter g args) w) (h:RdL w A hs) (hl:hs.length≤17592186044416) (hp:AsksLM w g p0 p hs):
  Calls Tryz.prog 24 #[.slice A hs.length c, .func (.func g) #[p0] #[]] w fun e w'=>e= .returned (.bool (hs.any fun h=>p h.l))∧Fr [] w w':=by
 have HC:=Lib.hid (index_listsM w A c hs g p0 p eg h hl hp)
 clear h hp
 go_enter Tryz.func24,Tryz.ntmps24
 go_wp2_with fail
 refine HC.out.mono ?_
 rintro e w2 ⟨n,rfl,h1,h2,h3,hf⟩
 have H3:=Lib.hid h3
 have HF:=Lib.hid hf
 clear h3 hf
 go_wp2_with fail
 go_ret
 exact ⟨by rw [←H3.out];rfl,HF.out⟩
def AsksS (w:World) (g:Nat) (cb:Array Value) (p:List UInt8→Bool) (hs:List (List UInt8)):Prop:=∀W,Fr [] w W→∀h,h∈hs→
 Calls Tryz.prog g (#[sv h]++cb) W fun e w'=>e= .returned (.bool (p h))∧Fr [] W w'
theorem index_texts (w:World) (A:Option Addr) (c:Nat) (hs:List (List UInt8)) (g:Nat) (cb:Array Value) (p:List UInt8→Bool) (eg:∀args w,(callFunc g args).run Tryz.prog w= .ok (.enter g args) w) (h:RdS w A hs) (hl:hs.length≤17592186044416) (hp:AsksS w g cb p hs):
  Calls Tryz.prog 130 #[.slice A hs.length c, .func (.func g) #[] cb] w (IxP (hs.any fun h=>p h) w):=by
 have HH:=Lib.hid h
 have HP:=Lib.hid hp
 have YES:Hid (∀(n:Nat) W,n≤17592186044416→(hs.any fun h=>p h)=true→Fr [] w W→IxP (hs.any fun h=>p h) w (.returned (.int .i64 (n:Int))) W):=fun n W h1 h2 h3=>⟨n,rfl,by omega,by omega,by rw [h2];exact decide_eq_true (by omega),h3⟩
 have NO:Hid (∀W,(hs.any fun h=>p h)=false→Fr [] w W→IxP (hs.any fun h=>p h) w (.returned (.int .i64 (-1))) W):=fun W h2 h3=>⟨-1,rfl,by omega,by omega,by rw [h2];rfl,h3⟩
 clear h hp
 go_enter Tryz.func130,Tryz.ntmps130
 go_wp2_with fail
 go_loopg [8] hs.length (fun g i wr=>∃k:Nat,k+g=hs.length∧i= .int .i64 k∧Fr [] w wr∧NoneTo hs (fun h=>p h) k)
 case atStart=>exact ⟨0,by omega,rfl,Fr.refl _ _,NoneTo.zero _ _⟩
 case round=>
  obtain ⟨k,hk,rfl,hx,hn⟩:=hrel
  have HK:=Lib.hid hk
  have HX:=Lib.hid hx
  have HN:=Lib.hid hn
  have hkn:k≤hs.length:=by omega
  clear hk hx hn
  by_cases hlt:k<hs.length
  ·obtain ⟨b,o,l,hA,he,cx⟩:=(HH.out.keep HX.out).one hlt
   subst hA
   obtain ⟨q,HQ⟩:∃q,Hid (p l=q):=⟨_,rfl⟩
   have KC:=HP.out wr HX.out l (by rw [←he.out];exact mem_get hlt)
   have HC:Hid (Calls Tryz.prog g (#[.string ⟨l.toArray⟩]++cb) wr fun e w'=>e= .returned (.bool (p l))∧Fr [] wr w'):=KC
   clear KC
   go_wp2_with fail
   refine HC.out.mono ?_
   rw [HQ.out]
   rintro e w2 ⟨rfl,hf⟩
   have HF:=Lib.hid (HX.out.then_ hf)
   clear hf
   cases q with
   |true=>
    go_wp2_with fail
    go_ret
    exact YES.out k _ (by omega) (any_yes _ _ k hlt (by rw [he.out];exact HQ.out)) HF.out
   |false=>
    go_wp2_with fail
    go_roundg (gk-1)
    case measure=>have :=HK.out;omega
    case rel=>exact ⟨k+1,by have :=HK.out;omega,by go_num,HF.out,HN.out.step (by rw [he.out];exact HQ.out)⟩
  ·have HT:=Lib.hid (HN.out.all hlt)
   clear HN HK
   go_wp2_with fail
   go_ret
   exact NO.out _ HT.out HX.out
theorem contains_texts (w:World) (A:Option Addr) (c:Nat) (hs:List (List UInt8)) (g:Nat) (cb:Array Value) (p:List UInt8→Bool) (eg:∀args w,(callFunc g args).run Tryz.prog w= .ok (.enter g args) w) (h:RdS w A hs) (hl:hs.length≤17592186044416) (hp:AsksS w g cb p hs):
  Calls Tryz.prog 100 #[.slice A hs.length c, .func (.func g) #[] cb] w fun e w'=>e= .returned (.bool (hs.any fun h=>p h))∧Fr [] w w':=by
 have HC:=Lib.hid (index_texts w A c hs g cb p eg h hl hp)
 clear h hp
 go_enter Tryz.func100,Tryz.ntmps100
 go_wp2_with fail
 refine HC.out.mono ?_
 rintro e w2 ⟨n,rfl,h1,h2,h3,hf⟩
 have H3:=Lib.hid h3
 have HF:=Lib.hid hf
 clear h3 hf
 go_wp2_with fail
 go_ret
 exact ⟨by rw [←H3.out];rfl,HF.out⟩
--A method value asked of each number.
def AsksM (w:World) (g:Nat) (p0:Value) (p:Int→Bool) (xs:List Int):Prop:=∀W,Fr [] w W→∀x,x∈xs→R64 x→
 Calls Tryz.prog g #[p0, .int .i64 x] W fun e w'=>e= .returned (.bool (p x))∧Fr [] W w'
theorem index_intsM (w:World) (A:Option Addr) (c:Nat) (xs:List Int) (g:Nat) (p0:Value) (p:Int→Bool) (eg:∀args w,(callFunc g args).run Tryz.prog w= .ok (.enter g args) w) (h:Rd w A xs) (hr:Ra xs) (hl:xs.length≤17592186044416) (hp:AsksM w g p0 p xs):
  Calls Tryz.prog 97 #[.slice A xs.length c, .func (.func g) #[p0] #[]] w (IxP (xs.any p) w):=by
 have HH:=Lib.hid h
 have HR:=Lib.hid hr
 have HP:=Lib.hid hp
 have YES:Hid (∀(n:Nat) W,n≤17592186044416→xs.any p=true→Fr [] w W→IxP (xs.any p) w (.returned (.int .i64 (n:Int))) W):=fun n W h1 h2 h3=>⟨n,rfl,by omega,by omega,by rw [h2];exact decide_eq_true (by omega),h3⟩
 have NO:Hid (∀W,xs.any p=false→Fr [] w W→IxP (xs.any p) w (.returned (.int .i64 (-1))) W):=fun W h2 h3=>⟨-1,rfl,by omega,by omega,by rw [h2];rfl,h3⟩
 clear h hr hp
 go_enter Tryz.func97,Tryz.ntmps97
 go_wp2_with fail
 go_loopg [8] xs.length (fun g i wr=>∃k:Nat,k+g=xs.length∧i= .int .i64 k∧Fr [] w wr∧NoneTo xs p k)
 case atStart=>exact ⟨0,by omega,rfl,Fr.refl _ _,NoneTo.zero _ _⟩
 case round=>
  obtain ⟨k,hk,rfl,hx,hn⟩:=hrel
  have HK:=Lib.hid hk
  have HX:=Lib.hid hx
  have HN:=Lib.hid hn
  have hkn:k≤xs.length:=by omega
  clear hk hx hn
  by_cases hlt:k<xs.length
  ·obtain ⟨b,o,x,hA,he,cx,hx1,hx2⟩:=(HH.out.keep HX.out).one HR.out hlt
   subst hA
   obtain ⟨q,HQ⟩:∃q,Hid (p x=q):=⟨_,rfl⟩
   have HC:=Lib.hid (HP.out wr HX.out x (by rw [←he.out];exact mem_get hlt) ⟨hx1,hx2⟩)
   go_wp2_with fail
   refine HC.out.mono ?_
   rw [HQ.out]
   rintro e w2 ⟨rfl,hf⟩
   have HF:=Lib.hid (HX.out.then_ hf)
   clear hf
   cases q with
   |true=>
    go_wp2_with fail
    go_ret
    exact YES.out k _ (by omega) (any_yes _ _ k hlt (by rw [he.out];exact HQ.out)) HF.out
   |false=>
    go_wp2_with fail
    go_roundg (gk-1)
    case measure=>have :=HK.out;omega
    case rel=>exact ⟨k+1,by have :=HK.out;omega,by go_num,HF.out,HN.out.step (by rw [he.out];exact HQ.out)⟩
  ·have HT:=Lib.hid (HN.out.all hlt)
   clear HN HK
   go_wp2_with fail
   go_ret
   exact NO.out _ HT.out HX.out
theorem contains_intsM (w:World) (A:Option Addr) (c:Nat) (xs:List Int) (g:Nat) (p0:Value) (p:Int→Bool) (eg:∀args w,(callFunc g args).run Tryz.prog w= .ok (.enter g args) w) (h:Rd w A xs) (hr:Ra xs) (hl:xs.length≤17592186044416) (hp:AsksM w g p0 p xs):
  Calls Tryz.prog 54 #[.slice A xs.length c, .func (.func g) #[p0] #[]] w fun e w'=>e= .returned (.bool (xs.any p))∧Fr [] w w':=by
 have HC:=Lib.hid (index_intsM w A c xs g p0 p eg h hr hl hp)
 clear h hr hp
 go_enter Tryz.func54,Tryz.ntmps54
 go_wp2_with fail
 refine HC.out.mono ?_
 rintro e w2 ⟨n,rfl,h1,h2,h3,hf⟩
 have H3:=Lib.hid h3
 have HF:=Lib.hid hf
 clear h3 hf
 go_wp2_with fail
 go_ret
 exact ⟨by rw [←H3.out];rfl,HF.out⟩
theorem ccheck_ok (w:World) (H:Hd) (C:Pc) (h:CiAt w H C) (hv:Valid C):
  Calls Tryz.prog 23 #[cval H C] w fun e w'=>e= .returned (.int .i64 0)∧Fr [] w w':=(check_calls w H C h).mono fun e w' ⟨h1,h2⟩=>by
 rcases h1 with ⟨h3,_⟩ |⟨_,h3⟩
 ·exact ⟨h3,h2⟩
 ·exact absurd hv h3
theorem valid_ins {C:Pc} (h:Valid C) (j:Nat) (hj:j<C.ins.length):2≤C.ins[j]! ∧C.ins[j]! ≤2*C.mx:=by
 have :=valid_own h C.ins[j]! (by
  rw [List.getElem!_eq_getElem?_getD,List.getElem?_eq_getElem hj]
  simp only [ownL,List.mem_append,Option.getD_some]
  exact .inl (.inl (List.getElem_mem hj)))
 omega
theorem valid_ands {C:Pc} (h:Valid C) (j:Nat) (hj:j<C.ands.length):2≤(C.ands[j]!).a∧(C.ands[j]!).a≤2*C.mx∧0≤(C.ands[j]!).b∧(C.ands[j]!).b≤2*C.mx+1∧0≤(C.ands[j]!).c∧(C.ands[j]!).c≤2*C.mx+1:=by
 have h1:=valid_own h (C.ands[j]!).a (by
  rw [List.getElem!_eq_getElem?_getD,List.getElem?_eq_getElem hj]
  simp only [ownL,List.mem_append,List.mem_map,Option.getD_some]
  exact .inr ⟨_,List.getElem_mem hj,rfl⟩)
 have h2:=h.ands j hj
 unfold andB at h2
 simp only [Bool.and_eq_true] at h2
 have h3:=valid_lit h h2.1.2
 have h4:=valid_lit h h2.2
 omega
theorem sv_get {s:List UInt8} {Z:ByteArray} (hz:(⟨s.toArray⟩:ByteArray)=Z) (k:Nat) (h:k<Z.size):((Z[k]).toNat:Int)=((s[k]!).toNat:Int):=by
 subst hz
 have hk:k<s.length:=by simpa [ByteArray.size] using h
 have e:(⟨s.toArray⟩:ByteArray)[k]=s[k]'hk:=rfl
 rw [e,List.getElem!_eq_getElem?_getD,List.getElem?_eq_getElem hk]
 rfl
theorem sv_size {s:List UInt8} {Z:ByteArray} (hz:(⟨s.toArray⟩:ByteArray)=Z):Z.size=s.length:=by
 subst hz
 simp [ByteArray.size]
theorem min_mn (a b:UInt8):min (a.toNat:Int) (b.toNat:Int)=((Wp.mn a b).toNat:Int):=by
 unfold Wp.mn
 split<;>omega
structure Vx (w wr:World) (H:Hd) (C:Pc) (g c:Nat) (v:List UInt8):Prop where
 fr:Fr [] w wr
 bx:At wr w.heap.size 27 (cvs H C)
 row:BtR wr (some ⟨g,0,none⟩) c v
 new:w.heap.size<g
theorem Vx.keep {w wr wr':World} {H:Hd} {C:Pc} {g c:Nat} {v:List UInt8} (h:Vx w wr H C g c v) (hf:Fr [] wr wr'):Vx w wr' H C g c v:=⟨h.fr.then_ hf,hf.at_ h.bx (by simp),h.row.keep hf,h.new⟩
theorem Vx.put {w wr wr':World} {H:Hd} {C:Pc} {g c:Nat} {v v':List UInt8} (h:Vx w wr H C g c v) (hf:Fr [g] wr wr') (hr:BtR wr' (some ⟨g,0,none⟩) c v'):Vx w wr' H C g c v':=
 ⟨h.fr.trans hf (fun x hx=> .inr (by have :=h.new;simp at hx;omega)),hf.at_ h.bx (by have :=h.new;simp;omega),hr,h.new⟩
theorem Vx.cells {w wr:World} {H:Hd} {C:Pc} {g c:Nat} {v:List UInt8} (h:Vx w wr H C g c v):wr.cell? ⟨w.heap.size,0,none⟩=some (.int .i64 C.mx)∧wr.cell? ⟨w.heap.size,1,none⟩=some (.slice H.iA C.ins.length H.iC)∧wr.cell? ⟨w.heap.size,2,none⟩=some (.slice H.lA C.lat.length H.lC)∧wr.cell? ⟨w.heap.size,6,none⟩=some (.slice H.gA C.ands.length H.gC):=by
 refine ⟨?_,?_,?_,?_⟩<;>(rw [h.bx.cell];rfl)
set_option maxRecDepth 100000 in
theorem svalues_calls (w:World) (H:Hd) (C:Pc) (h:CiAt w H C) (hv:Valid C) (st inp:List UInt8) (hst:Wp.bits st C.lat.length=true) (hin:Wp.bits inp C.ins.length=true):
  Calls Tryz.prog 63 #[cval H C,sv st,sv inp] w fun e w'=>e= .returned (.tuple #[sv (Wp.val C st inp), .int .i64 0])∧Fr [] w w':=by
 have HX:=Lib.hid (Cx.start w H C)
 have hi64:=hv.i
 have hl64:=hv.l
 have hsl:=Wp.bits_len hst
 have hil:=Wp.bits_len hin
 have KC:=Lib.hid (fun W (hW:Fr [] w W)=>ccheck_ok W H C (h.keep hW) hv)
 have KB1:=Lib.hid (fun W=>sbits_calls W st C.lat.length (by unfold maxLen;omega) (by omega))
 have KB2:=Lib.hid (fun W=>sbits_calls W inp C.ins.length (by unfold maxLen;omega) (by omega))
 rw [hst] at KB1
 rw [hin] at KB2
 obtain ⟨M,hM⟩:∃M:Nat,C.mx=M:=⟨C.mx.toNat,by have :=hv.m0;omega⟩
 have hM2:M≤2048:=by have :=hv.m1;omega
 have HZL:Hid ((Wp.zr C).length=M+1):=by
  show _=_
  rw [Wp.zr_len C hv.m0];omega
 have HZR:Hid (List.replicate (M+1) 48=Wp.zr C):=by
  show _=_
  unfold Wp.zr
  rw [show (C.mx+1).toNat=M+1 by omega]
 have KRP:=Lib.hid (fun W b c hc=>repeat_calls W b c (M+1) hc (by omega) (by omega))
 rw [HZR.out] at KRP
 rw [show ((M+1:Nat):Int)=(M:Int)+1 by omega] at KRP
 have KIN:=Lib.hid (fun W (hW:Fr [] w W) k (hk:k<C.ins.length)=>(h.keep hW).i.one (h.keep hW).ir hk)
 have KLT:=Lib.hid (fun W (hW:Fr [] w W) k (hk:k<C.lat.length)=>(h.keep hW).l.one (h.keep hW).lr hk)
 have KGT:=Lib.hid (fun W (hW:Fr [] w W) k (hk:k<C.ands.length)=>(h.keep hW).g.one (h.keep hW).gr hk)
 have HRI:=Lib.hid (fun k (hk:k<C.ins.length)=>valid_ins hv k hk)
 have HRL:=Lib.hid (fun k (hk:k<C.lat.length)=>valid_lat hv k hk)
 have HRG:=Lib.hid (fun k (hk:k<C.ands.length)=>valid_ands hv k hk)
 rw [hM] at HRI HRL HRG
 have KSET:Hid (∀(W:World) (g:Nat) (v:List UInt8) (l:Int) (x:UInt8),BtR W (some ⟨g,0,none⟩) (M+1) v→v.length=M+1→0≤l→l≤2*(M:Int)+1→Calls Tryz.prog 105 #[.slice (some ⟨g,0,none⟩) (M+1) (M+1), .int .i64 l, .int .u8 (x.toNat:Int)] W fun e w'=>e= .returned (.tuple #[])∧BtR w' (some ⟨g,0,none⟩) (M+1) (v.set (l/2).toNat x)∧Fr [g] W w'):=fun W g v l x hb hl h0 h1=>by
  have :=sset_calls W g (M+1) v l x hb h0 (by omega) (by omega)
  rw [hl] at this
  exact this
 have KOF:Hid (∀(W:World) (g:Nat) (v:List UInt8) (l:Int),BtR W (some ⟨g,0,none⟩) (M+1) v→v.length=M+1→0≤l→l≤2*(M:Int)+1→Calls Tryz.prog 106 #[.slice (some ⟨g,0,none⟩) (M+1) (M+1), .int .i64 l] W fun e w'=>e= .returned (.int .u8 ((Wp.of v l).toNat:Int))∧W=w'):=fun W g v l hb hl h0 h1=>by
  have :=sof_calls W g (M+1) v l hb.rd h0 (by omega) (by omega)
  rw [hl] at this
  exact this
 have KCV:Hid (∀(W:World) (g:Nat) (v:List UInt8),BtR W (some ⟨g,0,none⟩) (M+1) v→v.length=M+1→(convert 143 9 (.slice (some ⟨g,0,none⟩) (M+1) (M+1))).run Tryz.prog W= .ok (sv v) W):=fun W g v hb hl=>by
  have :=run_convert_bytes_back (P:=Tryz.prog) W 143 9 5 ⟨g,0,none⟩ (M+1) v Tryz.underlying143 Tryz.underlying5 Tryz.underlying9 (fun j hj=>by
   have :=hb.cell hj
   rw [List.getElem!_eq_getElem?_getD,List.getElem?_eq_getElem hj,Option.getD_some] at this
   rw [addr_add]
   simpa using this)
  rw [hl] at this
  exact this
 obtain ⟨VAL,hVAL⟩:∃VAL,Wp.val C st inp=VAL:=⟨_,rfl⟩
 rw [hVAL]
 have HVAL:Hid (Wp.gt C.ands (Wp.lat C.lat st (Wp.ins C.ins inp (Wp.zr C) C.ins.length) C.lat.length) C.ands.length=VAL):=hVAL
 obtain ⟨ZR,hZR⟩:∃ZR,Wp.zr C=ZR:=⟨_,rfl⟩
 rw [hZR] at HZL HZR KRP HVAL
 have HLI:Hid (∀k,(Wp.ins C.ins inp ZR k).length=M+1):=fun k=>by rw [Wp.ins_len];exact HZL.out
 obtain ⟨VI,hVI⟩:∃VI,Wp.ins C.ins inp ZR=VI:=⟨_,rfl⟩
 have HVI:Hid (VI 0=ZR∧∀k x,C.ins[k]! =x→VI (k+1)=(VI k).set (x/2).toNat inp[k]!):=by
  refine ⟨by rw [←hVI];rfl,fun k x hx=> ?_⟩
  rw [←hVI,Wp.ins,hx]
 rw [hVI] at HLI HVAL
 have HLL:Hid (∀k,(Wp.lat C.lat st (VI C.ins.length) k).length=M+1):=fun k=>by rw [Wp.lat_len];exact HLI.out _
 obtain ⟨VL,hVL⟩:∃VL,Wp.lat C.lat st (VI C.ins.length)=VL:=⟨_,rfl⟩
 have HVL:Hid (VL 0=VI C.ins.length∧∀k x y z,C.lat[k]! =⟨x,y,z⟩→VL (k+1)=(VL k).set (x/2).toNat st[k]!):=by
  refine ⟨by rw [←hVL];rfl,fun k x y z hx=> ?_⟩
  rw [←hVL,Wp.lat,hx]
 rw [hVL] at HLL HVAL
 have HLG:Hid (∀k,(Wp.gt C.ands (VL C.lat.length) k).length=M+1):=fun k=>by rw [Wp.gt_len];exact HLL.out _
 obtain ⟨VG,hVG⟩:∃VG,Wp.gt C.ands (VL C.lat.length)=VG:=⟨_,rfl⟩
 have HVG:Hid (VG 0=VL C.lat.length∧∀k x y z,C.ands[k]! =⟨x,y,z⟩→VG (k+1)=(VG k).set (x/2).toNat (Wp.mn (Wp.of (VG k) y) (Wp.of (VG k) z))):=by
  refine ⟨by rw [←hVG];rfl,fun k x y z hx=> ?_⟩
  rw [←hVG,Wp.gt,hx]
 rw [hVG] at HLG HVAL
 obtain ⟨Z1,hZ1⟩:∃Z1:ByteArray,(⟨st.toArray⟩:ByteArray)=Z1:=⟨_,rfl⟩
 obtain ⟨Z2,hZ2⟩:∃Z2:ByteArray,(⟨inp.toArray⟩:ByteArray)=Z2:=⟨_,rfl⟩
 have hz1:=sv_size hZ1
 have hz2:=sv_size hZ2
 have HG1:=Lib.hid (fun k h=>sv_get hZ1 k h)
 have HG2:=Lib.hid (fun k h=>sv_get hZ2 k h)
 obtain ⟨ZV,hZV⟩:∃ZV:ByteArray,(⟨VAL.toArray⟩:ByteArray)=ZV:=⟨_,rfl⟩
 unfold sv
 rw [hZ1,hZ2,hZV]
 have HZV:=Lib.hid hZV
 have hga:=h.gL
 rw [hZ1] at KB1
 rw [hZ2] at KB2
 have hz1l:Z1.size=C.lat.length:=by omega
 have hz2l:Z2.size=C.ins.length:=by omega
 clear h hv hst hin hsl hil hVAL hZR hVI hVL hVG hZ1 hZ2 hZV hz1 hz2 HZR
 obtain ⟨mx,ins,lat,outs,bads,invs,ands,nms⟩:=C
 obtain ⟨iA,iC,lA,lC,oA,oC,bA,bC,vA,vC,gA,gC,nA,nC⟩:=H
 simp only [cval,cvs] at *
 obtain ⟨c0,c1,c2,c3,c4,c5,c6,c7⟩:=HX.out.cells
 try simp only at c0 c1 c2 c3 c4 c5 c6 c7
 try simp only at hM hz1l hz2l
 subst hM
 go_enter Tryz.func63,Tryz.ntmps63
 go_wp2_with fail
 refine (KC.out _ HX.out.fr).mono ?_
 rintro e w1 ⟨rfl,hf1⟩
 have HX1:=Lib.hid (HX.out.keep hf1)
 obtain ⟨e0,e1,e2,e3,e4,e5,e6,e7⟩:=HX1.out.cells
 try simp only at e0 e1 e2 e3 e4 e5 e6 e7
 clear hf1 c0 c1 c2 c3 c4 c5 c6 c7 KC HX
 go_wp2_with fail
 refine (KB1.out _).mono ?_
 rintro e w2 ⟨rfl,hf2⟩
 have HX2:=Lib.hid (HX1.out.keep hf2)
 clear hf2 e0 e1 e2 e3 e4 e5 e6 e7 KB1 HX1
 obtain ⟨e0,e1,e2,e3,e4,e5,e6,e7⟩:=HX2.out.cells
 try simp only at e0 e1 e2 e3 e4 e5 e6 e7
 go_wp2_with fail
 refine (KB2.out _).mono ?_
 rintro e w3 ⟨rfl,hf3⟩
 have HX3:=Lib.hid (HX2.out.keep hf3)
 clear hf3 e0 e1 e2 e3 e4 e5 e6 e7 KB2 HX2
 obtain ⟨wb,hwb⟩:∃W,w3.alloc (.cells #[.int .u8 48] 5)=W:=⟨_,rfl⟩
 have HXB:Hid (Cx w wb ⟨iA,iC,lA,lC,oA,oC,bA,bC,vA,vC,gA,gC,nA,nC⟩ ⟨(M:Int),ins,lat,outs,bads,invs,ands,nms⟩):=HX3.out.keep (hwb▸box_fr' _ _)
 have KRP1:Hid (Calls Tryz.prog 104 #[.slice (some ⟨w3.heap.size,0,none⟩) 1 1, .int .i64 ((M:Int)+1)] wb fun e w'=>∃g,e= .returned (.slice (some ⟨g,0,none⟩) (M+1) (M+1))∧BtR w' (some ⟨g,0,none⟩) (M+1) ZR∧wb.heap.size≤g∧Fr [] wb w'):=KRP.out wb w3.heap.size 1 (by rw [←hwb];exact (At.new w3 5 #[.int .u8 48]).cell 0)
 clear KRP
 obtain ⟨e0,e1,e2,e3,e4,e5,e6,e7⟩:=HXB.out.cells
 try simp only at e0 e1 e2 e3 e4 e5 e6 e7
 have hwm:IntKind.i64.wrap ((M:Int)+1)=(M:Int)+1:=IntWalk.i64_in _ (by omega)
 go_wp2_with fail
 refine KRP1.out.mono ?_
 clear KRP1 e0 e1 e2 e3 e4 e5 e6 e7
 rintro e w4 ⟨g,rfl,hr4,hg4,hf4⟩
 have HV4:Hid (Vx w w4 ⟨iA,iC,lA,lC,oA,oC,bA,bC,vA,vC,gA,gC,nA,nC⟩ ⟨(M:Int),ins,lat,outs,bads,invs,ands,nms⟩ g (M+1) (VI 0)):=by
  show Vx _ _ _ _ _ _ _
  rw [HVI.out.1]
  have :=HXB.out.fr.size
  exact ⟨HXB.out.fr.then_ hf4,hf4.at_ HXB.out.bx (by simp),hr4,by have :=HXB.out.bx.lt;omega⟩
 clear hr4 hg4 hf4 HXB hwb
 obtain ⟨e0,e1,e2,e6⟩:=HV4.out.cells
 try simp only at e0 e1 e2 e6
 go_wp2_with fail
 clear e0 e1 e2 e6
 go_loopg [43] ins.length (fun gg x43 wr=>∃k:Nat,k+gg=ins.length∧x43= .int .i64 k∧Hid (Vx w wr ⟨iA,iC,lA,lC,oA,oC,bA,bC,vA,vC,gA,gC,nA,nC⟩ ⟨(M:Int),ins,lat,outs,bads,invs,ands,nms⟩ g (M+1) (VI k)))
 case atStart=>exact ⟨0,by omega,rfl,HV4⟩
 case round=>
  clear HV4
  obtain ⟨k,hk,rfl,HV⟩:=hrel
  have HK:=Lib.hid hk
  have hkn:k≤ins.length:=by omega
  clear hk
  by_cases hlt:k<ins.length
  ·have hlt2:(k:Int)<(ins.length:Int):=by omega
   obtain ⟨ab,o,x,hA,he,cx,hx1,hx2⟩:=KIN.out wr HV.out.fr k hlt
   try simp only at hA cx
   subst hA
   have hxr:=HRI.out k hlt
   try simp only at hxr
   rw [he.out] at hxr
   have hkz:k<Z2.size:=by omega
   obtain ⟨y,hy⟩:∃y,((Z2[k]).toNat:Int)=y:=⟨_,rfl⟩
   have KS:=KSET.out wr g (VI k) x inp[k]! HV.out.row (HLI.out k) (by omega) (by omega)
   rw [←HG2.out k hkz,hy,←HVI.out.2 k x he.out] at KS
   have KS:=Lib.hid KS
   clear he hx1 hx2 hxr
   go_wp2_with fail
   refine KS.out.mono ?_
   clear KS
   rintro e w5 ⟨rfl,hr5,hf5⟩
   have HV5:=Lib.hid (HV.out.put hf5 hr5)
   clear hr5 hf5 cx
   go_wp2_with fail
   go_roundg (gk-1)
   case measure=>have :=HK.out;omega
   case rel=>exact ⟨k+1,by have :=HK.out;omega,by go_num,HV5⟩
  ·obtain rfl :k=ins.length:=by omega
   have HW4:Hid (Vx w wr ⟨iA,iC,lA,lC,oA,oC,bA,bC,vA,vC,gA,gC,nA,nC⟩ ⟨(M:Int),ins,lat,outs,bads,invs,ands,nms⟩ g (M+1) (VL 0)):=by
    show Vx _ _ _ _ _ _ _
    rw [HVL.out.1]
    exact HV.out
   clear HK HV
   obtain ⟨e0,e1,e2,e6⟩:=HW4.out.cells
   try simp only at e0 e1 e2 e6
   obtain ⟨wo,rfl⟩:∃x,x=wr:=⟨_,rfl⟩
   go_wp2_with fail
   clear e0 e1 e2 e6
   go_loopg [58] lat.length (fun gg x58 wr=>∃k:Nat,k+gg=lat.length∧x58= .int .i64 k∧Hid (Vx w wr ⟨iA,iC,lA,lC,oA,oC,bA,bC,vA,vC,gA,gC,nA,nC⟩ ⟨(M:Int),ins,lat,outs,bads,invs,ands,nms⟩ g (M+1) (VL k)))
   case atStart=>exact ⟨0,by omega,rfl,HW4⟩
   case round=>
    clear HW4
    obtain ⟨k,hk,rfl,HV⟩:=hrel
    have HK:=Lib.hid hk
    have hkn:k≤lat.length:=by omega
    clear hk
    by_cases hlt:k<lat.length
    ·have hlt2:(k:Int)<(lat.length:Int):=by omega
     obtain ⟨ab,o,x,y,z,hA,he,cx,cy,cz,hx1,hx2,hx3⟩:=KLT.out wr HV.out.fr k hlt
     try simp only at hA cx cy cz
     subst hA
     have hxr:=HRL.out k hlt
     try simp only at hxr
     rw [he.out] at hxr
     try simp only at hxr
     have hkz:k<Z1.size:=by omega
     obtain ⟨u,hu⟩:∃u,((Z1[k]).toNat:Int)=u:=⟨_,rfl⟩
     obtain ⟨wx,hwx⟩:∃W,wr.alloc (.cells #[.int .i64 x, .int .i64 y, .int .i64 z] 63)=W:=⟨_,rfl⟩
     have HRX:Hid (At wx wr.heap.size 63 #[.int .i64 x, .int .i64 y, .int .i64 z]):=hwx▸At.new _ _ _
     have HVX:=Lib.hid (HV.out.keep (hwx▸box_fr' _ _))
     have KS:Hid (∀W,Fr [] wx W→Calls Tryz.prog 105 #[.slice (some ⟨g,0,none⟩) (M+1) (M+1), .int .i64 x, .int .u8 u] W fun e w'=>e= .returned (.tuple #[])∧BtR w' (some ⟨g,0,none⟩) (M+1) (VL (k+1))∧Fr [g] W w'):=fun W hW=>by
      have KS:=KSET.out W g (VL k) x st[k]! (HVX.out.keep hW).row (HLL.out k) (by omega) (by omega)
      rw [←HG1.out k hkz,hu,←HVL.out.2 k x y z he.out] at KS
      exact KS
     clear he hx1 hx2 hx3 hxr HV
     go_upto_region 15 with fail
     try rw [hwx]
     clear hwx
     refine wp_region_noPanic ?_
     refine wp_region_C (fun w':World=>Fr [] wx w') 6 (by kernel_rfl) ((Fr.refl _ wx).drew) (fun hT0=> ?_)
     apply TB 6 [(0,[]),(1,[]),(2,[2,6]),(3,[]),(4,[]),(5,[])];kernel_rfl;rfl;· (repeat (apply TBc;rfl;rfl;(· intro w hSw;(try (have hSw:=hSw.resolve_left (List.cons_ne_nil _ _);(have s0:=hSw.cellS (HRX.out.cell 0);simp at s0)));go_simp<;>with_reducible rfl);try simp only [Act.put,q5,q6,q7]));exact TBn
     exact hT0;intro hT0
     refine R2 6 (by kernel_rfl) (by rfl) hT0 fun K hK hSx=> ?_
     (go_simp;refine (KS.out _ hSx).mono ?_;rintro e w5 ⟨rfl,hr5,hf5⟩;dsimp only)
     refine hK.out _ _ (.inl rfl) (fun hT7=> ?_)
     clear hK K
     try simp only [Act.put,q5,q6,q7]
     refine wpAnyC_done (by kernel_rfl) ?_ _
     refine NoPanic.normal ?_
     have HV5:=Lib.hid ((HVX.out.keep hSx).put hf5 hr5)
     clear hr5 hf5 hSx
     go_wp2_with fail
     go_roundg (gk-1)
     case measure=>have :=HK.out;omega
     case rel=>exact ⟨k+1,by have :=HK.out;omega,by go_num,HV5⟩
    ·obtain rfl :k=lat.length:=by omega
     have HW5:Hid (Vx w wr ⟨iA,iC,lA,lC,oA,oC,bA,bC,vA,vC,gA,gC,nA,nC⟩ ⟨(M:Int),ins,lat,outs,bads,invs,ands,nms⟩ g (M+1) (VG 0)):=by
      show Vx _ _ _ _ _ _ _
      rw [HVG.out.1]
      exact HV.out
     clear HK HV
     obtain ⟨e0,e1,e2,e6⟩:=HW5.out.cells
     try simp only at e0 e1 e2 e6
     obtain ⟨wp,rfl⟩:∃x,x=wr:=⟨_,rfl⟩
     go_wp2_with fail
     clear e0 e1 e2 e6
     go_loopg [74] ands.length (fun gg x74 wr=>∃k:Nat,k+gg=ands.length∧x74= .int .i64 k∧Hid (Vx w wr ⟨iA,iC,lA,lC,oA,oC,bA,bC,vA,vC,gA,gC,nA,nC⟩ ⟨(M:Int),ins,lat,outs,bads,invs,ands,nms⟩ g (M+1) (VG k)))
     case atStart=>exact ⟨0,by omega,rfl,HW5⟩
     case round=>
      clear HW5
      obtain ⟨k,hk,rfl,HV⟩:=hrel
      have HK:=Lib.hid hk
      have hkn:k≤ands.length:=by omega
      clear hk
      by_cases hlt:k<ands.length
      ·have hlt2:(k:Int)<(ands.length:Int):=by omega
       obtain ⟨ab,o,x,y,z,hA,he,cx,cy,cz,hx1,hx2,hx3⟩:=KGT.out wr HV.out.fr k hlt
       try simp only at hA cx cy cz
       subst hA
       have hxr:=HRG.out k hlt
       try simp only at hxr
       rw [he.out] at hxr
       try simp only at hxr
       obtain ⟨wx,hwx⟩:∃W,wr.alloc (.cells #[.int .i64 x, .int .i64 y, .int .i64 z] 93)=W:=⟨_,rfl⟩
       have HRX:Hid (At wx wr.heap.size 93 #[.int .i64 x, .int .i64 y, .int .i64 z]):=hwx▸At.new _ _ _
       have HVX:=Lib.hid (HV.out.keep (hwx▸box_fr' _ _))
       obtain ⟨a1,ha1⟩:∃a,Wp.of (VG k) y=a:=⟨_,rfl⟩
       obtain ⟨a2,ha2⟩:∃a,Wp.of (VG k) z=a:=⟨_,rfl⟩
       have K1:Hid (∀W,Fr [] wx W→Calls Tryz.prog 106 #[.slice (some ⟨g,0,none⟩) (M+1) (M+1), .int .i64 y] W fun e w'=>e= .returned (.int .u8 (a1.toNat:Int))∧W=w'):=fun W hW=>ha1▸KOF.out W g (VG k) y (HVX.out.keep hW).row (HLG.out k) (by omega) (by omega)
       have K2:Hid (∀W,Fr [] wx W→Calls Tryz.prog 106 #[.slice (some ⟨g,0,none⟩) (M+1) (M+1), .int .i64 z] W fun e w'=>e= .returned (.int .u8 (a2.toNat:Int))∧W=w'):=fun W hW=>ha2▸KOF.out W g (VG k) z (HVX.out.keep hW).row (HLG.out k) (by omega) (by omega)
       have hmn:=min_mn a1 a2
       have KS:Hid (∀W,Fr [] wx W→Calls Tryz.prog 105 #[.slice (some ⟨g,0,none⟩) (M+1) (M+1), .int .i64 x, .int .u8 (min (a1.toNat:Int) (a2.toNat:Int))] W fun e w'=>e= .returned (.tuple #[])∧BtR w' (some ⟨g,0,none⟩) (M+1) (VG (k+1))∧Fr [g] W w'):=fun W hW=>by
        have KS:=KSET.out W g (VG k) x (Wp.mn a1 a2) (HVX.out.keep hW).row (HLG.out k) (by omega) (by omega)
        rw [←ha1,←ha2,←HVG.out.2 k x y z he.out,ha1,ha2,←hmn] at KS
        exact KS
       clear he hx1 hx2 hx3 hxr HV ha1 ha2 hmn
       go_upto_region 20 with fail
       try rw [hwx]
       clear hwx
       refine wp_region_noPanic ?_
       refine wp_region_C (fun w':World=>Fr [] wx w') 12 (by kernel_rfl) ((Fr.refl _ wx).drew) (fun hT0=> ?_)
       apply TB 9 [(0,[]),(1,[]),(2,[2,12]),(3,[]),(4,[]),(5,[5,6,11,12]),(7,[]),(8,[]),(9,[9,10,12])];kernel_rfl;rfl;· (repeat (apply TBc;rfl;rfl;(· intro w hSw;(try (have hSw:=hSw.resolve_left (List.cons_ne_nil _ _);(have s0:=hSw.cellS (HRX.out.cell 0);have s1:=hSw.cellS (HRX.out.cell 1);have s2:=hSw.cellS (HRX.out.cell 2);simp at s0 s1 s2)));go_simp<;>with_reducible rfl);try simp only [Act.put,q5,q6,q7]));exact TBn
       exact hT0;intro hT0
       refine R2 6 (by kernel_rfl) (by rfl) hT0 fun K hK hSx=> ?_
       (go_simp;refine (K1.out _ hSx).mono ?_;rintro e w5 ⟨rfl,rfl⟩;dsimp only)
       refine hK.out _ _ (.inr ?_) (fun hT10=> ?_)
       ·exact hSx
       clear hK K
       try simp only [Act.put,q5,q6,q7]
       refine R2 10 (by kernel_rfl) (by rfl) hT10 fun K hK hSx=> ?_
       (go_simp;refine (K2.out _ hSx).mono ?_;rintro e w5 ⟨rfl,rfl⟩;dsimp only)
       refine hK.out _ _ (.inr ?_) (fun hT11=> ?_)
       ·exact hSx
       clear hK K
       try simp only [Act.put,q5,q6,q7]
       apply TB 1 [(11,[])];kernel_rfl;rfl;· (repeat (apply TBc;rfl;rfl;(· intro w hSw;go_simp<;>with_reducible rfl);try simp only [Act.put,q5,q6,q7]));exact TBn
       exact hT11;intro hT11
       refine R2 12 (by kernel_rfl) (by rfl) hT11 fun K hK hSx=> ?_
       (go_simp;refine (KS.out _ hSx).mono ?_;rintro e w5 ⟨rfl,hr5,hf5⟩;dsimp only)
       refine hK.out _ _ (.inl rfl) (fun hT13=> ?_)
       clear hK K
       try simp only [Act.put,q5,q6,q7]
       refine wpAnyC_done (by kernel_rfl) ?_ _
       refine NoPanic.normal ?_
       have HV5:=Lib.hid ((HVX.out.keep hSx).put hf5 hr5)
       clear hr5 hf5 hSx
       go_wp2_with fail
       go_roundg (gk-1)
       case measure=>have :=HK.out;omega
       case rel=>exact ⟨k+1,by have :=HK.out;omega,by go_num,HV5⟩
      ·obtain rfl :k=ands.length:=by omega
       have hr:=HV.out.row
       rw [HVAL.out] at hr
       have hcv:=KCV.out wr g VAL hr (by rw [←HVAL.out];exact HLG.out _)
       have HF:=Lib.hid HV.out.fr
       unfold sv at hcv
       rw [HZV.out] at hcv
       clear HK HV hr
       go_wp2_with fail
       go_ret2
       exact ⟨rfl,HF.out⟩
theorem u8_eq (x c:UInt8):((x.toNat:Int)==(c.toNat:Int))=(x==c):=by
 rw [Bool.eq_iff_iff]
 simp only [beq_iff_eq]
 constructor
 ·intro h
  apply UInt8.toNat_inj.1
  omega
 ·intro h;rw [h]
theorem bw_rd (w:World) (v:List UInt8) (Z:ByteArray) (hz:(⟨v.toArray⟩:ByteArray)=Z):RdB (Lib.bytesWorld w 5 Z) w.heap.size v:=fun j hj=>by
 subst hz
 have hj2:j<(⟨v.toArray⟩:ByteArray).size:=by simpa [ByteArray.size] using hj
 rw [Lib.bytesWorld_cell w 5 _ j hj2,List.getElem!_eq_getElem?_getD,List.getD_eq_getElem?_getD]
 rfl
theorem strue_calls (w:World) (v:List UInt8) (l:Int) (h0:0≤l) (h1:l≤9000) (hv:v.length≤4096):
  Calls Tryz.prog 136 #[sv v, .int .i64 l] w fun e w'=>e= .returned (.bool (Wp.is v l))∧Fr [] w w':=by
 obtain ⟨Z,hZ⟩:∃Z:ByteArray,(⟨v.toArray⟩:ByteArray)=Z:=⟨_,rfl⟩
 have hz:=sv_size hZ
 have KO:=Lib.hid (fun c=>sof_calls (Lib.bytesWorld w 5 Z) w.heap.size c v l (bw_rd w v Z hZ) h0 h1 hv)
 obtain ⟨x,hx⟩:∃x,Wp.of v l=x:=⟨_,rfl⟩
 have HR:Hid (Wp.is v l=((x.toNat:Int)==49)):=by
  show _=_
  unfold Wp.is
  rw [hx]
  exact (u8_eq x 49).symm
 rw [HR.out]
 rw [hx,←hz] at KO
 unfold sv
 rw [hZ]
 have hcv:=Lib.run_convert_string_bytes (P:=Tryz.prog) w 9 143 5 Z Tryz.underlying9 Tryz.underlying143 Tryz.underlying5
 have HF:=Lib.hid (bytes_fr w 5 Z)
 clear hx HR hZ hz
 go_enter Tryz.func136,Tryz.ntmps136
 go_wp2_with fail
 refine (KO.out _).mono ?_
 rintro e w2 ⟨rfl,rfl⟩
 go_wp2_with fail
 go_ret
 exact ⟨rfl,HF.out⟩
theorem sholds1_calls (w:World) (p g c:Nat) (v:List UInt8) (l:Int) (hp:w.cell? ⟨p,0,none⟩=some (.slice (some ⟨g,0,none⟩) v.length c)) (hb:RdB w g v) (h0:0≤l) (h1:l≤9000) (hv:v.length≤4096):
  Calls Tryz.prog 166 #[.int .i64 l, .pointer (some ⟨p,0,none⟩)] w fun e w'=>e= .returned (.bool (Wp.is v l))∧Fr [] w w':=by
 have KO:=Lib.hid (sof_calls w g c v l hb h0 h1 hv)
 obtain ⟨x,hx⟩:∃x,Wp.of v l=x:=⟨_,rfl⟩
 have HR:Hid (Wp.is v l=((x.toNat:Int)==49)):=by
  show _=_
  unfold Wp.is
  rw [hx]
  exact (u8_eq x 49).symm
 rw [HR.out]
 rw [hx] at KO
 clear hx HR hb
 go_enter Tryz.func166,Tryz.ntmps166
 go_wp2_with fail
 refine KO.out.mono ?_
 rintro e w2 ⟨rfl,rfl⟩
 go_wp2_with fail
 go_ret
 exact ⟨rfl,Fr.refl _ _⟩
theorem enters_sholds1:∀args w,(callFunc 166 args).run Tryz.prog w= .ok (.enter 166 args) w:=enters_of Tryz.func166 (by kernel_rfl) rfl
theorem sholds_calls (w:World) (v:List UInt8) (A:Option Addr) (c:Nat) (l:List Int) (hr:Rd w A l) (hl:∀x∈l,0≤x∧x≤9000) (hn:l.length≤1048576) (hv:v.length≤4096):
  Calls Tryz.prog 135 #[sv v, .slice A l.length c] w fun e w'=>e= .returned (.bool (l.any (Wp.is v)))∧Fr [] w w':=by
 obtain ⟨Z,hZ⟩:∃Z:ByteArray,(⟨v.toArray⟩:ByteArray)=Z:=⟨_,rfl⟩
 have hz:=sv_size hZ
 have HRB:=Lib.hid (bw_rd w v Z hZ)
 obtain ⟨wb,hwb⟩:∃W,Lib.bytesWorld w 5 Z=W:=⟨_,rfl⟩
 have hcv:=Lib.run_convert_string_bytes (P:=Tryz.prog) w 9 143 5 Z Tryz.underlying9 Tryz.underlying143 Tryz.underlying5
 have hfb:=bytes_fr w 5 Z
 rw [hwb] at hcv hfb HRB
 obtain ⟨cap,hcap⟩:∃cap,grownCap w Z.size 0 5 =cap:=⟨_,rfl⟩
 rw [hcap] at hcv
 obtain ⟨wc,hwc⟩:∃W,wb.alloc (.cells #[.slice (some ⟨w.heap.size,0,none⟩) Z.size cap] 143)=W:=⟨_,rfl⟩
 have hfc:Fr [] wb wc:=hwc▸box_fr' _ _
 have hp:wc.cell? ⟨wb.heap.size,0,none⟩=some (.slice (some ⟨w.heap.size,0,none⟩) v.length cap):=by
  rw [←hwc,←hz]
  exact (At.new wb 143 #[.slice (some ⟨w.heap.size,0,none⟩) Z.size cap]).cell 0
 have HF:=Lib.hid (hfb.then_ hfc)
 have hra:Ra l:=(mem_idx (p:=R64)).2 fun x hx=>by
  have :=hl x hx
  exact ⟨by omega,by omega⟩
 have KC:=Lib.hid (contains_ints wc A c l 166 #[.pointer (some ⟨wb.heap.size,0,none⟩)] (Wp.is v) enters_sholds1 (hr.keep HF.out) hra (by omega) (fun W hW x hx _=>sholds1_calls W wb.heap.size w.heap.size cap v x (hW.cellS hp) ((HRB.out.keep hfc).keep hW) (hl x hx).1 (hl x hx).2 hv))
 unfold sv
 rw [hZ]
 clear hZ hz hwb hfb hcap hfc hp hr hl hra HRB
 go_enter Tryz.func135,Tryz.ntmps135
 go_wp2_with fail
 refine KC.out.mono ?_
 rintro e w2 ⟨rfl,hf2⟩
 have HF2:=Lib.hid (HF.out.then_ hf2)
 clear hf2
 go_wp2_with fail
 go_ret
 exact ⟨rfl,HF2.out⟩
theorem ris_calls (w:World) (v:List UInt8) (l:Int) (h0:0≤l) (h1:l≤9000) (hv:v.length≤4096):
  Calls Tryz.prog 65 #[sv v, .int .i64 l] w fun e w'=>e= .returned (.bool (!Wp.is v l))∧Fr [] w w':=by
 have KT:=Lib.hid (fun W=>strue_calls W v l h0 h1 hv)
 obtain ⟨b,hb⟩:∃b,Wp.is v l=b:=⟨_,rfl⟩
 rw [hb] at KT⊢
 have KI:Hid (∀W,Calls Tryz.prog 108 #[sv v, .int .i64 l] W fun e w'=>e= .returned (.bool b)∧Fr [] W w'):=fun W=>by
  clear hb
  unfold sv at *
  go_enter Tryz.func108,Tryz.ntmps108
  go_wp2_with fail
  refine (KT.out _).mono ?_
  rintro e w2 ⟨rfl,hf2⟩
  have HF2:=Lib.hid hf2
  clear hf2
  go_wp2_with fail
  go_ret
  exact ⟨rfl,HF2.out⟩
 clear hb KT
 unfold sv at *
 go_enter Tryz.func65,Tryz.ntmps65
 go_wp2_with fail
 refine (KI.out _).mono ?_
 rintro e w2 ⟨rfl,hf2⟩
 have HF2:=Lib.hid hf2
 clear hf2
 go_wp2_with fail
 go_ret
 exact ⟨rfl,HF2.out⟩
theorem enters_risnot:∀args w,(callFunc 65 args).run Tryz.prog w= .ok (.enter 65 args) w:=enters_of Tryz.func65 (by kernel_rfl) rfl
theorem rbroken_calls (w:World) (v:List UInt8) (A:Option Addr) (c:Nat) (l:List Int) (hr:Rd w A l) (hl:∀x∈l,0≤x∧x≤9000) (hn:l.length≤1048576) (hv:v.length≤4096):
  Calls Tryz.prog 107 #[sv v, .slice A l.length c] w fun e w'=>e= .returned (.bool (!l.any (Wp.is v)))∧Fr [] w w':=by
 have KT:=Lib.hid (sholds_calls w v A c l hr hl hn hv)
 obtain ⟨b,hb⟩:∃b,l.any (Wp.is v)=b:=⟨_,rfl⟩
 rw [hb] at KT⊢
 clear hb hr hl
 unfold sv at *
 go_enter Tryz.func107,Tryz.ntmps107
 go_wp2_with fail
 refine KT.out.mono ?_
 rintro e w2 ⟨rfl,hf2⟩
 have HF2:=Lib.hid hf2
 clear hf2
 go_wp2_with fail
 go_ret
 exact ⟨rfl,HF2.out⟩
theorem enters_rbroken:∀args w,(callFunc 107 args).run Tryz.prog w= .ok (.enter 107 args) w:=enters_of Tryz.func107 (by kernel_rfl) rfl
theorem rallowed_calls (w:World) (H:Hd) (C:Pc) (h:CiAt w H C) (hv:Valid C) (A:Option Addr) (c:Nat) (am:List Ls) (hr:RdL w A am) (hf:∀x∈am,Fine x.l) (ha:am.length≤64) (v:List UInt8) (hvl:v.length≤4096):
  Calls Tryz.prog 64 #[cval H C, .slice A am.length c,sv v] w fun e w'=>e= .returned (.bool (Wp.alw C (am.map (·.l)) v))∧Fr [] w w':=by
 have HX:=Lib.hid (Cx.start w H C)
 have hvi:=valid_inv hv
 have KI:=Lib.hid (fun W (hW:Fr [] w W)=>contains_intsM W H.vA H.vC C.invs 65 (sv v) (fun l=> !Wp.is v l) enters_risnot (h.keep hW).v h.vr (by have :=h.vL;omega) (fun W' _ x hx _=>ris_calls W' v x (hvi x hx).1 (by have :=(hvi x hx).2;omega) hvl))
 have KL:=Lib.hid (fun W (hW:Fr [] w W)=>contains_listsM W A c am 107 (sv v) (fun l=> !l.any (Wp.is v)) enters_rbroken (hr.keep hW) (by omega) (fun W' hW' x hx ok=>rbroken_calls W' v x.A x.c x.l ok.1 (fun y hy=>by have :=(hf x hx).2 y hy;omega) (by have :=(hf x hx).1;omega) hvl))
 have HAL:Hid (Wp.alw C (am.map (·.l)) v=(!(C.invs.any fun l=> !Wp.is v l)&& !(am.any fun x=> !x.l.any (Wp.is v)))):=by
  show _=_
  unfold Wp.alw
  rw [List.any_map]
  rfl
 rw [HAL.out]
 obtain ⟨b1,hb1⟩:∃b,(C.invs.any fun l=> !Wp.is v l)=b:=⟨_,rfl⟩
 obtain ⟨b2,hb2⟩:∃b,(am.any fun x=> !x.l.any (Wp.is v))=b:=⟨_,rfl⟩
 rw [hb1] at KI⊢
 rw [hb2] at KL⊢
 clear h hv hvi hr hf hb1 hb2 HAL
 unfold sv at *
 obtain ⟨Z,hZ⟩:∃Z:ByteArray,(⟨v.toArray⟩:ByteArray)=Z:=⟨_,rfl⟩
 simp only [hZ] at KI KL⊢
 clear hZ
 obtain ⟨mx,ins,lat,outs,bads,invs,ands,nms⟩:=C
 obtain ⟨iA,iC,lA,lC,oA,oC,bA,bC,vA,vC,gA,gC,nA,nC⟩:=H
 simp only [cval,cvs] at *
 obtain ⟨c0,c1,c2,c3,c4,c5,c6,c7⟩:=HX.out.cells
 try simp only at c0 c1 c2 c3 c4 c5 c6 c7
 go_enter Tryz.func64,Tryz.ntmps64
 go_wp2_with fail
 refine (KI.out _ HX.out.fr).mono ?_
 rintro e w2 ⟨rfl,hf2⟩
 have HF2:=Lib.hid (HX.out.fr.then_ hf2)
 clear hf2
 cases b1 with
 |true=>
  go_wp2_with fail
  go_ret
  exact ⟨rfl,HF2.out⟩
 |false=>
  go_wp2_with fail
  refine (KL.out _ HF2.out).mono ?_
  rintro e w3 ⟨rfl,hf3⟩
  have HF3:=Lib.hid (HF2.out.then_ hf3)
  clear hf3
  go_wp2_with fail
  go_ret
  exact ⟨by cases b2<;>rfl,HF3.out⟩
end Go.Proofs.YtjmmpfjcpdepjaaGreatDoor
