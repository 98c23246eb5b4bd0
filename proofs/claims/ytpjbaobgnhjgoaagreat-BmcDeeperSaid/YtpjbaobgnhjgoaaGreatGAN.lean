/- Parts of a proof. -/
import Derived.Test.YtpjbaobgnhjgoaaGreatGAM
set_option linter.unusedVariables false
set_option maxHeartbeats 8000000
namespace Go.Proofs.YtpjbaobgnhjgoaaGreat
open Go.RowKit
namespace Bools
variable {w w' : World} {A : Option Addr} {c : Nat} {bs : List Bool}
theorem Gf {g : Nat} (h : Bools w (some ⟨g, 0, none⟩) c bs) {i : Nat} (hi : i < bs.length) : w.cell? ⟨g, i, none⟩ = some (.bool (bs[i]!)) := by
 rw [World.ownsRow.cellAt h i (by omega)]
 simp only [bh, af hi, dc, ae, aq]
theorem sV {g : Nat} (h : Bools w (some ⟨g, 0, none⟩) c bs) (i : Nat) : w.frozen? ⟨g, i, none⟩ = false := World.ownsRow.frozenAt h i
theorem ab9 {g : Nat} (h : Bools w (some ⟨g, 0, none⟩) c bs) (i : Nat) (x : Bool) : Bools (w.setCell ⟨g, i, none⟩ (.bool x)) (some ⟨g, 0, none⟩) c (bs.set i x) := by
 have := (World.ownsRow.stored h i (.bool x)).1
 unfold Bools
 rw [ak, List.map_set]
 exact this
theorem frB {S : List Nat} (h : Bools w A c bs) (hf : Fr S w w') (hd : ∀ k, k ∈ ah A → k ∉ S) : Bools w' A c bs := hf.own h (fun k hk => hd k ((iz k).1 hk))
end Bools
def yS (xs : List Int) (bs : List Bool) : List Bool := xs.foldl (fun b x => b.set (x / 2).toNat true) bs
theorem Qw (xs : List Int) : ∀ bs, (yS xs bs).length = bs.length := by
 induction xs with
 | nil => intro bs; rfl
 | cons x r ih => intro bs; show (yS r _).length = _; rw [ih, ak]
theorem yR (xs ys : List Int) (bs : List Bool) : yS (xs ++ ys) bs = yS ys (yS xs bs) := by unfold yS; rw [List.foldl_append]
theorem uK {xs : List Int} {k : Nat} (h : k < xs.length) (bs : List Bool) : yS (xs.take (k + 1)) bs = (yS (xs.take k) bs).set (xs[k]! / 2).toNat true := by
 rw [List.take_add_one, af h, eI, yR]
 simp only [ae, af h, aq]
 rfl
def IP (C : Pc) : List Bool := yS (cm C) (List.replicate (C.mx + 1).toNat false)
theorem pO (C : Pc) : (IP C).length = (C.mx + 1).toNat := by unfold IP; rw [Qw, a7]
structure Dg (w wr : World) (g n : Nat) (bs : List Bool) : Prop where
 row : Bools wr (some ⟨g, 0, none⟩) n bs
 len : bs.length = n
 new : w.heap.size < g
namespace Dg
variable {w wr wx : World} {g n : Nat} {bs : List Bool}
theorem keep (h : Dg w wr g n bs) (hf : Fr [] wr wx) : Dg w wx g n bs := ⟨h.row.frB hf (fun _ _ hm => by cases hm), h.len, h.new⟩
theorem cV (h : Dg w wr g n bs) (i : Nat) : Dg w (wr.setCell ⟨g, i, none⟩ (.bool true)) g n (bs.set i true) := ⟨h.row.ab9 i true, by rw [ak]; exact h.len, h.new⟩
end Dg
theorem Cx.put {w wr : World} {H : Hd} {C : Pc} (h : Cx w wr H C) {g : Nat} (hg : w.heap.size < g) (i : Nat) (v : Value) : Cx w (wr.setCell ⟨g, i, none⟩ v) H C :=
 ⟨h.fr.setCell (.inr (by show w.heap.size ≤ g; omega)) v, h.bx.fy (by show w.heap.size ≠ g; omega) v⟩
theorem tA (w : World) (H : Hd) (C : Pc) (h : iE w H C) (hv : Valid C) :
  Calls Tryz.prog 134 #[dn H C] w fun e w' => ∃ g, e = .returned (.slice (some ⟨g, 0, none⟩) (IP C).length (IP C).length) ∧ Bools w' (some ⟨g, 0, none⟩) (IP C).length (IP C) ∧ w.heap.size ≤ g ∧ Fr [] w w' := by
 have HX := aa (Cx.start w H C)
 have vp := hv.m0
 have lX := hv.m1
 obtain ⟨n, hn⟩ : ∃ n : Nat, C.mx + 1 = n := ⟨(C.mx + 1).toNat, by omega⟩
 have U1 := aa (dw hv)
 have Ct := pO C
 rw [hn, Int.toNat_natCast] at Ct
 rw [Ct]
 have HDU : Hid (IP C = yS (C.au.map (fun x => x.a)) (yS (C.aX.map (fun x => x.a)) (yS C.ins (List.replicate n false)))) := by
  show _ = _
  unfold IP cm
  rw [hn, Int.toNat_natCast, yR, yR]
 have HII := aa (fun x (hx : x ∈ C.ins) => dw hv x (by simp [cm, hx]))
 have QZ := aa (fun x (hx : x ∈ C.aX.map (fun x => x.a)) => dw hv x (by unfold cm; simp only [aj]; exact .inl (.inr hx)))
 have HIA := aa (fun x (hx : x ∈ C.au.map (fun x => x.a)) => dw hv x (by unfold cm; simp only [aj]; exact .inr hx))
 have ep : IntKind.i64.wrap (C.mx + 1) = (n : Int) := by rw [hn]; exact IntWalk.i64_in _ (by omega)
 have KV := aa (fun W l (h0 : 0 ≤ l) (h1 : l ≤ 9223372036854775807) => ii W l h0 h1)
 have HH := aa h
 have HIR := aa h.ir
 have oM := aa h.lr
 have HGR := aa h.gr
 have oN := aa h.gL
 have sN := h.iL
 have vq := h.lL
 have ru := h.gL
 clear h hv Ct
 obtain ⟨mx, ins, aX, outs, aO, aN, au, bO⟩ := C
 obtain ⟨iA, iC, lA, lC, oA, oC, bA, bC, vA, vC, gA, gC, nA, nC⟩ := H
 simp only [dn, gH] at *
 have hnm : mx + 1 = (n : Int) := hn
 have PS := fun W => j9 W (n : Int) (by omega) (by omega)
 simp only [Int.toNat_natCast] at PS
 obtain ⟨wq, hwq⟩ : ∃ W, w.alloc (.cells #[.int .i64 mx, .slice iA ins.length iC, .slice lA aX.length lC, .slice oA outs.length oC, .slice bA aO.length bC, .slice vA aN.length vC, .slice gA au.length gC, .slice nA bO.length nC] 27) = W := ⟨_, rfl⟩
 have HXQ : Hid (Cx w wq ⟨iA, iC, lA, lC, oA, oC, bA, bC, vA, vC, gA, gC, nA, nC⟩ ⟨mx, ins, aX, outs, aO, aN, au, bO⟩) := hwq ▸ HX.out
 obtain ⟨c0, c1, c2, c3, c4, c5, c6, c7⟩ := HXQ.out.cells
 try simp only at c0 c1 c2 c3 c4 c5 c6 c7
 obtain ⟨w1, hw⟩ : ∃ W, wq.alloc (.cells (madeCells #[.bool false] n) 4) = W := ⟨_, rfl⟩
 have dv : Hid (Fr [] wq w1) := hw ▸ aP _ _
 have hG := aa (HXQ.out.keep dv.out)
 have zE : Hid (Dg w w1 wq.heap.size n (List.replicate n false)) := ⟨hw ▸ ot wq n (by unfold maxLen; omega), by simp, HXQ.out.bx.lt⟩
 obtain ⟨g, hg⟩ : ∃ g, wq.heap.size = g := ⟨_, rfl⟩
 rw [hg] at zE
 obtain ⟨d0, d1, d2, d3, d4, d5, d6, d7⟩ := hG.out.cells
 try simp only at d0 d1 d2 d3 d4 d5 d6 d7
 have XU := PS wq
 rw [hg, hw] at XU
 clear HX PS hn
 go_enter Tryz.func134, Tryz.ntmps134
 go_wp2_with fail
 clear XU hw hwq hg ep c0 c1 c2 c3 c4 c5 c6 c7 d0 d1 d2 d3 d4 d5 d6 d7
 go_loopg [17] ins.length (fun gk GH wr => ∃ k : Nat, k + gk = ins.length ∧ GH = .int .i64 k ∧ Hid (Cx w wr ⟨iA, iC, lA, lC, oA, oC, bA, bC, vA, vC, gA, gC, nA, nC⟩ ⟨mx, ins, aX, outs, aO, aN, au, bO⟩) ∧ Hid (Dg w wr g n (yS (ins.take k) (List.replicate n false))))
 case atStart => exact ⟨0, by omega, rfl, hG.out, zE.out⟩
 case round =>
  obtain ⟨k, hk, rfl, eR, HD⟩ := hrel
  have HK := aa hk
  have j4 : k ≤ ins.length := by omega
  clear hk hG zE
  by_cases bM : k < ins.length
  ·obtain ⟨b, o, x, hA, he, cx, gP, iP⟩ := (HH.out.keep eR.out.fr).i.one HIR.out bM
   try simp only at hA he
   subst hA
   have nZ := aa (uK bM (List.replicate n false))
   rw [he.out] at nZ
   have Cp := HII.out x (by rw [← he.out]; exact bw bM)
   try simp only at Cp
   have zA := eR
   have xA := HD
   obtain ⟨v, oy⟩ : ∃ v : Nat, x / 2 = (v : Int) := ⟨(x / 2).toNat, by omega⟩
   have Jx : v < n := by omega
   have Xs : (v : Int) < (n : Int) := by omega
   rw [oy, Int.toNat_natCast] at nZ
   have Gu := KV.out wr x (by omega) (by omega)
   rw [oy] at Gu
   have Gu := aa Gu
   have cb := xA.out.row.Gf (i := v) (by rw [xA.out.len]; exact Jx)
   have cf := xA.out.row.sV v
   have jH := aa (zA.out.put xA.out.new v (.bool true))
   have NN := aa (xA.out.cV v)
   have E9 := aa xA.out.len
   clear oy
   go_wp2_with fail
   refine Gu.out.mono ?_
   rintro e w3 ⟨rfl, rfl⟩
   go_wp2_with fail
   go_roundg (gk - 1)
   case measure => have := HK.out; omega
   case rel => exact ⟨k + 1, by have := HK.out; omega, by go_num, jH.out, by rw [nZ.out]; exact NN.out⟩
  ·obtain rfl : k = ins.length := by omega
   obtain ⟨w2, kD⟩ : ∃ x, x = wr := ⟨_, rfl⟩
   rw [fO] at HD
   obtain ⟨B1, hB1⟩ : ∃ B, yS ins (List.replicate n false) = B := ⟨_, rfl⟩
   rw [hB1] at HD HDU
   obtain ⟨d0, d1, d2, d3, d4, d5, d6, d7⟩ := eR.out.cells
   try simp only at d0 d1 d2 d3 d4 d5 d6 d7
   clear HK hB1 kD
   go_wp2_with fail
   clear d0 d1 d2 d3 d4 d5 d6 d7
   go_loopg [29] aX.length (fun gk xi wr => ∃ k : Nat, k + gk = aX.length ∧ xi = .int .i64 k ∧ Hid (Cx w wr ⟨iA, iC, lA, lC, oA, oC, bA, bC, vA, vC, gA, gC, nA, nC⟩ ⟨mx, ins, aX, outs, aO, aN, au, bO⟩) ∧ Hid (Dg w wr g n (yS ((aX.map (fun x => x.a)).take k) B1)))
   case atStart => exact ⟨0, by omega, rfl, eR.out, HD.out⟩
   case round =>
    obtain ⟨k, hk, rfl, eR, HD⟩ := hrel
    have HK := aa hk
    have j4 : k ≤ aX.length := by omega
    clear hk
    by_cases bM : k < aX.length
    ·obtain ⟨b, o, x, y, z, hA, he, cx, cy, cz, hx, hy, hz⟩ := (HH.out.keep eR.out.fr).l.one oM.out bM
     try simp only at hA he
     subst hA
     have zr : k < (aX.map (fun x : T3 => x.a)).length := by rw [ax]; exact bM
     have JH : (aX.map (fun x : T3 => x.a))[k]! = x := by
      rw [ae, bh, af bM]
      have := he.out
      rw [ae, af bM] at this
      simp only [aq] at this
      simp [this]
     have nZ := aa (uK zr B1)
     rw [JH] at nZ
     have Cp := QZ.out x (by rw [← JH]; exact bw zr)
     try simp only at Cp
     obtain ⟨wx, mP⟩ : ∃ W, wr.alloc (.cells #[.int .i64 x, .int .i64 y, .int .i64 z] 62) = W := ⟨_, rfl⟩
     have rZ : At wx wr.heap.size 62 #[.int .i64 x, .int .i64 y, .int .i64 z] := mP ▸ At.new _ _ _
     have kR : Hid (Fr [] wr wx) := mP ▸ aP _ _
     have f0 := rZ.cell 0
     simp at f0
     have zA := aa (eR.out.keep kR.out)
     have xA := aa (HD.out.keep kR.out)
     clear JH zr rZ
     obtain ⟨v, oy⟩ : ∃ v : Nat, x / 2 = (v : Int) := ⟨(x / 2).toNat, by omega⟩
     have Jx : v < n := by omega
     have Xs : (v : Int) < (n : Int) := by omega
     rw [oy, Int.toNat_natCast] at nZ
     have Gu := KV.out wx x (by omega) (by omega)
     rw [oy] at Gu
     have Gu := aa Gu
     have cb := xA.out.row.Gf (i := v) (by rw [xA.out.len]; exact Jx)
     have cf := xA.out.row.sV v
     have jH := aa (zA.out.put xA.out.new v (.bool true))
     have NN := aa (xA.out.cV v)
     have E9 := aa xA.out.len
     clear oy
     go_wp2_with fail
     refine Gu.out.mono ?_
     rintro e w3 ⟨rfl, rfl⟩
     go_wp2_with fail
     go_roundg (gk - 1)
     case measure => have := HK.out; omega
     case rel => exact ⟨k + 1, by have := HK.out; omega, by go_num, jH.out, by rw [nZ.out]; exact NN.out⟩
    ·obtain rfl : k = aX.length := by omega
     have HD : Hid (Dg w wr g n (yS (aX.map (fun x => x.a)) B1)) := by
      have := HD.out
      rw [dh (by rw [ax]; exact ao _)] at this
      exact this
     clear HK
     obtain ⟨B2, hB2⟩ : ∃ B, yS (aX.map (fun x => x.a)) B1 = B := ⟨_, rfl⟩
     try simp only at HDU
     rw [hB2] at HD HDU
     obtain ⟨d0, d1, d2, d3, d4, d5, d6, d7⟩ := eR.out.cells
     try simp only at d0 d1 d2 d3 d4 d5 d6 d7
     clear hB2
     go_wp2_with fail
     clear d0 d1 d2 d3 d4 d5 d6 d7
     go_loopg [42] au.length (fun gk xi wr => ∃ k : Nat, k + gk = au.length ∧ xi = .int .i64 k ∧ Hid (Cx w wr ⟨iA, iC, lA, lC, oA, oC, bA, bC, vA, vC, gA, gC, nA, nC⟩ ⟨mx, ins, aX, outs, aO, aN, au, bO⟩) ∧ Hid (Dg w wr g n (yS ((au.map (fun x => x.a)).take k) B2)))
     case atStart => exact ⟨0, by omega, rfl, eR.out, HD.out⟩
     case round =>
      obtain ⟨k, hk, rfl, eR, HD⟩ := hrel
      have HK := aa hk
      have j4 : k ≤ au.length := by omega
      clear hk
      by_cases bM : k < au.length
      ·obtain ⟨b, o, x, y, z, hA, he, cx, cy, cz, hx, hy, hz⟩ := (HH.out.keep eR.out.fr).g.one HGR.out bM
       try simp only at hA he
       subst hA
       have zr : k < (au.map (fun x : T3 => x.a)).length := by rw [ax]; exact bM
       have JH : (au.map (fun x : T3 => x.a))[k]! = x := by
        rw [ae, bh, af bM]
        have := he.out
        rw [ae, af bM] at this
        simp only [aq] at this
        simp [this]
       have nZ := aa (uK zr B2)
       rw [JH] at nZ
       have Cp := HIA.out x (by rw [← JH]; exact bw zr)
       try simp only at Cp
       obtain ⟨wx, mP⟩ : ∃ W, wr.alloc (.cells #[.int .i64 x, .int .i64 y, .int .i64 z] 69) = W := ⟨_, rfl⟩
       have rZ : At wx wr.heap.size 69 #[.int .i64 x, .int .i64 y, .int .i64 z] := mP ▸ At.new _ _ _
       have kR : Hid (Fr [] wr wx) := mP ▸ aP _ _
       have f0 := rZ.cell 0
       simp at f0
       have zA := aa (eR.out.keep kR.out)
       have xA := aa (HD.out.keep kR.out)
       clear JH zr rZ
       obtain ⟨v, oy⟩ : ∃ v : Nat, x / 2 = (v : Int) := ⟨(x / 2).toNat, by omega⟩
       have Jx : v < n := by omega
       have Xs : (v : Int) < (n : Int) := by omega
       rw [oy, Int.toNat_natCast] at nZ
       have Gu := KV.out wx x (by omega) (by omega)
       rw [oy] at Gu
       have Gu := aa Gu
       have cb := xA.out.row.Gf (i := v) (by rw [xA.out.len]; exact Jx)
       have cf := xA.out.row.sV v
       have jH := aa (zA.out.put xA.out.new v (.bool true))
       have NN := aa (xA.out.cV v)
       have E9 := aa xA.out.len
       clear oy
       go_wp2_with fail
       refine Gu.out.mono ?_
       rintro e w3 ⟨rfl, rfl⟩
       go_wp2_with fail
       go_roundg (gk - 1)
       case measure => have := HK.out; omega
       case rel => exact ⟨k + 1, by have := HK.out; omega, by go_num, jH.out, by rw [nZ.out]; exact NN.out⟩
      ·obtain rfl : k = au.length := by omega
       have HD : Hid (Dg w wr g n (yS (au.map (fun x => x.a)) B2)) := by
        have := HD.out
        rw [dh (by rw [ax]; exact ao _)] at this
        exact this
       clear HK
       go_wp2_with fail
       go_ret
       exact ⟨g, rfl, by rw [HDU.out]; exact HD.out.row, by have := HD.out.new; omega, eR.out.fr⟩
theorem iZ (wb : World) {ops : Array Oper} {rest : List Oper} {o : Oper} {a : Act} {Q : Exit → Act → World → Prop} (ui : o.guard = none) (s x : Operand)
  (ho : o.op = .call { callee := .builtin .append, args := #[s, x], argTypes := #[28, 28] }) {w3 : World} {B : Nat} (A : Option Addr) (c : Nat) (hs : List Ls) (HN : NwLs w3 B A c hs) (fd : Fr [] w3 wb) (hB : B ≤ wb.heap.size) (n : Nat) (VS : a.eval s = .slice A n c) (hn : n = hs.length)
  (ad : Addr) (m d : Nat) (ms : List Ls) (hx : a.eval x = .slice (some ad) m d) (hm : m = ms.length) (hr : ∀ j : Nat, j < ms.length → wb.cell? (ad.add j) = some (ms[j]!).val)
  (AT : ∀ h ∈ ms, Ints wb h.A h.c h.l ∧ Ra h.l ∧ h.l.length ≤ 1048576 ∧ ∀ k, k ∈ ah h.A → B ≤ k) (hlen : hs.length + ms.length ≤ 4194304)
  (h : ∀ A' cap w', NwLs w' B A' cap (hs ++ ms) → Fr (ah A) wb w' → wpList Tryz.prog ops Q rest (a.put o.dst (.slice A' (n + m) cap)) w') :
  wpList Tryz.prog ops Q (o :: rest) a wb :=
 dp wb ui s x ho A c hs n VS hn (HN.keep fd).row ad m d ms hx hm hr hlen fun A' cap w' h1 h2 h3 h4 => h A' cap w' (HN.more fd AT h2 h1 h3 hB) h2
theorem Cx.push {w wb w' : World} {H : Hd} {C : Pc} {A : Option Addr} (h : Cx w wb H C) (hf : Fr (ah A) wb w') (hn : ∀ k ∈ ah A, w.heap.size < k) : Cx w w' H C :=
 ⟨h.fr.trans hf (fun k hk => .inr (Nat.le_of_lt (hn k hk))), hf.at_ h.bx (fun hm => by have := hn _ hm; omega)⟩
theorem NwLs.lt {w : World} {B : Nat} {A : Option Addr} {c : Nat} {hs : List Ls} (k : NwLs w B A c hs) {n : Nat} (h : n < B) : ∀ j ∈ ah A, n < j := fun j hj => aQ h (k.new j hj)
theorem NwLs.gq {w : World} {B : Nat} {A : Option Addr} {c : Nat} {hs : List Ls} (k : NwLs w B A c hs) {L : List (List Int)} (h : hs.map (·.l) = L) : hs.length = L.length := by rw [← h, ax]
theorem zK {C : Pc} (hv : Valid C) : C.au.length ≤ 2048 := by
 have key : ∀ j : Nat, j < C.au.length → 2 * ((j : Int) + 1) ≤ (C.au[j]!).a := by
  intro j
  induction j with
  | zero =>
   intro h
   have := dw hv (C.au[0]!).a (by unfold cm; simp only [aj, bE]; exact .inr ⟨_, bw h, rfl⟩)
   omega
  | succ j ih =>
   intro h
   have h1 := ih (by omega)
   have h2 := hv.au (j + 1) h
   simp only [EO, WK, eo, aD] at h2
   rw [if_neg (by omega)] at h2
   simp only [decide_eq_true_eq] at h2
   have h3 := dw hv (C.au[j + 1]!).a (by unfold cm; simp only [aj, bE]; exact .inr ⟨_, bw h, rfl⟩)
   have h4 := dw hv (C.au[j]!).a (by unfold cm; simp only [aj, bE]; exact .inr ⟨_, bw (by omega), rfl⟩)
   omega
 by_cases h : C.au.length = 0
 ·omega
 ·have h1 := key (C.au.length - 1) (by omega)
  have h2 := dw hv (C.au[C.au.length - 1]!).a (by unfold cm; simp only [aj, bE]; exact .inr ⟨_, bw (by omega), rfl⟩)
  have := hv.m1
  omega
theorem wG {C : Pc} (h : Valid C) (j : Nat) (hj : j < C.au.length) : (0 ≤ (C.au[j]!).a ∧ (C.au[j]!).a ≤ 2 * C.mx + 1) ∧ (0 ≤ (C.au[j]!).b ∧ (C.au[j]!).b ≤ 2 * C.mx + 1) ∧ (0 ≤ (C.au[j]!).c ∧ (C.au[j]!).c ≤ 2 * C.mx + 1) := by
 have h2 := h.au j hj
 simp only [EO, aD] at h2
 have h3 := dw h (C.au[j]!).a (by unfold cm; simp only [aj, bE]; exact .inr ⟨_, bw hj, rfl⟩)
 exact ⟨by omega, jh h h2.1.2, jh h h2.2⟩
theorem acf {x y z : Int} (h : dB x) (h2 : dB y) (h3 : dB z) : Ra [x, y, z] := fun j hj => by
 have : j = 0 ∨ j = 1 ∨ j = 2 := by simp at hj; omega
 rcases this with rfl | rfl | rfl
 ·exact h
 ·exact h2
 ·exact h3
def xG (b : Int) (bs : List Bool) (i : Nat) : List (List Int) := if bs[i]! = true then [] else [[-(b + i + 1)]]
def xF (b : Int) (bs : List Bool) (k : Nat) : List (List Int) := (List.range k).flatMap (xG b bs)
theorem wI (b : Int) (bs : List Bool) (k : Nat) : xF b bs (k + 1) = xF b bs k ++ xG b bs k := by
 unfold xF
 rw [List.range_succ, List.flatMap_append]
 simp
theorem zM (b : Int) (bs : List Bool) (k : Nat) : (xF b bs k).length ≤ k := by
 induction k with
 | zero => simp [xF]
 | succ k ih =>
  rw [wI, ai]
  have : (xG b bs k).length ≤ 1 := by unfold xG; split <;> simp
  omega
def IF (b : Int) (x : T3) : List (List Int) := [[-(cT b x.a), cT b x.b], [-(cT b x.a), cT b x.c], [cT b x.a, -(cT b x.b), -(cT b x.c)]]
def yK (b : Int) (xs : List T3) (k : Nat) : List (List Int) := (xs.take k).flatMap (IF b)
theorem xo (b : Int) (xs : List T3) (k : Nat) (h : k < xs.length) : yK b xs (k + 1) = yK b xs k ++ IF b xs[k]! := by
 unfold yK
 rw [kn _ _ h, List.flatMap_append]
 simp
theorem Mv (b : Int) (xs : List T3) (k : Nat) (h : k ≤ xs.length) : (yK b xs k).length = 3 * k := by
 induction k with
 | zero => simp [yK]
 | succ k ih =>
  rw [xo b xs k (by omega), ai, ih (by omega)]
  simp [IF]
  omega
def ly (C : Pc) (b : Int) : List (List Int) := xF b (IP C) (IP C).length ++ yK b C.au C.au.length
theorem xO (w : World) (H : Hd) (C : Pc) (h : iE w H C) (hv : Valid C) (b : Int) (hb : 0 ≤ b ∧ b ≤ 262144) :
  Calls Tryz.prog 101 #[dn H C, .int .i64 b] w fun e w' => ∃ A c hs, e = .returned (.tuple #[.slice A hs.length c, .int .i64 0]) ∧ NwLs w' w.heap.size A c hs ∧ hs.map (·.l) = ly C b ∧ Fr [] w w' := by
 have HX := aa (Cx.start w H C)
 have KR := aa (o7 _ H C (h.keep HX.out.fr) hv b hb)
 have KD := aa (fun W (hW : Fr [] w W) => tA W H C (h.keep hW) hv)
 have KO := aa (fun W v (hv : 0 ≤ v ∧ v ≤ 1000000) => wU W b v (by omega) hv)
 have KT := aa (fun W x (hx : 0 ≤ x ∧ x ≤ 4097) => lu W b x (by omega) (by omega))
 have CG := aa (fun x (hx : 0 ≤ x ∧ x ≤ 4097) => mK (b := b) (l := x) (by omega) hx)
 have nZ := aa (fun j hj => wG hv j hj)
 have Ct := pO C
 have vp := hv.m0
 have oQ := hv.m1
 have ru := zK hv
 have HH := aa h
 have HGR := aa h.gr
 have hLL := h.gL
 obtain ⟨bs, hbs⟩ : ∃ bs, IP C = bs := ⟨_, rfl⟩
 have oZ : Hid (ly C b = xF b bs bs.length ++ yK b C.au C.au.length) := (by show _ = _; unfold ly; rw [hbs])
 rw [hbs] at KD Ct
 have Ql : bs.length ≤ 2049 := by omega
 clear h hv hbs Ct
 obtain ⟨mx, ins, aX, outs, aO, aN, au, bO⟩ := C
 obtain ⟨iA, iC, lA, lC, oA, oC, bA, bC, vA, vC, gA, gC, nA, nC⟩ := H
 simp only [dn, gH] at *
 obtain ⟨c0, c1, c2, c3, c4, c5, c6, c7⟩ := HX.out.cells
 try simp only at c0 c1 c2 c3 c4 c5 c6 c7
 go_enter Tryz.func101, Tryz.ntmps101
 go_wp2_with fail
 refine KR.out.mono ?_
 rintro e w1 ⟨rfl, cE⟩
 have hG := aa (HX.out.keep cE)
 obtain ⟨e0, e1, e2, e3, e4, e5, e6, e7⟩ := hG.out.cells
 try simp only at e0 e1 e2 e3 e4 e5 e6 e7
 have KD1 := aa (KD.out w1 hG.out.fr)
 clear cE c0 c1 c2 c3 c4 c5 c6 c7 KR KD HX
 go_wp2_with fail
 refine KD1.out.mono ?_
 rintro e w2 ⟨g, rfl, hbo, hgn, cd⟩
 have ie := aa (hG.out.keep cd)
 have HBO := aa hbo
 clear cd hbo hgn KD1 e0 e1 e2 e3 e4 e5 e6 e7
 go_wp2_with fail
 go_loopg [8, 26] bs.length (fun gk x8 x26 wr => ∃ (k : Nat) (A' : Option Addr) (c' : Nat) (hs : List Ls), k + gk = bs.length ∧ x8 = .slice A' hs.length c' ∧ x26 = .int .i64 k ∧ Hid (NwLs wr (w.heap.size + 1) A' c' hs) ∧ Hid (hs.map (·.l) = xF b bs k) ∧ Hid (Cx w wr ⟨iA, iC, lA, lC, oA, oC, bA, bC, vA, vC, gA, gC, nA, nC⟩ ⟨mx, ins, aX, outs, aO, aN, au, bO⟩) ∧ Hid (Bools wr (some ⟨g, 0, none⟩) bs.length bs))
 case atStart => exact ⟨0, none, 0, [], by omega, rfl, rfl, NwLs.nil _ _, rfl, ie.out, HBO.out⟩
 case round =>
  obtain ⟨k, A', c', hs, hk, rfl, rfl, HN, HE, eR, dG⟩ := hrel
  have HK := aa hk
  have j4 : k ≤ bs.length := by omega
  have FR : hs.length ≤ k := by
   have := zM b bs k
   rw [← HE.out, ax] at this
   exact this
  clear hk hG ie HBO
  by_cases bM : k < bs.length
  ·have cb := dG.out.Gf bM
   have cf := dG.out.sV k
   have nZ := aa (wI b bs k)
   obtain ⟨t, ht⟩ : ∃ t, bs[k]! = t := ⟨_, rfl⟩
   rw [ht] at cb
   have HU1 : Hid (xG b bs k = if t = true then [] else [[-(b + k + 1)]]) := (by show _ = _; unfold xG; rw [ht])
   clear ht
   cases t with
   | true =>
    have HU2 : Hid (xG b bs k = []) := HU1.out
    go_wp2_with fail
    go_roundg (gk - 1)
    case measure => have := HK.out; omega
    case rel => exact ⟨k + 1, A', c', hs, by have := HK.out; omega, rfl, by go_num, HN.out, (by rw [HE.out, nZ.out, HU2.out, dJ] : _ = _), eR.out, dG.out⟩
   | false =>
    obtain ⟨v, oy⟩ : ∃ v, b + (k : Int) + 1 = v := ⟨_, rfl⟩
    have HU2 : Hid (xG b bs k = [[-v]]) := by have := HU1.out; rw [oy] at this; exact this
    have vM : 0 ≤ v ∧ v ≤ 1000000 := by omega
    have ep : IntKind.i64.wrap (-v) = -v := IntWalk.i64_in _ (by omega)
    have KOV := KO.out wr (k : Int) (by omega)
    rw [oy] at KOV
    have KOV := aa KOV
    have tc := aa vM
    clear oy HU1
    obtain ⟨wb, fd⟩ : ∃ W, (wr.alloc (.cells #[.int .i64 (-v)] 3)).alloc (.cells #[.slice (some ⟨wr.heap.size, 0, none⟩) 1 1] 22) = W := ⟨_, rfl⟩
    have oO : Hid (Ints wb (some ⟨wr.heap.size, 0, none⟩) 1 [-v]) := fd ▸ (gM wr [-v] (by simp [maxLen])).alloc _
    have gu : Hid (Fr [] wr wb) := fd ▸ ((aP _ _).ag (aP _ _))
    have nJ : wb.cell? ⟨wr.heap.size + 1, 0, none⟩ = some (.slice (some ⟨wr.heap.size, 0, none⟩) 1 1) := by
     have := (At.new (wr.alloc (.cells #[.int .i64 (-v)] 3)) 22 #[.slice (some ⟨wr.heap.size, 0, none⟩) 1 1]).cell 0
     rw [fd] at this
     simpa using this
    have zo := aa nJ
    have rL : Hid (w.heap.size + 1 ≤ wr.heap.size) := (eR.out.bx.lt : w.heap.size + 1 ≤ wr.heap.size)
    have Nb := aa (eR.out.keep gu.out)
    have Oh := aa (dG.out.frB gu.out (fun _ _ hm => by cases hm))
    clear nJ
    go_wp2_with fail
    refine KOV.out.mono ?_
    rintro e w3 ⟨rfl, rfl⟩
    go_wp2_with (at_builtin; (refine iZ _ rfl _ _ rfl A' c' hs HN.out gu.out (aE rL.out gu.out.size) hs.length rfl rfl ⟨wr.heap.size + 1, 0, none⟩ 1 1 [⟨some ⟨wr.heap.size, 0, none⟩, 1, [-v]⟩] rfl rfl (fun j hj => by (have : j = 0 := by simpa using hj); subst this; rw [dM]; exact zo.out) (fun h hh => by (have := an.1 hh); subst this; exact ⟨oO.out, Kf ⟨by have := tc.out; omega, by have := tc.out; omega⟩, by simp, fun k hk => by simp [ah] at hk; subst hk; exact rL.out⟩) (by simp; omega) ?_; intro A4 c4 w4 yy eF; have wv := aa yy; have jH := aa (Nb.out.push eF (HN.out.lt (Nat.lt_succ_self _))); have CL := aa (Oh.out.frB eF (z8 Oh.out (HN.out.keep gu.out).row (by decide))); clear yy eF))
    clear fd
    go_roundg (gk - 1)
    case measure => have := HK.out; omega
    case rel => exact ⟨k + 1, A4, c4, hs ++ [(⟨some ⟨wr.heap.size, 0, none⟩, 1, [-v]⟩ : Ls)], by have := HK.out; omega, by simp, by go_num, wv.out, (by rw [bP, HE.out, nZ.out, HU2.out]; rfl : _ = _), jH.out, CL.out⟩
  ·obtain rfl : k = bs.length := by omega
   obtain ⟨d0, d1, d2, d3, d4, d5, d6, d7⟩ := eR.out.cells
   try simp only at d0 d1 d2 d3 d4 d5 d6 d7
   have Vp : Hid (hs.length ≤ 2049) := (by show _ ≤ _; omega)
   obtain ⟨U, hU⟩ : ∃ U, xF b bs bs.length = U := ⟨_, rfl⟩
   rw [hU] at HE oZ
   clear HK hU dG FR
   go_wp2_with fail
   clear d0 d1 d2 d3 d4 d5 d6 d7
   go_loopg [8, 45] au.length (fun gk x8 x45 wr => ∃ (k : Nat) (A' : Option Addr) (c' : Nat) (hs : List Ls), k + gk = au.length ∧ x8 = .slice A' hs.length c' ∧ x45 = .int .i64 k ∧ Hid (NwLs wr (w.heap.size + 1) A' c' hs) ∧ Hid (hs.map (·.l) = U ++ yK b au k) ∧ Hid (hs.length ≤ 2049 + 3 * k) ∧ Hid (Cx w wr ⟨iA, iC, lA, lC, oA, oC, bA, bC, vA, vC, gA, gC, nA, nC⟩ ⟨mx, ins, aX, outs, aO, aN, au, bO⟩))
   case atStart => exact ⟨0, A', c', hs, by omega, rfl, rfl, HN.out, (by rw [HE.out]; simp [yK] : _ = _), Vp.out, eR.out⟩
   case round =>
    clear HN HE eR Vp
    obtain ⟨k, A', c', hs, hk, rfl, rfl, HN, HE, Vp, eR⟩ := hrel
    have HK := aa hk
    have j4 : k ≤ au.length := by omega
    have FR := Vp.out
    clear hk
    by_cases bM : k < au.length
    ·obtain ⟨b1, o, x, y, z, hA, he, cx, cy, cz, hx, hy, hz⟩ := (HH.out.keep eR.out.fr).g.one HGR.out bM
     try simp only at hA he
     subst hA
     have Hj := nZ.out k bM
     try simp only at Hj
     rw [he.out] at Hj
     try simp only at Hj
     have zD := aa (xo b au k bM)
     obtain ⟨tg, htg⟩ : ∃ u, cT b x = u := ⟨_, rfl⟩
     obtain ⟨tl, Dw⟩ : ∃ u, cT b y = u := ⟨_, rfl⟩
     obtain ⟨tr, NZ⟩ : ∃ u, cT b z = u := ⟨_, rfl⟩
     have dv : Hid (IF b au[k]! = [[-tg, tl], [-tg, tr], [tg, -tl, -tr]]) := by
      show _ = _
      unfold IF
      rw [he.out]
      simp only [htg, Dw, NZ]
     have JG := CG.out x (by omega)
     have AU := CG.out y (by omega)
     have hrr := CG.out z (by omega)
     rw [htg] at JG
     rw [Dw] at AU
     rw [NZ] at hrr
     have KX := fun W => KT.out W x (by omega)
     simp only [htg] at KX
     have KX := aa KX
     have KY := fun W => KT.out W y (by omega)
     simp only [Dw] at KY
     have KY := aa KY
     have KZ := fun W => KT.out W z (by omega)
     simp only [NZ] at KZ
     have KZ := aa KZ
     clear htg Dw NZ
     go_upto_region 15 with fail
     obtain ⟨wx, mP⟩ : ∃ W, wr.alloc (.cells #[.int .i64 x, .int .i64 y, .int .i64 z] 69) = W := ⟨_, rfl⟩
     have rZ : At wx wr.heap.size 69 #[.int .i64 x, .int .i64 y, .int .i64 z] := mP ▸ At.new _ _ _
     have kR : Hid (Fr [] wr wx) := mP ▸ aP _ _
     have f0 := rZ.cell 0
     have f1 := rZ.cell 1
     have f2 := rZ.cell 2
     simp at f0 f1 f2
     have g0 := Ext.cell f0
     have g1 := Ext.cell f1
     have g2 := Ext.cell f2
     have kD : IntKind.i64.wrap (-tg) = -tg := IntWalk.i64_in _ (by omega)
     have kW : IntKind.i64.wrap (-tl) = -tl := IntWalk.i64_in _ (by omega)
     have Cq : IntKind.i64.wrap (-tr) = -tr := IntWalk.i64_in _ (by omega)
     rw [mP]
     clear mP rZ cx cy cz f0 f1 f2
     refine al (by kernel_rfl) (by kernel_rfl) ?_
     repeat (go_big_quiet_step (first | with_reducible exact aV (KX.out _) | with_reducible exact aV (KY.out _) | with_reducible exact aV (KZ.out _)))
     refine wpQuiet_nil ?_
     rintro w3 ⟨u2, bJ⟩
     have rO : Hid (Fr [] wx w3) := bJ ▸ u2.fr
     clear bJ u2
     have cR := aa (kR.out.ag rO.out)
     clear g0 g1 g2 KX KY KZ rO
     obtain ⟨y1, gx⟩ : ∃ W, w3.alloc (.cells #[.int .i64 (-tg), .int .i64 tl] 3) = W := ⟨_, rfl⟩
     obtain ⟨y2, kg⟩ : ∃ W, y1.alloc (.cells #[.int .i64 (-tg), .int .i64 tr] 3) = W := ⟨_, rfl⟩
     obtain ⟨y3, Xn⟩ : ∃ W, y2.alloc (.cells #[.int .i64 tg, .int .i64 (-tl), .int .i64 (-tr)] 3) = W := ⟨_, rfl⟩
     obtain ⟨wb, fd⟩ : ∃ W, y3.alloc (.cells #[.slice (some ⟨w3.heap.size, 0, none⟩) 2 2, .slice (some ⟨y1.heap.size, 0, none⟩) 2 2, .slice (some ⟨y2.heap.size, 0, none⟩) 3 3] 22) = W := ⟨_, rfl⟩
     have oO : Hid (Ints wb (some ⟨w3.heap.size, 0, none⟩) 2 [-tg, tl]) := fd ▸ (Xn ▸ (kg ▸ (gx ▸ gM w3 [-tg, tl] (by simp [maxLen]) : Ints y1 _ _ _).alloc _ : Ints y2 _ _ _).alloc _ : Ints y3 _ _ _).alloc _
     have lY : Hid (Ints wb (some ⟨y1.heap.size, 0, none⟩) 2 [-tg, tr]) := fd ▸ (Xn ▸ (kg ▸ gM y1 [-tg, tr] (by simp [maxLen]) : Ints y2 _ _ _).alloc _ : Ints y3 _ _ _).alloc _
     have ZB : Hid (Ints wb (some ⟨y2.heap.size, 0, none⟩) 3 [tg, -tl, -tr]) := fd ▸ (Xn ▸ gM y2 [tg, -tl, -tr] (by simp [maxLen]) : Ints y3 _ _ _).alloc _
     have hya : Fr [] w3 y1 := gx ▸ aP _ _
     have NV : Fr [] y1 y2 := kg ▸ aP _ _
     have O0 : Fr [] y2 y3 := Xn ▸ aP _ _
     have hyd : Fr [] y3 wb := fd ▸ aP _ _
     have gu := aa (((hya.ag NV).ag O0).ag hyd)
     have NR : Hid (At wb y3.heap.size 22 #[.slice (some ⟨w3.heap.size, 0, none⟩) 2 2, .slice (some ⟨y1.heap.size, 0, none⟩) 2 2, .slice (some ⟨y2.heap.size, 0, none⟩) 3 3]) := fd ▸ At.new _ _ _
     have rL : Hid (w.heap.size + 1 ≤ w3.heap.size) := (aE eR.out.bx.lt cR.out.size : w.heap.size + 1 ≤ w3.heap.size)
     have UW : Hid (w.heap.size + 1 ≤ y1.heap.size) := aE rL.out hya.size
     have HW2 : Hid (w.heap.size + 1 ≤ y2.heap.size) := aE UW.out NV.size
     have Nb := aa ((eR.out.keep cR.out).keep gu.out)
     have Od : Hid (dB tg ∧ dB tl ∧ dB tr ∧ dB (-tg) ∧ dB (-tl) ∧ dB (-tr)) := (by unfold dB; omega : dB tg ∧ dB tl ∧ dB tr ∧ dB (-tg) ∧ dB (-tl) ∧ dB (-tr))
     have rq : w3.heap.size + 1 = y1.heap.size := by rw [← gx]; simp
     have hq2 : y1.heap.size + 1 = y2.heap.size := by rw [← kg]; simp
     have hq3 : y2.heap.size + 1 = y3.heap.size := by rw [← Xn]; simp
     clear hya NV O0 hyd JG AU hrr
     go_wp2_with (at_builtin; (refine iZ _ rfl _ _ rfl A' c' hs (HN.out.keep cR.out) gu.out (aE rL.out gu.out.size) hs.length rfl rfl ⟨y3.heap.size, 0, none⟩ 3 3 [⟨some ⟨w3.heap.size, 0, none⟩, 2, [-tg, tl]⟩, ⟨some ⟨y1.heap.size, 0, none⟩, 2, [-tg, tr]⟩, ⟨some ⟨y2.heap.size, 0, none⟩, 3, [tg, -tl, -tr]⟩] rfl rfl (fun j hj => by (have : j = 0 ∨ j = 1 ∨ j = 2 := by simp at hj; omega); rcases this with rfl | rfl | rfl <;> (rw [dM, NR.out.cell]; rfl)) (fun h hh => by (have Yh := hh; simp only [ay, cG, or_false] at Yh); obtain ⟨r1, r2, r3, r4, r5, r6⟩ := Od.out; rcases Yh with rfl | rfl | rfl; (exact ⟨oO.out, OE r4 r2, by simp, fun k hk => by simp [ah] at hk; subst hk; exact rL.out⟩); (exact ⟨lY.out, OE r4 r3, by simp, fun k hk => by simp [ah] at hk; subst hk; exact UW.out⟩); (exact ⟨ZB.out, acf r1 r5 r6, by simp, fun k hk => by simp [ah] at hk; subst hk; exact HW2.out⟩)) (by simp; omega) ?_; intro A4 c4 w4 yy eF; have wv := aa yy; have jH := aa (Nb.out.push eF (HN.out.lt (Nat.lt_succ_self _))); clear yy eF))
     clear fd
     go_roundg (gk - 1)
     case measure => have := HK.out; omega
     case rel => exact ⟨k + 1, A4, c4, hs ++ [(⟨some ⟨w3.heap.size, 0, none⟩, 2, [-tg, tl]⟩ : Ls), (⟨some ⟨y1.heap.size, 0, none⟩, 2, [-tg, tr]⟩ : Ls), (⟨some ⟨y2.heap.size, 0, none⟩, 3, [tg, -tl, -tr]⟩ : Ls)], by have := HK.out; omega, by simp, by go_num, wv.out, (by rw [bP, HE.out, zD.out, dv.out, List.append_assoc]; rfl : _ = _), (by have h9 : hs.length ≤ 2049 + 3 * k := Vp.out; show _ ≤ _; rw [ai]; show hs.length + 3 ≤ 2049 + 3 * (k + 1); omega), jH.out⟩
    ·obtain rfl : k = au.length := by omega
     clear HK
     go_wp2_with fail
     go_ret2
     exact ⟨A', c', hs, rfl, HN.out.low (by omega), by rw [HE.out, oZ.out], eR.out.fr⟩
theorem GI {C : Pc} (hv : Valid C) : ∀ x ∈ C.aN, 0 ≤ x ∧ x ≤ 4097 := by
 intro x hx
 have h := hv.v
 simp only [sz, aD, List.all_eq_true] at h
 have := jh hv (h.1 x hx)
 have := hv.m1
 omega
theorem tq {C : Pc} (hv : Valid C) : C.aN.length ≤ 64 := by
 have h := hv.v
 simp only [sz, aD, decide_eq_true_eq] at h
 omega
def Q7 (l : List Int) : Prop := l.length ≤ 1024 ∧ ∀ x ∈ l, 0 ≤ x ∧ x ≤ 4097
def lB (C : Pc) (am : List (List Int)) (b : Int) : List (List Int) := C.aN.map (fun x => [cT b x]) ++ am.map (fun l => l.map (cT b))
theorem uE (C : Pc) (am : List (List Int)) (b : Int) : (lB C am b).length = C.aN.length + am.length := by simp [lB]
theorem wX {α β : Type} [Inhabited α] (f : α → β) {l : List α} {k : Nat} (h : k < l.length) : (l.take (k + 1)).map f = (l.take k).map f ++ [f l[k]!] := Ao f h
theorem xP (w : World) (H : Hd) (C : Pc) (h : iE w H C) (hv : Valid C) (A : Option Addr) (c : Nat) (am : List Ls) (hr : CC w A am) (hf : ∀ x ∈ am, Q7 x.l) (ha : am.length ≤ 64) (b : Int) (hb : 0 ≤ b ∧ b ≤ 262144) :
  Calls Tryz.prog 102 #[dn H C, .slice A am.length c, .int .i64 b] w fun e w' => ∃ A c hs, e = .returned (.tuple #[.slice A hs.length c, .int .i64 0]) ∧ NwLs w' w.heap.size A c hs ∧ hs.map (·.l) = lB C (am.map (·.l)) b ∧ Fr [] w w' := by
 have HX := aa (Cx.start w H C)
 have KR := aa (o7 _ H C (h.keep HX.out.fr) hv b hb)
 have KT := aa (fun W x (hx : 0 ≤ x ∧ x ≤ 4097) => lu W b x (by omega) (by omega))
 have KC := aa (fun W A c l hr hx hl => vE W b hb A c l hr hx hl)
 have CG := aa (fun x (hx : 0 ≤ x ∧ x ≤ 4097) => mK (b := b) (l := x) (by omega) hx)
 have nZ := aa (GI hv)
 have sN := tq hv
 have HH := aa h
 have tc := aa h.vr
 have HR := aa hr
 have HFN := aa hf
 have ZR : Hid (lB C (am.map (·.l)) b = C.aN.map (fun x => [cT b x]) ++ (am.map (·.l)).map (fun l => l.map (cT b))) := (rfl : _ = _)
 clear h hv hr hf
 obtain ⟨mx, ins, aX, outs, aO, aN, au, bO⟩ := C
 obtain ⟨iA, iC, lA, lC, oA, oC, bA, bC, vA, vC, gA, gC, nA, nC⟩ := H
 simp only [dn, gH] at *
 obtain ⟨c0, c1, c2, c3, c4, c5, c6, c7⟩ := HX.out.cells
 try simp only at c0 c1 c2 c3 c4 c5 c6 c7
 go_enter Tryz.func102, Tryz.ntmps102
 go_wp2_with fail
 refine KR.out.mono ?_
 rintro e w1 ⟨rfl, cE⟩
 have hG := aa (HX.out.keep cE)
 obtain ⟨e0, e1, e2, e3, e4, e5, e6, e7⟩ := hG.out.cells
 try simp only at e0 e1 e2 e3 e4 e5 e6 e7
 clear cE c0 c1 c2 c3 c4 c5 c6 c7 KR HX
 go_wp2_with fail
 clear e0 e1 e2 e3 e4 e5 e6 e7
 go_loopg [10, 25] aN.length (fun gk wD x25 wr => ∃ (k : Nat) (A' : Option Addr) (c' : Nat) (hs : List Ls), k + gk = aN.length ∧ wD = .slice A' hs.length c' ∧ x25 = .int .i64 k ∧ Hid (NwLs wr (w.heap.size + 1) A' c' hs) ∧ Hid (hs.map (·.l) = (aN.take k).map (fun x => [cT b x])) ∧ Hid (Cx w wr ⟨iA, iC, lA, lC, oA, oC, bA, bC, vA, vC, gA, gC, nA, nC⟩ ⟨mx, ins, aX, outs, aO, aN, au, bO⟩))
 case atStart => exact ⟨0, none, 0, [], by omega, rfl, rfl, NwLs.nil _ _, rfl, hG.out⟩
 case round =>
  obtain ⟨k, A', c', hs, hk, rfl, rfl, HN, HE, eR⟩ := hrel
  have HK := aa hk
  have j4 : k ≤ aN.length := by omega
  have FR : hs.length ≤ k := by
   have := HN.out.gq HE.out
   rw [ax, bk] at this
   omega
  clear hk hG
  by_cases bM : k < aN.length
  ·obtain ⟨ab, o, x, hA, he, cx, gP, iP⟩ := (HH.out.keep eR.out.fr).v.one tc.out bM
   try simp only at hA he
   subst hA
   have Oe := aa (wX (fun x : Int => [cT b x]) bM)
   rw [he.out] at Oe
   have Cp := nZ.out x (by rw [← he.out]; exact bw bM)
   obtain ⟨v, oy⟩ : ∃ v, cT b x = v := ⟨_, rfl⟩
   have vM := CG.out x (by omega)
   have KX := KT.out wr x (by omega)
   rw [oy] at KX vM Oe
   have KX := aa KX
   have Zi := aa vM
   clear oy vM
   obtain ⟨wb, fd⟩ : ∃ W, (wr.alloc (.cells #[.int .i64 v] 3)).alloc (.cells #[.slice (some ⟨wr.heap.size, 0, none⟩) 1 1] 22) = W := ⟨_, rfl⟩
   have oO : Hid (Ints wb (some ⟨wr.heap.size, 0, none⟩) 1 [v]) := fd ▸ (gM wr [v] (by simp [maxLen])).alloc _
   have gu : Hid (Fr [] wr wb) := fd ▸ ((aP _ _).ag (aP _ _))
   have nJ : wb.cell? ⟨wr.heap.size + 1, 0, none⟩ = some (.slice (some ⟨wr.heap.size, 0, none⟩) 1 1) := by
    have := (At.new (wr.alloc (.cells #[.int .i64 v] 3)) 22 #[.slice (some ⟨wr.heap.size, 0, none⟩) 1 1]).cell 0
    rw [fd] at this
    simpa using this
   have zo := aa nJ
   have rL : Hid (w.heap.size + 1 ≤ wr.heap.size) := (eR.out.bx.lt : w.heap.size + 1 ≤ wr.heap.size)
   have Nb := aa (eR.out.keep gu.out)
   clear nJ
   go_wp2_with fail
   refine KX.out.mono ?_
   rintro e w3 ⟨rfl, rfl⟩
   go_wp2_with (at_builtin; (refine iZ _ rfl _ _ rfl A' c' hs HN.out gu.out (aE rL.out gu.out.size) hs.length rfl rfl ⟨wr.heap.size + 1, 0, none⟩ 1 1 [⟨some ⟨wr.heap.size, 0, none⟩, 1, [v]⟩] rfl rfl (fun j hj => by (have : j = 0 := by simpa using hj); subst this; rw [dM]; exact zo.out) (fun h hh => by (have := an.1 hh); subst this; exact ⟨oO.out, Kf ⟨by have := Zi.out; omega, by have := Zi.out; omega⟩, by simp, fun k hk => by simp [ah] at hk; subst hk; exact rL.out⟩) (by simp; omega) ?_; intro A4 c4 w4 yy eF; have wv := aa yy; have jH := aa (Nb.out.push eF (HN.out.lt (Nat.lt_succ_self _))); clear yy eF))
   clear fd
   go_roundg (gk - 1)
   case measure => have := HK.out; omega
   case rel => exact ⟨k + 1, A4, c4, hs ++ [(⟨some ⟨wr.heap.size, 0, none⟩, 1, [v]⟩ : Ls)], by have := HK.out; omega, by simp, by go_num, wv.out, (by rw [bP, HE.out, Oe.out]; rfl : _ = _), jH.out⟩
  ·obtain rfl : k = aN.length := by omega
   obtain ⟨d0, d1, d2, d3, d4, d5, d6, d7⟩ := eR.out.cells
   try simp only at d0 d1 d2 d3 d4 d5 d6 d7
   rw [fO] at HE
   obtain ⟨U, hU⟩ : ∃ U, aN.map (fun x => [cT b x]) = U := ⟨_, rfl⟩
   have vo : U.length ≤ 64 := by rw [← hU, ax]; exact sN
   rw [hU] at HE
   try simp only at ZR
   rw [hU] at ZR
   clear HK hU FR
   go_wp2_with fail
   clear d0 d1 d2 d3 d4 d5 d6 d7
   go_loopg [10, 39] am.length (fun gk wD x39 wr => ∃ (k : Nat) (A' : Option Addr) (c' : Nat) (hs : List Ls), k + gk = am.length ∧ wD = .slice A' hs.length c' ∧ x39 = .int .i64 k ∧ Hid (NwLs wr (w.heap.size + 1) A' c' hs) ∧ Hid (hs.map (·.l) = U ++ ((am.map (·.l)).take k).map (fun l => l.map (cT b))) ∧ Hid (Cx w wr ⟨iA, iC, lA, lC, oA, oC, bA, bC, vA, vC, gA, gC, nA, nC⟩ ⟨mx, ins, aX, outs, aO, aN, au, bO⟩))
   case atStart => exact ⟨0, A', c', hs, by omega, rfl, rfl, HN.out, (by rw [HE.out]; simp : _ = _), eR.out⟩
   case round =>
    clear HN HE eR
    obtain ⟨k, A', c', hs, hk, rfl, rfl, HN, HE, eR⟩ := hrel
    have HK := aa hk
    have j4 : k ≤ am.length := by omega
    have FR : hs.length ≤ 64 + k := by
     have := HN.out.gq HE.out
     rw [ai, ax, bk, ax] at this
     omega
    clear hk
    by_cases bM : k < am.length
    ·obtain ⟨ab, o, B1, d1, l1, hA, he, Ev, TJ⟩ := (HR.out.keep eR.out.fr).one bM
     subst hA
     have kQ := aa TJ
     have zr : k < (am.map (·.l)).length := by rw [ax]; exact bM
     have Oe := aa (wX (fun l : List Int => l.map (cT b)) zr)
     have JH : (am.map (·.l))[k]! = l1 := by
      have := he.out
      rw [ae, af bM] at this
      simp only [aq] at this
      rw [ae, bh, af bM]
      simp [this]
     rw [JH] at Oe
     have Ui : Q7 l1 := by
      have := HFN.out (am[k]!) (bw bM)
      rw [he.out] at this
      exact this
     have FY : l1.length ≤ 1024 := Ui.1
     have HFL := aa Ui
     have KCX := aa (KC.out wr B1 d1 l1 TJ.1 Ui.2 (by have := Ui.1; omega))
     clear zr JH TJ Ui
     go_wp2_with fail
     refine KCX.out.mono ?_
     rintro e w3 ⟨B2, d2, rfl, qg, se, cd⟩
     have lZ := aa qg
     have jp := aa se
     have cJ := aa cd
     clear qg se cd KCX
     obtain ⟨wb, fd⟩ : ∃ W, w3.alloc (.cells #[.slice B2 l1.length d2] 22) = W := ⟨_, rfl⟩
     have gu : Hid (Fr [] w3 wb) := fd ▸ aP _ _
     have oO := aa (lZ.out.fr gu.out (fun _ _ hm => by cases hm))
     have nJ : wb.cell? ⟨w3.heap.size, 0, none⟩ = some (.slice B2 l1.length d2) := by
      have := (At.new w3 22 #[.slice B2 l1.length d2]).cell 0
      rw [fd] at this
      simpa using this
     have zo := aa nJ
     have rL : Hid (w.heap.size + 1 ≤ wr.heap.size) := (eR.out.bx.lt : w.heap.size + 1 ≤ wr.heap.size)
     have Nb := aa ((eR.out.keep cJ.out).keep gu.out)
     have oN : Hid ((l1.map (cT b)).length = l1.length) := (ax .. : _ = _)
     have Je : Hid (Ra (l1.map (cT b))) := (eN (p := dB)).2 fun x hx => by
      obtain ⟨y, hy, rfl⟩ := bE.1 hx
      have := CG.out y (HFL.out.2 y hy)
      exact ⟨by omega, by omega⟩
     clear nJ
     go_wp2_with (at_builtin; (refine iZ _ rfl _ _ rfl A' c' hs (HN.out.keep cJ.out) gu.out (aE rL.out (aE cJ.out.size gu.out.size)) hs.length rfl rfl ⟨w3.heap.size, 0, none⟩ 1 1 [⟨B2, d2, l1.map (cT b)⟩] rfl rfl (fun j hj => by (have : j = 0 := by simpa using hj); subst this; rw [dM]; show _ = some (Value.slice B2 (l1.map (cT b)).length d2); rw [oN.out]; exact zo.out) (fun h hh => by (have := an.1 hh); subst this; exact ⟨oO.out, Je.out, by show (l1.map (cT b)).length ≤ _; rw [oN.out]; omega, fun k hk => aE rL.out (jp.out k hk)⟩) (by simp; omega) ?_; intro A4 c4 w4 yy eF; have wv := aa yy; have jH := aa (Nb.out.push eF (HN.out.lt (Nat.lt_succ_self _))); clear yy eF))
     clear fd
     go_roundg (gk - 1)
     case measure => have := HK.out; omega
     case rel => exact ⟨k + 1, A4, c4, hs ++ [(⟨B2, d2, l1.map (cT b)⟩ : Ls)], by have := HK.out; omega, by simp, by go_num, wv.out, (by rw [bP, HE.out, Oe.out, List.append_assoc]; rfl : _ = _), jH.out⟩
    ·obtain rfl : k = am.length := by omega
     have cL : Hid (hs.map (·.l) = U ++ (am.map (·.l)).map (fun l => l.map (cT b))) := by
      have := HE.out
      rw [dh (by rw [ax]; exact ao _)] at this
      exact this
     clear HK HE
     go_wp2_with fail
     go_ret2
     exact ⟨A', c', hs, rfl, HN.out.low (by omega), by rw [cL.out, ZR.out], eR.out.fr⟩
namespace Sv
def dQ (S : Sv) : List (List Int) → Sv
 | [] => S
 | c :: r => dQ (S.fM c).1 r
theorem oJ (S : Sv) : ∀ l r : List (List Int), S.dQ (l ++ r) = (S.dQ l).dQ r
 | [], r => rfl
 | c :: l, r => oJ (S.fM c).1 l r
theorem gE.dQ {vars U V : Nat} : ∀ {ls : List (List Int)} {S : Sv}, gE vars U V S → V + ls.length ≤ 8388608 → (∀ c ∈ ls, Ra c) → gE vars U (V + ls.length) (S.dQ ls)
 | [], S, h, _, _ => h
 | c :: r, S, h, hl, hr => by
  simp only [kV] at hl ⊢
  have := gE.dQ (h.add (by omega) (hr c bY)) (by omega : V + 1 + r.length ≤ _) (fun d hd => hr d (bR _ hd))
  rw [show V + (r.length + 1) = V + 1 + r.length by omega]
  exact this
end Sv
theorem Stay.cell {X : List Nat} {w w' : World} (h : Stay X w w') {p : Addr} {v : Value} (hc : w.cell? p = some v) (hx : p.block ∈ X) : w'.cell? p = some v := by
 obtain ⟨T, h1, h2⟩ := h
 rw [World.cell?_of_block (h1.block p.block (bt hc) (h2 _ hx))]
 exact hc
set_option maxRecDepth 100000 in
theorem An {X : List Nat} {w0 : World} (w : World) (L : aH) (S : Sv) (h : OwnX X w0 w L S) {vars V : Nat} (vt : S.gE vars 0 V) (A : Option Addr) (c : Nat) (hs : List Ls) (hr : CC w A hs) (hxA : ∀ k ∈ ah A, k ∈ X) (hxs : ∀ x ∈ hs, ∀ k ∈ ah x.A, k ∈ X)
  (Qj : ∀ x ∈ hs, kK vars x.l = 0) (hl : V + hs.length ≤ 8388608) :
  Calls Tryz.prog 70 #[.pointer (some ⟨L.a, 0, none⟩), .slice A hs.length c] w (OxP X (.int .i64 0) (S.dQ (hs.map (·.l))) L.a w0 w) := by
 obtain ⟨RES, co⟩ : ∃ RES, S.dQ (hs.map (·.l)) = RES := ⟨_, rfl⟩
 rw [co]
 obtain ⟨a, ha⟩ : ∃ a, L.a = a := ⟨_, rfl⟩
 rw [ha]
 have HA0 := aa ha
 have dC := aa co
 have HH := aa hr
 have Zq := aa h
 have ZF := aa vt
 have HXA := aa hxA
 have HXS := aa hxs
 have Ss := aa Qj
 have HXL := aa (fun k hk => (h.fx k hk).1)
 clear h hr co ha vt hxA hxs Qj
 go_enter Tryz.func70, Tryz.ntmps70
 go_wp2_with fail
 go_loopg [10] hs.length (fun g wD wr => ∃ (k : Nat) (L : aH) (S : Sv), k + g = hs.length ∧ wD = .int .i64 k ∧ Hid (L.a = a) ∧ Hid (OwnX X w0 wr L S) ∧ Hid (Stay X w wr) ∧ Hid (S.gE vars 0 (V + k)) ∧ Hid (S.dQ ((hs.map (·.l)).drop k) = RES))
 case atStart => exact ⟨0, L, S, by omega, rfl, HA0, Zq, Stay.of (Fr.refl _ w), ZF, dC⟩
 case round =>
  clear HA0 Zq ZF dC
  obtain ⟨k, L, S, hk, rfl, Gz, HOW, Gw, Vn, dC⟩ := hrel
  have HK := aa hk
  have j4 : k ≤ hs.length := by omega
  clear hk
  by_cases bM : k < hs.length
  ·obtain ⟨b, o, B, d, l, hA, hx, cx, ok⟩ := HH.out.one bM
   have NW : (⟨B, d, l⟩ : Ls) ∈ hs := by rw [← hx.out]; exact bw bM
   have e2 := Gw.out.cell cx (HXA.out b (by rw [hA]; simp [ah]))
   subst hA
   have vt := Vn.out
   have Tc := vt.vars
   have Ma : kK S.vars l = 0 := by rw [Tc]; exact Ss.out _ NW
   have FR : S.list.length < 2199023255552 := by have := vt.list; omega
   have KA := HOW.out.add vt.inv.ok B d l (HOW.out.Qs (Gw.out.rd ok.1 (HXS.out _ NW)) (HXS.out _ NW)) ok.2.1 (fun h => (ok.2.2.2 h).2) FR (by have := vt.used; omega)
   rw [I3, Gz.out, Ma] at KA
   have vv := Dm bM
   rw [hx.out] at vv
   have fa := dC.out
   rw [vv, Sv.dQ] at fa
   have qd := aa fa
   have Cb := aa (vt.add (by omega) ok.2.1)
   have KA := aa KA
   clear vt Tc Ma FR vv fa ok cx NW hx
   go_wp2_with fail
   refine KA.out.mono ?_
   clear KA
   rintro e w4 ⟨rfl, L4, RX, h4, s4⟩
   have ZA := aa RX
   have H4 := aa h4
   have Wh := aa (Gw.out.ag s4 HXL.out)
   clear h4 RX s4 e2
   go_wp2_with fail
   go_roundg (gk - 1)
   case measure => have := HK.out; omega
   case rel => exact ⟨k + 1, L4, _, by have := HK.out; omega, by go_num, ZA, H4, Wh, Cb, qd⟩
  ·obtain rfl : k = hs.length := by omega
   have qi : Hid (S = RES) := by
    have := dC.out
    rw [List.drop_of_length_le (by simp)] at this
    exact this
   clear HK dC
   go_wp2_with fail
   go_ret
   exact ⟨rfl, L, Gz.out, qi.out ▸ HOW.out, Gw.out⟩
end Go.Proofs.YtpjbaobgnhjgoaaGreat
