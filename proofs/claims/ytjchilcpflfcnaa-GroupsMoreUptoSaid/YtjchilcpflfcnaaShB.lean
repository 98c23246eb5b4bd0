/-  -/
import Derived.Test.YtjchilcpflfcnaaShA
import Derived.Test.YtjchilcpflfcnaaSgK
set_option linter.unusedVariables false
set_option maxHeartbeats 4000000
set_option maxRecDepth 100000
namespace Go.Proofs.Ytjchilcpflfcnaa
open Go.RowKit
theorem stable_calls (g : Nat) (cb : Array Value) (q : Int → Int → Int) (eg : ∀ args w, (callFunc g args).run Try.prog w = .ok (.enter g args) w) (w : World) (A : Option Addr) (c : Nat) (xs : List Int) (h : Ints w A c xs) (hl : xs.length ≤ 17592186044416) (hc : Cmps g cb q A xs w) :
  Calls Try.prog 89 #[.slice A xs.length c, .int .i64 xs.length, .func (.func g) #[] cb] w (PmP A c xs w) := by
 obtain ⟨n, hn⟩ : ∃ n, xs.length = n := ⟨_, rfl⟩
 have HN := Lib.hid hn
 have HH := Lib.hid h
 have HC := Lib.hid hc
 rw [hn]
 rw [hn] at hl
 clear h hc hn
 have KI : Hid (∀ (W : World) (ys : List Int), ys.Perm xs → Ints W A c ys → Fr (blks A) w W → ∀ a b : Nat, a ≤ b → b ≤ n → Calls Try.prog 74 #[.slice A n c, .int .i64 a, .int .i64 b, .func (.func g) #[] cb] W fun e w' => e = .returned (.tuple #[]) ∧ Pm A c xs w w') := fun W ys hp hi hf a b h1 h2 => by
  have hlen : ys.length = n := hp.length_eq.trans HN.out
  have := insertion_calls W A c ys hi (by omega) a b h1 (by omega) g cb q eg (HC.out.then_ hf hp)
  rw [hlen] at this
  exact this.mono fun e w' he => ⟨he.pm.1, he.pm.2.step hp hf⟩
 have KM : Hid (∀ (W : World) (ys : List Int), ys.Perm xs → Ints W A c ys → Fr (blks A) w W → ∀ a m b : Nat, a < m → m < b → b ≤ n → Calls Try.prog 97 #[.slice A n c, .int .i64 a, .int .i64 m, .int .i64 b, .func (.func g) #[] cb] W fun e w' => e = .returned (.tuple #[]) ∧ Pm A c xs w w') := fun W ys hp hi hf a m b h1 h2 h3 => by
  have hlen : ys.length = n := hp.length_eq.trans HN.out
  have := symmerge_calls g cb q eg (b - a) W A c ys hi (by omega) a m b h1 h2 (by omega) (HC.out.then_ hf hp) (Nat.le_refl _)
  rw [hlen] at this
  exact this.mono fun e w' he => ⟨he.pm.1, he.pm.2.step hp hf⟩
 go_enter Try.func89, Try.ntmps89
 go_wp2_with fail
 go_loopg [7, 8] n (fun g x7 x8 wr => ∃ (a : Nat), n ≤ a + g ∧ a ≤ n ∧ x7 = .int .i64 a ∧ x8 = .int .i64 (a + 20 : Nat) ∧ Hid (Pm A c xs w wr))
 case atStart => exact ⟨0, by omega, by omega, rfl, rfl, ⟨xs, List.Perm.refl _, HH.out, Fr.refl _ _⟩⟩
 case round =>
  obtain ⟨a, hg, ha, rfl, rfl, HP⟩ := hrel
  have HG := Lib.hid hg
  clear hg
  obtain ⟨b, hb⟩ : ∃ b, a + 20 = b := ⟨_, rfl⟩
  rw [hb]
  by_cases hbn : b ≤ n
  ·have hbi : (b : Int) ≤ (n : Int) := by omega
   have w1 : IntKind.i64.wrap ((b : Int) + 20) = (b : Int) + 20 := IntWalk.i64_in _ (by omega)
   obtain ⟨ys, y1, y2, y3⟩ := HP.out
   have K := Lib.hid (KI.out wr ys y1 y2 y3 a b (by omega) hbn)
   have HB := Lib.hid hb
   clear y1 y2 y3 hb HP
   go_wp2_with fail
   refine K.out.mono ?_
   clear K
   rintro e w2 ⟨rfl, hp⟩
   have HP := Lib.hid hp
   clear hp
   go_wp2_with fail
   go_roundg (n - b)
   case measure => have := HG.out; have := HB.out; omega
   case rel => exact ⟨b, by omega, hbn, rfl, by go_num, HP.out⟩
  ·have hbi : (n : Int) < (b : Int) := by omega
   obtain ⟨ys, y1, y2, y3⟩ := HP.out
   have K := Lib.hid (KI.out wr ys y1 y2 y3 a n ha (Nat.le_refl _))
   clear y1 y2 y3 hb HP
   go_wp2_with fail
   refine K.out.mono ?_
   clear K
   rintro e w2 ⟨rfl, hp⟩
   have HP := Lib.hid hp
   clear hp
   go_wp2_with fail
   go_loopg [6, 7, 8] (n + 1) (fun g x6 x7 x8 wr => ∃ (k : Nat), n + 1 ≤ k + g ∧ 20 ≤ k ∧ k ≤ 2 * n + 20 ∧ x6 = .int .i64 k ∧ Hid (Pm A c xs w wr))
   case atStart => exact ⟨20, by omega, by omega, by omega, rfl, HP.out⟩
   case round =>
    obtain ⟨k, hg2, hk, hk2, rfl, HP2⟩ := hrel
    have HG2 := Lib.hid hg2
    have HK := Lib.hid hk2
    clear hg2 hk2 HP
    by_cases hkn : k < n
    ·obtain ⟨k2, hk2⟩ : ∃ k2, 2 * k = k2 := ⟨_, rfl⟩
     have w1 : IntKind.i64.wrap (2 * (k : Int)) = (k2 : Int) := by rw [IntWalk.i64_in _ (by omega)]; omega
     have w1' : IntKind.i64.wrap ((k : Int) * 2) = (k2 : Int) := by rw [IntWalk.i64_in _ (by omega)]; omega
     have HK2 := Lib.hid hk2
     have hk20 : k2 ≤ 35184372088832 := by omega
     clear hk2
     go_wp2_with fail
     go_loopg [7, 8] n (fun g x7 x8 wr => ∃ (a : Nat), n ≤ a + g ∧ a ≤ n ∧ x7 = .int .i64 a ∧ x8 = .int .i64 (a + k2 : Nat) ∧ Hid (Pm A c xs w wr))
     case atStart => exact ⟨0, by omega, by omega, rfl, by rw [Nat.zero_add], HP2.out⟩
     case round =>
      obtain ⟨a, hg, ha, rfl, rfl, HP⟩ := hrel
      have HG3 := Lib.hid hg
      clear hg HP2
      obtain ⟨b, hb⟩ : ∃ b, a + k2 = b := ⟨_, rfl⟩
      obtain ⟨m, hm⟩ : ∃ m, a + k = m := ⟨_, rfl⟩
      rw [hb]
      have wm : IntKind.i64.wrap ((a : Int) + (k : Int)) = (m : Int) := by rw [IntWalk.i64_in _ (by omega)]; omega
      by_cases hbn : b ≤ n
      ·have hbi : (b : Int) ≤ (n : Int) := by omega
       have wb : IntKind.i64.wrap ((b : Int) + (k2 : Int)) = (b : Int) + (k2 : Int) := IntWalk.i64_in _ (by omega)
       obtain ⟨ys, y1, y2, y3⟩ := HP.out
       have K := Lib.hid (KM.out wr ys y1 y2 y3 a m b (by omega) (by have := HK2.out; omega) hbn)
       have HB := Lib.hid hb
       clear y1 y2 y3 hb hm HP
       go_wp2_with fail
       refine K.out.mono ?_
       clear K
       rintro e w2 ⟨rfl, hp⟩
       have HP := Lib.hid hp
       clear hp
       go_wp2_with fail
       go_roundg (n - b)
       case measure => have := HG3.out; have := HB.out; have := HK2.out; omega
       case rel => exact ⟨b, by omega, hbn, rfl, by go_num, HP.out⟩
      ·have hbi : (n : Int) < (b : Int) := by omega
       by_cases hmn : m < n
       ·have hmi : (m : Int) < (n : Int) := by omega
        obtain ⟨ys, y1, y2, y3⟩ := HP.out
        have K := Lib.hid (KM.out wr ys y1 y2 y3 a m n (by omega) hmn (Nat.le_refl _))
        clear y1 y2 y3 hb hm HP
        go_wp2_with fail
        refine K.out.mono ?_
        clear K
        rintro e w2 ⟨rfl, hp⟩
        have HP := Lib.hid hp
        clear hp
        go_wp2_with fail
        go_roundg (n + 1 - k2)
        case measure => have := HG2.out; have := HK2.out; omega
        case rel => exact ⟨k2, by omega, by have := HK2.out; omega, by have := HK2.out; omega, rfl, HP.out⟩
       ·have hmi : (n : Int) ≤ (m : Int) := by omega
        clear hb hm
        go_wp2_with fail
        go_roundg (n + 1 - k2)
        case measure => have := HG2.out; have := HK2.out; omega
        case rel => exact ⟨k2, by omega, by have := HK2.out; omega, by have := HK2.out; omega, rfl, HP.out⟩
    ·have hki : (n : Int) ≤ (k : Int) := by omega
     go_wp2_with fail
     go_end0
     exact HP2.out.pmp
theorem sortstable_calls (g : Nat) (cb : Array Value) (q : Int → Int → Int) (eg : ∀ args w, (callFunc g args).run Try.prog w = .ok (.enter g args) w) (w : World) (A : Option Addr) (c : Nat) (xs : List Int) (h : Ints w A c xs) (hl : xs.length ≤ 17592186044416) (hc : Cmps g cb q A xs w) :
  Calls Try.prog 66 #[.slice A xs.length c, .func (.func g) #[] cb] w (PmP A c xs w) := by
 have K := Lib.hid (stable_calls g cb q eg w A c xs h hl hc)
 clear h hc
 go_enter Try.func66, Try.ntmps66
 go_wp2_with fail
 refine K.out.mono ?_
 clear K
 rintro e w2 ⟨rfl, hp⟩
 have HP : Hid (Pm A c xs w w2) := hp
 clear hp
 go_wp2_with fail
 go_end0
 exact HP.out.pmp
theorem locked_calls (w : World) (L : SvL) (S : Sv) (h : SvAt w L S) (m : Nat) (ok : S.Ok m) (n : Nat) (hn : n < S.list.length) (h0 : 0 < (S.rc n).lits.length) :
  Calls Try.prog 65 #[.pointer (some ⟨L.a, 0, none⟩), .int .i64 n] w fun e w' => e = .returned (.bool (S.locked n)) ∧ Fr [] w w' := by
 have hnc : n < L.cs.length := by rw [h.lenc]; exact hn
 have hrc := h.rc_eq hnc
 obtain ⟨gc, hgc, x0, -, -⟩ := h.rcell hnc
 have hrow := h.ech n hnc
 have hlit := ok.lit (n := n) (k := 0) h0
 rw [hrc] at h0 hlit
 obtain ⟨⟨A, c, l, b, ac⟩, hx⟩ : ∃ x, L.cs[n]! = x := ⟨_, rfl⟩
 rw [hx] at hrc x0 hrow h0 hlit
 simp only [Cw.rc] at hrc x0 hrow h0 hlit
 have hvl := ok.vl
 have hll := ok.ll
 obtain ⟨ga, hA, hgl⟩ := hrow.pos h0
 subst hA
 have cy := hrow.cell h0
 obtain ⟨y, hy⟩ : ∃ y, l[0]! = y := ⟨_, rfl⟩
 rw [hy] at cy hlit
 obtain ⟨c0, -, -, c3, -⟩ := h.cells
 rw [hgc] at c3
 have hlc := h.lenc
 rw [hlc] at c3
 have hlk : S.locked n = (decide (0 < S.T.valF y) && decide (S.T.reaB (tv y) = (n : Int) + 1)) := by
  unfold Sv.locked
  rw [hrc]
  simp only
  rw [hy]
  rfl
 have hni : (n : Int) < (S.list.length : Int) := by omega
 have hli : (0 : Int) < (l.length : Int) := by omega
 have KV := Lib.hid (trail_value w L.tL S.T h.tr y (by omega) (by omega) ok.small)
 have KR := Lib.hid (trail_reason w L.tL S.T h.tr (tv y))
 have hmx := max_tv (x := y) (by omega)
 have hw1 : IntKind.i64.wrap (-y) = -y := IntWalk.i64_in _ (by omega)
 have hw2 : IntKind.i64.wrap ((n : Int) + 1) = (n : Int) + 1 := IntWalk.i64_in _ (by omega)
 obtain ⟨v, hv⟩ : ∃ v, S.T.valF y = v := ⟨_, rfl⟩
 obtain ⟨t, ht⟩ : ∃ t, tv y = t := ⟨_, rfl⟩
 obtain ⟨r, hr⟩ : ∃ r, S.T.reaB t = r := ⟨_, rfl⟩
 rw [hv] at KV
 rw [ht, hr] at KR
 rw [ht] at hmx
 rw [hlk, hv, ht, hr]
 obtain ⟨res, hres⟩ : ∃ res, (decide (0 < v) && decide (r = (n : Int) + 1)) = res := ⟨_, rfl⟩
 rw [hres]
 have HRES := Lib.hid hres
 clear hlk hv hr ht hy hrc hx hrow h hlc hres
 go_enter Try.func65, Try.ntmps65
 go_wp2_with fail
 refine KV.out.mono ?_
 clear KV
 rintro e w2 ⟨rfl, rfl⟩
 by_cases hv0 : 0 < v
 ·by_cases hrn : r = (n : Int) + 1
  ·have hb : (r == (n : Int) + 1) = true := by simpa using hrn
   by_cases hyy : y < -y
   ·rw [if_pos hyy] at hmx
    go_wp2_with fail
    refine KR.out.mono ?_
    rintro e w2 ⟨rfl, rfl⟩
    go_wp2_with fail
    go_ret
    exact ⟨by rw [← HRES.out, decide_eq_true hv0, decide_eq_true hrn]; rfl, Fr.refl _ _⟩
   ·rw [if_neg hyy] at hmx
    have hy2 : -y ≤ y := by omega
    go_wp2_with fail
    refine KR.out.mono ?_
    rintro e w2 ⟨rfl, rfl⟩
    go_wp2_with fail
    go_ret
    exact ⟨by rw [← HRES.out, decide_eq_true hv0, decide_eq_true hrn]; rfl, Fr.refl _ _⟩
  ·have hb : (r == (n : Int) + 1) = false := by simpa using hrn
   by_cases hyy : y < -y
   ·rw [if_pos hyy] at hmx
    go_wp2_with fail
    refine KR.out.mono ?_
    rintro e w2 ⟨rfl, rfl⟩
    go_wp2_with fail
    go_ret
    exact ⟨by rw [← HRES.out, decide_eq_true hv0, decide_eq_false hrn]; rfl, Fr.refl _ _⟩
   ·rw [if_neg hyy] at hmx
    have hy2 : -y ≤ y := by omega
    go_wp2_with fail
    refine KR.out.mono ?_
    rintro e w2 ⟨rfl, rfl⟩
    go_wp2_with fail
    go_ret
    exact ⟨by rw [← HRES.out, decide_eq_true hv0, decide_eq_false hrn]; rfl, Fr.refl _ _⟩
 ·have hv1 : v ≤ 0 := by omega
  go_wp2_with fail
  go_ret
  exact ⟨by rw [← HRES.out, decide_eq_false (by omega : ¬ 0 < v)]; rfl, Fr.refl _ _⟩
def actQ (S : Sv) (x y : Int) : Int := wrap64 ((S.rc x.toNat).act - (S.rc y.toNat).act)
theorem red1_calls (w : World) (L : SvL) (S : Sv) (h : SvAt w L S) (k : Nat) (hk : w.cell? ⟨k, 0, none⟩ = some (.pointer (some ⟨L.a, 0, none⟩))) (x y : Nat) (hx : x < S.list.length) (hy : y < S.list.length) :
  Calls Try.prog 67 #[.int .i64 x, .int .i64 y, .pointer (some ⟨k, 0, none⟩)] w fun e w' => e = .returned (.int .i64 (actQ S (x : Int) (y : Int))) ∧ Fr [] w w' := by
 have hxc : x < L.cs.length := by rw [h.lenc]; exact hx
 have hyc : y < L.cs.length := by rw [h.lenc]; exact hy
 obtain ⟨gc, hgc, -, -, x2⟩ := h.rcell hxc
 obtain ⟨gc', hgc', -, -, y2⟩ := h.rcell hyc
 rw [hgc] at hgc'
 obtain rfl : gc = gc' := by simpa using hgc'
 have ex := h.rc_eq hxc
 have ey := h.rc_eq hyc
 obtain ⟨-, -, -, c3, -⟩ := h.cells
 rw [hgc, h.lenc] at c3
 have hxi : (x : Int) < (S.list.length : Int) := by omega
 have hyi : (y : Int) < (S.list.length : Int) := by omega
 have hq : actQ S (x : Int) (y : Int) = wrap64 ((L.cs[x]!).act - (L.cs[y]!).act) := by
  unfold actQ
  rw [Int.toNat_natCast, Int.toNat_natCast, ex, ey]
  rfl
 rw [hq]
 obtain ⟨u, hu⟩ : ∃ u, (L.cs[x]!).act = u := ⟨_, rfl⟩
 obtain ⟨v, hv⟩ : ∃ v, (L.cs[y]!).act = v := ⟨_, rfl⟩
 rw [hu] at x2 ⊢
 rw [hv] at y2 ⊢
 have e0 := Ext.cell hk
 have e1 := Ext.cell c3
 have e2 := Ext.cell x2
 have e3 := Ext.cell y2
 clear hq hu hv ex ey h hgc' hgc hxc hyc hk c3 x2 y2
 go_enter Try.func67, Try.ntmps67
 go_wp2_with fail
 refine wp_region_ext (by kernel_rfl) (by kernel_rfl) ?_
 repeat (go_big_quiet_step (fail))
 refine wpQuiet_nil ?_
 rintro w2 ⟨u2, hu2⟩
 have HF_w2 : Hid (Fr [] w w2) := hu2 ▸ u2.fr
 clear hu2 u2
 clear e0 e1 e2 e3
 go_wp2_with fail
 go_ret
 exact ⟨rfl, HF_w2.out⟩
theorem enters_red1 : ∀ args w, (callFunc 67 args).run Try.prog w = .ok (.enter 67 args) w := enters_of Try.func67 (by kernel_rfl) rfl
theorem SvAt.dropc {w : World} {L : SvL} {S : Sv} (h : SvAt w L S) {n : Nat} (hn : n < L.cs.length) {gc : Nat} (hgc : L.cA = some ⟨gc, 0, none⟩) :
  w.frozen? ⟨gc, n * 3, none⟩ = false ∧ w.frozen? ⟨gc, n * 3 + 1, none⟩ = false ∧
  SvAt ((w.setCell ⟨gc, n * 3, none⟩ (.slice none 0 0)).setCell ⟨gc, n * 3 + 1, none⟩ (.bool false)).drew { L with cs := L.cs.set n ⟨none, 0, [], false, (L.cs[n]!).act⟩ } { S with list := S.list.set n ⟨[], false, (S.rc n).act⟩ } ∧
   Fr [gc] w ((w.setCell ⟨gc, n * 3, none⟩ (.slice none 0 0)).setCell ⟨gc, n * 3 + 1, none⟩ (.bool false)).drew ∧ (L.lab gc).1 = L.id := by
 have r := h.rcs
 unfold Recs at r
 rw [hgc] at r
 have hlab : L.lab gc = (L.id, 3, 0) := h.t3 gc (by rw [hgc]; simp [blks])
 have hf : Fr [gc] w ((w.setCell ⟨gc, n * 3, none⟩ (.slice none 0 0)).setCell ⟨gc, n * 3 + 1, none⟩ (.bool false)).drew := (((Fr.refl _ w).setCell (.inl (by simp)) _).setCell (.inl (by simp)) _).drew
 have o := h.off (P := (· = (3, 0))) hf (fun k hk hl => ⟨_, rfl, by simp at hk; subst hk; exact hlab⟩)
 have hst := (World.ownsRow.stored r (n * 3) (.slice none 0 0)).1
 have hst2 := (World.ownsRow.stored hst (n * 3 + 1) (.bool false)).1
 have hrc := h.rc_eq hn
 have hget : ∀ j : Nat, (L.cs.set n ⟨none, 0, [], false, (L.cs[n]!).act⟩)[j]! = if n = j ∧ n < L.cs.length then ⟨none, 0, [], false, (L.cs[n]!).act⟩ else L.cs[j]! := fun j => getB_set _ _ _ _
 refine ⟨World.ownsRow.frozenAt r _, World.ownsRow.frozenAt r _, ⟨?_, o.tr (by decide), o.hp (by decide), h.hmade, ?_, h.ews, ?_, o.rws (by decide), o.rph (by decide), o.rmo (by decide), o.rco (by decide), fun j hj => ?_, fun c hc => o.ewh c hc (by simp),
  h.t0, h.t1, h.t2, h.t3, h.t4, h.t5, h.t6, h.t7, fun j hj k hk => ?_, h.t9⟩, hf, by rw [hlab]⟩
 ·have := o.obj (by decide)
  simp only [scs, List.length_set] at this ⊢
  exact this
 ·simp only
  rw [← h.ecs, List.map_set]
  congr 1
  rw [hrc]
  rfl
 ·unfold Recs
  obtain ⟨g0, g1, g2⟩ := flatC_get L.cs n hn
  have e : ((flatC L.cs).set (n * 3) (.slice none 0 0)).set (n * 3 + 1) (.bool false) = flatC (L.cs.set n ⟨none, 0, [], false, (L.cs[n]!).act⟩) := by
   rw [← flatC_set L.cs n _ hn]
   simp only
   refine (set_idem ?_).symm
   rw [List.getElem?_set_ne (by omega), List.getElem?_set_ne (by omega)]
   exact g2
  simp only [List.length_set]
  rw [← e, hgc]
  exact World.ownsRow.drew hst2
 ·simp only [List.length_set] at hj
  simp only
  rw [hget]
  by_cases hc : n = j ∧ n < L.cs.length
  ·rw [if_pos hc]
   exact Ints.nil _
  ·rw [if_neg hc]
   exact o.ech j hj (by simp)
 ·simp only [List.length_set] at hj
  simp only at hk
  rw [hget] at hk
  by_cases hc : n = j ∧ n < L.cs.length
  ·rw [if_pos hc] at hk
   simp [blks] at hk
  ·rw [if_neg hc] at hk
   exact h.t8 j hj k hk
namespace Sv
def wornB (S : Sv) (n : Nat) : Bool := (S.rc n).lrn && decide (2 < (S.rc n).lits.length) && !S.locked n
def wornTo (S : Sv) (k : Nat) : List Nat := (List.range k).filter S.wornB
theorem wornTo_succ (S : Sv) (k : Nat) : S.wornTo (k + 1) = S.wornTo k ++ if S.wornB k = true then [k] else [] := by
 unfold wornTo
 rw [List.range_succ, List.filter_append, List.filter_cons, List.filter_nil]
theorem wornTo_len (S : Sv) (k : Nat) : (S.wornTo k).length ≤ k := by
 unfold wornTo
 have := List.length_filter_le S.wornB (List.range k)
 rw [List.length_range] at this
 exact this
end Sv
theorem perm_casts {ys : List Int} {wl : List Nat} (h : ys.Perm (casts wl)) : ∃ ls : List Nat, ys = casts ls ∧ ls.Perm wl := by
 refine ⟨ys.map Int.toNat, ?_, ?_⟩
 ·unfold casts
  rw [List.map_map]
  refine (List.map_id ys).symm.trans (List.map_congr_left fun x hx => ?_)
  obtain ⟨n, _, rfl⟩ := List.mem_map.1 (h.mem_iff.1 hx)
  simp
 ·have := h.map Int.toNat
  unfold casts at this
  rw [List.map_map] at this
  have e : (Int.toNat ∘ fun n : Nat => (n : Int)) = id := by funext n; simp
  rw [e, List.map_id] at this
  exact this
namespace Sv
def dropsTo (S : Sv) (ls : List Nat) (j : Nat) : Sv := (ls.take j).foldl drop1 S
theorem dropsTo_succ (S : Sv) (ls : List Nat) {j : Nat} (h : j < ls.length) : S.dropsTo ls (j + 1) = (S.dropsTo ls j).drop1 ls[j]! := by
 unfold dropsTo
 rw [List.take_add_one, List.foldl_append]
 simp only [List.getElem!_eq_getElem?_getD, List.getElem?_eq_getElem h, Option.getD_some, Option.toList_some, List.foldl_cons, List.foldl_nil]
theorem dropsTo_red {S : Sv} {ls : List Nat} (hp : ls.Perm S.worn) : RedR S (S.dropsTo ls (ls.length / 2)) := by
 have hn : S.worn.Nodup := List.Nodup.sublist List.filter_sublist List.nodup_range
 refine ⟨ls.take (ls.length / 2), List.Nodup.sublist (List.take_sublist _ _) (hp.nodup_iff.2 hn), fun n hn => hp.mem_iff.1 (List.mem_of_mem_take hn), ?_, rfl⟩
 rw [List.length_take, ← hp.length_eq]
 omega
end Sv
theorem reduce_calls : RedC := by
 intro w L S h ok hm0 hm1
 obtain ⟨w1, hw1⟩ : ∃ w1, w.alloc (.cells #[.pointer (some ⟨L.a, 0, none⟩)] 36) = w1 := ⟨_, rfl⟩
 have HFB : Hid (Fr [] w w1) := by rw [← hw1]; exact box_fr' _ _
 have hcb : w1.cell? ⟨w.heap.size, 0, none⟩ = some (.pointer (some ⟨L.a, 0, none⟩)) := by rw [← hw1]; exact (At.new w _ _).cell 0
 have hsz : w1.heap.size = w.heap.size + 1 := by rw [← hw1]; simp
 obtain ⟨L1, hL1⟩ : ∃ L1, L.seal w = L1 := ⟨_, rfl⟩
 have H1 : Hid (SvAt w1 L1 S) := by rw [← hL1]; exact h.seal.keep HFB.out
 have HE1 : Hid (L.ext L1 w) := by rw [← hL1]; exact L.seal_ext w
 have HNB : Hid (∀ k, w.heap.size ≤ k → (L1.lab k).1 ≠ L1.id) := fun k hk => by rw [← hL1]; exact SvL.seal_new hk
 have HSZ := Lib.hid hsz
 have HCB := Lib.hid hcb
 have HOK := Lib.hid ok
 have hea : L1.a = L.a := HE1.out.1
 obtain ⟨-, -, -, c3, -⟩ := H1.out.cells
 rw [hea, H1.out.lenc] at c3
 have HLL : Hid (S.list.length ≤ 1099511627776) := ok.ll
 have hll := ok.ll
 clear h ok hL1 hsz
 go_enter Try.func49, Try.ntmps49
 go_upto_region 2 with fail
 clear hw1
 go_wp2_with fail
 go_loopg [2, 12] S.list.length (fun g x2 x12 wr => ∃ (k : Nat) (A' : Option Addr) (c' : Nat), k + g = S.list.length ∧ x2 = .slice A' (S.wornTo k).length c' ∧ x12 = .int .i64 k ∧ Hid (Ints wr A' c' (casts (S.wornTo k))) ∧ Hid (∀ j, j ∈ blks A' → w1.heap.size ≤ j) ∧ Hid (Fr [] w1 wr))
 case atStart => exact ⟨0, none, 0, by omega, rfl, rfl, Ints.nil _, fun j hj => by simp [blks] at hj, Fr.refl _ _⟩
 case round =>
  obtain ⟨k, A', c', hk, rfl, rfl, HI, HNW, HF⟩ := hrel
  have HK := Lib.hid hk
  have hkn : k ≤ S.list.length := by omega
  clear hk
  by_cases hlt : k < S.list.length
  ·have H2 := Lib.hid (H1.out.keep HF.out)
   have hkc : k < L1.cs.length := by rw [H1.out.lenc]; exact hlt
   obtain ⟨gc, hgc, x0, x1, x2⟩ := H2.out.rcell hkc
   have hrc := H1.out.rc_eq hkc
   obtain ⟨⟨Ar, cr, lr, br, ar⟩, hx⟩ : ∃ x, L1.cs[k]! = x := ⟨_, rfl⟩
   rw [hx] at x0 x1 x2 hrc
   simp only [Cw.rc] at x0 x1 x2 hrc
   rw [hgc] at c3
   have cb := HF.out.cellS HCB.out
   have c3' := HF.out.cellS c3
   obtain ⟨w2, hw2⟩ : ∃ w2, wr.alloc (.cells #[.slice Ar lr.length cr, .bool br, .int .i64 ar] 75) = w2 := ⟨_, rfl⟩
   have HF2 : Hid (Fr [] w1 w2) := hw2 ▸ (HF.out.then_ (box_fr' _ _))
   have HFr2 : Hid (Fr [] wr w2) := hw2 ▸ (box_fr' _ _)
   have n0 : w2.cell? ⟨wr.heap.size, 0, none⟩ = some (.slice Ar lr.length cr) := by rw [← hw2]; exact (At.new wr _ _).cell 0
   have n1 : w2.cell? ⟨wr.heap.size, 1, none⟩ = some (.bool br) := by rw [← hw2]; exact (At.new wr _ _).cell 1
   have cb2 := HF2.out.cellS HCB.out
   have hwb : S.wornB k = (br && decide (2 < lr.length) && !S.locked k) := by unfold Sv.wornB; rw [hrc]
   have HWB := Lib.hid hwb
   have HWS := Lib.hid (S.wornTo_succ k)
   have KL : Hid (0 < lr.length → Calls Try.prog 65 #[.pointer (some ⟨L.a, 0, none⟩), .int .i64 k] w2 fun e w' => e = .returned (.bool (S.locked k)) ∧ Fr [] w2 w') := fun h0 => by
    have := locked_calls w2 L1 S (H1.out.keep HF2.out) 0 HOK.out k hlt (by rw [hrc]; exact h0)
    rw [hea] at this
    exact this
   have hki : (k : Int) < (S.list.length : Int) := by omega
   have wk : IntKind.i64.wrap ((k : Int) + 1) = (k : Int) + 1 := IntWalk.i64_in _ (by omega)
   clear hx hrc hwb
   go_upto_region 5 with fail
   clear hw2 c3' c3 x0 x1 x2 cb hgc
   obtain ⟨wb, hwb⟩ : ∃ wb, S.wornB k = wb := ⟨_, rfl⟩
   rw [hwb] at HWB HWS
   have HWQ := Lib.hid hwb
   clear hwb
   go_cut [30] from 13 to 34 (fun x wx => x = .bool wb ∧ Hid (Fr [] w2 wx))
   case first =>
    cases br with
    | false =>
     have hq : wb = false := by rw [HWB.out]; rfl
     clear KL
     go_wp2_with fail
     go_meet
     case rel => exact ⟨by rw [hq], Fr.refl _ _⟩
    | true =>
     by_cases h2 : 2 < lr.length
     ·have h2i : (2 : Int) < (lr.length : Int) := by omega
      have KL := KL.out (by omega)
      obtain ⟨lk, hlk⟩ : ∃ lk, S.locked k = lk := ⟨_, rfl⟩
      rw [hlk] at KL HWB
      have hq : wb = !lk := by rw [HWB.out, decide_eq_true h2]; rfl
      have HK2 := Lib.hid KL
      have HQ := Lib.hid hq
      clear KL hq hlk
      go_wp2_with fail
      refine HK2.out.mono ?_
      clear HK2
      rintro e w3 ⟨rfl, hf⟩
      have HF3 := Lib.hid hf
      clear hf
      cases lk with
      | true =>
       go_wp2_with fail
       go_meet
       case rel => exact ⟨by rw [HQ.out]; rfl, HF3.out⟩
      | false =>
       go_wp2_with fail
       go_meet
       case rel => exact ⟨by rw [HQ.out]; rfl, HF3.out⟩
     ·have h2i : (lr.length : Int) ≤ 2 := by omega
      have hq : wb = false := by rw [HWB.out, decide_eq_false h2]; rfl
      clear KL
      go_wp2_with fail
      go_meet
      case rel => exact ⟨by rw [hq], Fr.refl _ _⟩
   case rest =>
    obtain ⟨rfl, HF3⟩ := hcut
    obtain ⟨w3, rfl⟩ : ∃ x, x = wc := ⟨_, rfl⟩
    have HF13 := Lib.hid (HF2.out.then_ HF3.out)
    have HFr3 := Lib.hid (HFr2.out.then_ HF3.out)
    clear KL n0 n1 cb2 HF2 HF3 HFr2
    cases wb with
    | false =>
     have HW := HWS.out
     simp only [Bool.false_eq_true, if_false, List.append_nil] at HW
     have HW := Lib.hid HW
     go_wp2_with fail
     go_roundg (gk - 1)
     case measure => have := HK.out; omega
     case rel => exact ⟨k + 1, A', c', by have := HK.out; omega, by rw [HW.out], by go_num, by rw [HW.out]; exact HI.out.keep' HFr3.out, HNW.out, HF13.out⟩
    | true =>
     have HW := HWS.out
     simp only [if_true] at HW
     have HW := Lib.hid HW
     obtain ⟨wb, hwb⟩ : ∃ W, w3.alloc (.cells #[.int .i64 (k : Int)] 3) = W := ⟨_, rfl⟩
     have HFB : Hid (Fr [] w3 wb) := hwb ▸ box_fr' _ _
     have hcell : wb.cell? ⟨w3.heap.size, 0, none⟩ = some (.int .i64 (k : Int)) := by
      have := (At.new w3 3 #[.int .i64 (k : Int)]).cell 0
      rw [hwb] at this
      simpa using this
     have HLW : Hid ((S.wornTo k).length ≤ k) := S.wornTo_len k
     go_wp2_with (at_builtin; (refine wpList_append_int _ rfl _ _ rfl A' c' (casts (S.wornTo k)) (S.wornTo k).length rfl (casts_len _).symm ((HI.out.keep' HFr3.out).fr HFB.out (by simp)) ⟨w3.heap.size, 0, none⟩ 1 (k : Int) rfl hcell (by rw [casts_len]; have := HLW.out; omega) ?_; intro g cap w4 hrow hfr hg hs3))
     have HR4 : Hid (Ints w4 (some ⟨g, 0, none⟩) cap (casts (S.wornTo (k + 1)))) := by
      rw [HW.out, ← casts_app]
      exact hrow
     have HLE : Hid ((S.wornTo (k + 1)).length = (S.wornTo k).length + 1) := by rw [HW.out]; simp [Hid]
     have HG4 : Hid (∀ j, j ∈ blks (some (⟨g, 0, none⟩ : Addr)) → w1.heap.size ≤ j) := fun j hj => by
      simp [blks] at hj
      subst hj
      rcases hg with h1 | h1
      ·exact HNW.out j h1
      ·have := HF13.out.size; have := HFB.out.size; omega
     have HF4 : Hid (Fr [] w1 w4) := (HF13.out.then_ HFB.out).trans hfr (fun x hx => .inr (HNW.out x hx))
     clear hcell hrow hfr hg hs3 hwb
     go_roundg (gk - 1)
     case measure => have := HK.out; omega
     case rel => exact ⟨k + 1, some ⟨g, 0, none⟩, cap, by have := HK.out; omega, by rw [HLE.out], by go_num, HR4.out, HG4.out, HF4.out⟩
  ·obtain rfl : k = S.list.length := by omega
   obtain ⟨wl, hwl⟩ : ∃ wl, S.wornTo S.list.length = wl := ⟨_, rfl⟩
   have HWL : Hid (S.worn = wl) := hwl
   have hin : ∀ x ∈ wl, x < S.list.length := fun x hx => by rw [← hwl] at hx; exact (Sv.worn_lt (S := S) hx).1
   have HIN := Lib.hid hin
   have hnw : wl.length ≤ S.list.length := by rw [← hwl]; exact S.wornTo_len _
   rw [hwl] at HI ⊢
   clear hwl hin
   have HBB : Hid (w.heap.size < w1.heap.size) := by have := HSZ.out; show _ < _; omega
   have KS := Lib.hid (sortstable_calls 67 #[.pointer (some ⟨w.heap.size, 0, none⟩)] (actQ S) enters_red1 wr A' c' (casts wl) HI.out (by rw [casts_len]; omega) (fun W hW x hx y hy => by
    have hf1 : Fr [] w1 W := HF.out.trans hW (fun x hx => .inr (HNW.out x hx))
    obtain ⟨x', hx', rfl⟩ := List.mem_map.1 hx
    obtain ⟨y', hy', rfl⟩ := List.mem_map.1 hy
    have := red1_calls W L1 S (H1.out.keep hf1) w.heap.size (by rw [hea]; exact hf1.cellS HCB.out) x' y' (HIN.out x' hx') (HIN.out y' hy')
    exact this))
   rw [casts_len] at KS
   obtain ⟨n, hn⟩ : ∃ n, wl.length = n := ⟨_, rfl⟩
   rw [hn] at KS ⊢
   have HNN := Lib.hid hn
   rw [hn] at hnw
   clear hn
   go_upto_region 8 with fail
   go_wp2_with fail
   refine KS.out.mono ?_
   clear KS
   rintro e w2 ⟨rfl, ys, y1, y2, y3⟩
   have hf2 : Fr [] w1 w2 := HF.out.trans y3 (fun x hx => .inr (HNW.out x hx))
   obtain ⟨ls, rfl, hls⟩ := perm_casts y1
   have HPM : Hid (ls.Perm S.worn) := hls.trans (HWL.out ▸ List.Perm.refl _)
   have HLN : Hid (ls.length = n) := hls.length_eq.trans HNN.out
   have HIL := Lib.hid (fun x (hx : x ∈ ls) => HIN.out x (hls.mem_iff.1 hx))
   have HI2 := Lib.hid y2
   have HF2 := Lib.hid hf2
   have hcap : n ≤ c' ∧ (A' = none → n = 0) := by
    have h1 := y2.form
    have h2 := HLN.out
    have h3 := casts_len ls
    rcases h1 with ⟨a1, a2, a3⟩ | ⟨g, a1, a2, a3, a4⟩
    ·have : ls.length = 0 := by rw [← h3, a3]; rfl
     exact ⟨by omega, fun _ => by omega⟩
    ·exact ⟨by omega, fun e => by rw [a1] at e; cases e⟩
   obtain ⟨hcap, hnone⟩ := hcap
   have HNO := Lib.hid hnone
   obtain ⟨h, hh⟩ : ∃ h : Nat, n / 2 = h := ⟨_, rfl⟩
   have hdiv : (n : Int) / 2 = (h : Int) := by omega
   have hdiv2 : IntKind.i64.wrap ((h : Int)) = (h : Int) := IntWalk.i64_in _ (by omega)
   have hhc : h ≤ c' := by omega
   have HH2 := Lib.hid hh
   have hhn : h ≤ n := by omega
   clear y1 y2 y3 hf2 hls hnone HI HF hh
   go_upto_region 9 with fail
   go_wp2_with fail
   go_loopg [45] h (fun g x wr => ∃ (j : Nat) (Lj : SvL), j + g = h ∧ x = .int .i64 j ∧ Hid (SvAt wr Lj (S.dropsTo ls j)) ∧ Hid (Lj.a = L1.a ∧ Lj.id = L1.id ∧ Lj.lab = L1.lab) ∧ Hid (Ints wr A' c' (casts ls)) ∧ Hid (Fr (L.own w) w wr) ∧ Hid (wr.cell? ⟨w.heap.size, 0, none⟩ = some (.pointer (some ⟨L.a, 0, none⟩))))
   case atStart => exact ⟨0, L1, by omega, rfl, H1.out.keep HF2.out, ⟨rfl, rfl, rfl⟩, HI2.out, (HFB.out.then_ HF2.out).mono (fun k hk => by cases hk), HF2.out.cellS HCB.out⟩
   case round =>
    obtain ⟨j, Lj, hj, rfl, HS, HLJ, HIJ, HFJ, HCJ⟩ := hrel
    have HJ := Lib.hid hj
    have hjh : j ≤ h := by omega
    clear hj
    by_cases hlt : j < h
    ·have hjl : j < (casts ls).length := by rw [casts_len, HLN.out]; omega
     obtain ⟨ga, hA, hgl⟩ := HIJ.out.pos hjl
     subst hA
     have cx := HIJ.out.cell hjl
     rw [casts_get] at cx
     obtain ⟨v, hv⟩ : ∃ v, ls[j]! = v := ⟨_, rfl⟩
     rw [hv] at cx
     have hjl2 : j < ls.length := by rw [HLN.out]; omega
     have hvm : v ∈ ls := by rw [← hv, List.getElem!_eq_getElem?_getD, List.getElem?_eq_getElem hjl2]; exact List.getElem_mem hjl2
     have hvl := HIL.out v hvm
     have hst : S.dropsTo ls (j + 1) = (S.dropsTo ls j).drop1 v := by rw [S.dropsTo_succ ls hjl2, hv]
     have HST := Lib.hid hst
     have hsame := Sv.drops_same (ls.take j) S
     have hlen : (S.dropsTo ls j).list.length = S.list.length := hsame.2.2.1
     have hmany : (S.dropsTo ls j).many = S.many - (j : Int) := by
      have := hsame.2.2.2.2.2
      rw [List.length_take, Nat.min_eq_left (by omega)] at this
      exact this
     obtain ⟨Sj, hSj⟩ : ∃ Sj, S.dropsTo ls j = Sj := ⟨_, rfl⟩
     rw [hSj] at HS HST hlen hmany
     have HLEN := Lib.hid hlen
     have hla : Lj.a = L.a := HLJ.out.1.trans hea
     have hvc : v < Lj.cs.length := by rw [HS.out.lenc, hlen]; exact hvl
     obtain ⟨gc, hgc, x0, x1, x2⟩ := HS.out.rcell hvc
     obtain ⟨f0, f1, hd1, hd2, hd3⟩ := HS.out.dropc hvc hgc
     obtain ⟨-, -, -, c3, -, -, -, -, -, -, -, c11, -⟩ := HS.out.cells
     rw [hla] at c3 c11
     rw [hgc, HS.out.lenc, hlen] at c3
     have cb := HCJ.out
     have hvi : (v : Int) < (S.list.length : Int) := by omega
     obtain ⟨W1, hW1⟩ : ∃ W, ((wr.setCell ⟨gc, v * 3, none⟩ (.slice none 0 0)).setCell ⟨gc, v * 3 + 1, none⟩ (.bool false)).drew = W := ⟨_, rfl⟩
     have HW1 := Lib.hid hW1
     rw [hW1] at hd1 hd2
     have H1 := Lib.hid hd1
     have HD2 := Lib.hid hd2
     have HD3 := Lib.hid hd3
     have hwm : IntKind.i64.wrap (Sj.many - 1) = Sj.many - 1 := IntWalk.i64_in _ (by rw [hmany]; omega)
     have hli : (j : Int) < (h : Int) := by omega
     clear hst hSj hsame hlen hmany hvm hjl hjl2 hv hW1 hd1 hd2 hd3 x2
     go_wp2_with fail
     go_region
     clear x0 x1 f0 f1 c3 c11 cb
     have hW1 := HW1.out
     rw [hW1]
     clear hW1 HW1
     have e2 : Lj.ext { Lj with cs := Lj.cs.set v ⟨none, 0, [], false, (Lj.cs[v]!).act⟩ } wr := ⟨rfl, rfl, fun k _ e => e⟩
     have eL : L.ext Lj w := ⟨hla, HLJ.out.2.1.trans HE1.out.2.1, fun k hk e => HE1.out.2.2 k hk (by rw [← HLJ.out.2.2]; exact e)⟩
     have HFJ2 : Hid (Fr (L.own w) w W1) := SvL.own_then eL HFJ.out (SvL.part_fr HD2.out (fun k hk _ => by simp at hk; rw [hk]; exact HD3.out))
     obtain ⟨L2, hL2⟩ : ∃ L2, { Lj with cs := Lj.cs.set v ⟨none, 0, [], false, (Lj.cs[v]!).act⟩ } = L2 := ⟨_, rfl⟩
     have HL2 : Hid (L2.a = L1.a ∧ L2.id = L1.id ∧ L2.lab = L1.lab) := by rw [← hL2]; exact HLJ.out
     rw [hL2] at H1
     have hla2 : L2.a = L.a := HL2.out.1.trans hea
     have eL2 : L.ext L2 w := ⟨hla2, HL2.out.2.1.trans HE1.out.2.1, fun k hk e => HE1.out.2.2 k hk (by rw [← HL2.out.2.2]; exact e)⟩
     obtain ⟨-, -, -, -, -, -, -, -, -, -, -, c11, -⟩ := H1.out.cells
     obtain ⟨g1, g2⟩ := H1.out.setc 11 (.int .i64 (Sj.many - 1)) (Sj.drop1 v) (by simp [scs, Sv.drop1]) ⟨rfl, rfl, rfl, rfl, rfl, rfl, rfl⟩
     have f11 := H1.out.obj.frozen 11
     rw [hla2] at c11 g1 g2 f11
     have hnb : w.heap.size ≠ gc := fun e => by
      have := HNB.out gc (by omega)
      rw [HL2.out.2.2.symm, HL2.out.2.1.symm] at this
      exact this (by rw [HL2.out.2.2, ← HLJ.out.2.2, HL2.out.2.1, ← HLJ.out.2.1]; exact HD3.out)
     have cb : W1.cell? ⟨w.heap.size, 0, none⟩ = some (.pointer (some ⟨L.a, 0, none⟩)) := HD2.out.cellN (by simpa using hnb) HCJ.out
     have HCB1 := Lib.hid cb
     have hnl : w.heap.size ≠ L.a := fun e => by
      have := HNB.out L.a (by omega)
      rw [← hea, ← HL2.out.1, ← HL2.out.2.2, ← HL2.out.2.1] at this
      exact this (by rw [H1.out.t0])
     have HNL := Lib.hid hnl
     have HG1 := Lib.hid g1
     have HG2 : Hid (Fr (L.own w) w (W1.setCell ⟨L.a, 11, none⟩ (.int .i64 (Sj.many - 1)))) := SvL.own_then eL2 HFJ2.out g2
     have HI3 : Hid (Ints (W1.setCell ⟨L.a, 11, none⟩ (.int .i64 (Sj.many - 1))) (some ⟨ga, 0, none⟩) c' (casts ls)) := by
      have hga : (L1.lab ga).1 ≠ L1.id := HNB.out ga (by have := HNW.out ga (by simp [blks]); have := HBB.out; omega)
      have q1 : Ints W1 (some ⟨ga, 0, none⟩) c' (casts ls) := HIJ.out.fr HD2.out (fun k hk hm => by
       simp [blks] at hk hm
       subst hk
       rw [hm] at hga
       exact hga (by rw [← HLJ.out.2.2, ← HLJ.out.2.1]; exact HD3.out))
      refine q1.far (p := ⟨L.a, 11, none⟩) (fun hk => ?_) _
      simp [blks] at hk
      rw [← hk] at hga
      rw [← hea, ← HL2.out.1, ← HL2.out.2.2, ← HL2.out.2.1] at hga
      exact hga (by rw [H1.out.t0])
     have wj : IntKind.i64.wrap ((j : Int) + 1) = (j : Int) + 1 := IntWalk.i64_in _ (by omega)
     clear g1 g2 e2 eL eL2 hL2 hnb hnl
     go_wp2_with fail
     go_roundg (gk - 1)
     case measure => have := HJ.out; omega
     case rel => exact ⟨j + 1, L2, by have := HJ.out; omega, by go_num, HST.out ▸ HG1.out, HL2.out, HI3.out, HG2.out, ((Fr.refl [L.a] W1).setCell (p := ⟨L.a, 11, none⟩) (.inl (by simp)) (.int .i64 (Sj.many - 1))).cellN (p := ⟨w.heap.size, 0, none⟩) (by simpa using HNL.out) HCB1.out⟩
    ·obtain rfl : j = h := by omega
     have FF : Hid (∃ S', Sv.RedR S S' ∧ SvP (.tuple #[]) S' L w (.returned (.tuple #[])) wr) := ⟨S.dropsTo ls j, by
      have := Sv.dropsTo_red HPM.out
      rw [HLN.out, HH2.out] at this
      exact this, rfl, Lj, HS.out, ⟨HLJ.out.1.trans hea, HLJ.out.2.1.trans HE1.out.2.1, fun k hk e => HE1.out.2.2 k hk (by rw [← HLJ.out.2.2]; exact e)⟩, HFJ.out⟩
     go_wp2_with fail
     go_end0
     exact FF.out
end Go.Proofs.Ytjchilcpflfcnaa
