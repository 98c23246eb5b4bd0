/-  -/
import Derived.Test.YtjchilcpflfcnaaSgZ
set_option linter.unusedVariables false
namespace Go.Proofs.Ytjchilcpflfcnaa
open Go.RowKit
def MergeC (g : Nat) (cb : Array Value) (q : Int → Int → Int) (N : Nat) : Prop :=
 ∀ (w : World) (A : Option Addr) (c : Nat) (xs : List Int) (h : Ints w A c xs) (hl : xs.length ≤ 17592186044416) (a m b : Nat) (ham : a < m) (hmb : m < b) (hbn : b ≤ xs.length) (hc : Cmps g cb q A xs w) (hN : b - a ≤ N),
  Calls Try.prog 97 #[.slice A xs.length c, .int .i64 a, .int .i64 m, .int .i64 b, .func (.func g) #[] cb] w (PmP A c xs w)
set_option maxRecDepth 100000 in
set_option maxHeartbeats 4000000 in
theorem symmerge_big (g : Nat) (cb : Array Value) (q : Int → Int → Int) (eg : ∀ args w, (callFunc g args).run Try.prog w = .ok (.enter g args) w) (w : World) (A : Option Addr) (c : Nat) (xs : List Int) (h : Ints w A c xs) (hl : xs.length ≤ 17592186044416) (a m b : Nat) (ham : a < m) (hmb : m < b) (hbn : b ≤ xs.length) (hc : Cmps g cb q A xs w) (h1 : m - a ≠ 1) (h2 : b - m ≠ 1) (N : Nat) (hN : b - a ≤ N + 1) (ih : MergeC g cb q N) :
  Calls Try.prog 97 #[.slice A xs.length c, .int .i64 a, .int .i64 m, .int .i64 b, .func (.func g) #[] cb] w (PmP A c xs w) := by
 obtain ⟨ga, hA, hgl⟩ := h.pos (i := a) (by omega)
 subst hA
 have HH := Lib.hid h
 have HC := Lib.hid hc
 have KC : Hid (∀ (wr : World), Fr [] w wr → ∀ i j : Nat, i < xs.length → j < xs.length → ∀ u : Ext wr, Calls Try.prog g (#[.int .i64 xs[i]!, .int .i64 xs[j]!] ++ cb) u.v fun e W' => e = .returned (.int .i64 (q xs[i]! xs[j]!)) ∧ Fr [] u.v W') := fun wr hf i j hi hj u => HC.out u.v ((hf.then_ u.fr).mono (fun k hk => by cases hk)) _ (mem_get hi) _ (mem_get hj)
 have CE : Hid (∀ (wr : World), Fr [] w wr → ∀ i : Nat, i < xs.length → ∀ u : Ext wr, u.v.cell? ⟨ga, i, none⟩ = some (.int .i64 xs[i]!)) := fun wr hf i hi u => (HH.out.keep' (hf.then_ u.fr)).cell hi
 obtain ⟨d1, hd1⟩ : ∃ d, m - a = d := ⟨_, rfl⟩
 obtain ⟨d2, hd2⟩ : ∃ d, b - m = d := ⟨_, rfl⟩
 have w0 : IntKind.i64.wrap ((m : Int) - (a : Int)) = (d1 : Int) := by rw [IntWalk.i64_in _ (by omega)]; omega
 have w1 : IntKind.i64.wrap ((b : Int) - (m : Int)) = (d2 : Int) := by rw [IntWalk.i64_in _ (by omega)]; omega
 clear h hc
 have hn1 : ¬ (d1 : Int) = 1 := by omega
 have hb1 : ((d1 : Int) == 1) = false := by simpa using hn1
 have hn2 : ¬ (d2 : Int) = 1 := by omega
 have hb2 : ((d2 : Int) == 1) = false := by simpa using hn2
 obtain ⟨M, hM⟩ : ∃ M : Nat, ((a : Int) + (b : Int)) / 2 = (M : Int) := ⟨(a + b) / 2, by omega⟩
 obtain ⟨n, hn⟩ : ∃ n : Nat, M + m = n := ⟨_, rfl⟩
 have wab : IntKind.i64.wrap ((a : Int) + (b : Int)) = (a : Int) + (b : Int) := IntWalk.i64_in _ (by omega)
 have wn : IntKind.i64.wrap ((M : Int) + (m : Int)) = (n : Int) := by rw [IntWalk.i64_in _ (by omega)]; omega
 have HM : Hid (a < M ∧ M < b ∧ M + m = n ∧ (a + b) / 2 = M ∧ n ≤ 2 * xs.length) := ⟨by omega, by omega, by omega, by omega, by omega⟩
 have HIH := Lib.hid ih
 clear ih
 go_enter Try.func97, Try.ntmps97
 go_upto_if 140 with fail
 clear w0 w1 hn1 hb1 hn2 hb2 wab wn
 go_cut [20, 21] (fun x20 x21 wx => ∃ s r : Nat, x20 = .int .i64 s ∧ x21 = .int .i64 r ∧ a ≤ s ∧ s ≤ r ∧ r ≤ m ∧ r ≤ M ∧ n ≤ b + s ∧ w = wx)
 case first =>
  as_aux_lemma =>
   obtain ⟨m1, m2, m3, m4, m5⟩ := HM.out
   by_cases hmM : M < m
   ·obtain ⟨s0, hs0⟩ : ∃ s0, n - b = s0 := ⟨_, rfl⟩
    have wx : IntKind.i64.wrap ((n : Int) - (b : Int)) = (s0 : Int) := by rw [IntWalk.i64_in _ (by omega)]; omega
    have hmi : (M : Int) < (m : Int) := by omega
    have HS : Hid (a ≤ s0 ∧ s0 ≤ M ∧ M ≤ m ∧ M ≤ M ∧ n ≤ b + s0) := ⟨by omega, by omega, by omega, by omega, by omega⟩
    clear hs0 m1 m2 m3 m4 m5 hd1 hd2
    go_wp2_with fail
    go_meet
    case rel => exact ⟨s0, M, rfl, rfl, HS.out.1, HS.out.2.1, HS.out.2.2.1, HS.out.2.2.2.1, HS.out.2.2.2.2, rfl⟩
   ·have hmi : (m : Int) ≤ (M : Int) := by omega
    have HS : Hid (a ≤ a ∧ a ≤ m ∧ m ≤ m ∧ m ≤ M ∧ n ≤ b + a) := ⟨by omega, by omega, by omega, by omega, by omega⟩
    clear m1 m2 m3 m4 m5 hd1 hd2
    go_wp2_with fail
    go_meet
    case rel => exact ⟨a, m, rfl, rfl, HS.out.1, HS.out.2.1, HS.out.2.2.1, HS.out.2.2.2.1, HS.out.2.2.2.2, rfl⟩
 case rest =>
  obtain ⟨s0, r0, rfl, rfl, b1, b2, b3, b4, b5, rfl⟩ := hcut
  have HB := Lib.hid (And.intro b1 (And.intro b2 (And.intro b3 (And.intro b4 b5))))
  have hn2 : 2 ≤ n := by have := HM.out; omega
  have hnl : n ≤ 2 * xs.length := by have := HM.out; omega
  obtain ⟨p, hp⟩ : ∃ p, n - 1 = p := ⟨_, rfl⟩
  have wp1 : IntKind.i64.wrap ((n : Int) - 1) = (p : Int) := by rw [IntWalk.i64_in _ (by omega)]; omega
  have HP0 := Lib.hid hp
  clear b1 b2 b3 b4 b5 hp hd1 hd2
  go_wp2_with fail
  clear wp1
  go_loopg [20, 21] (r0 - s0) (fun g x20 x21 wr => ∃ (s r : Nat), r = s + g ∧ Hid (a ≤ s ∧ r ≤ m ∧ r ≤ M ∧ n ≤ b + s) ∧ x20 = .int .i64 s ∧ x21 = .int .i64 r ∧ Hid (Fr [] w wr))
  case atStart => exact ⟨s0, r0, by have := HB.out; omega, by have := HB.out; exact ⟨by omega, by omega, by omega, by omega⟩, rfl, rfl, Fr.refl _ _⟩
  case round =>
   obtain ⟨s, r, hg, HR, rfl, rfl, HF⟩ := hrel
   have HG := Lib.hid hg
   have hsr0 : s ≤ r := by omega
   clear hg
   by_cases hsr : s < r
   ·as_aux_lemma =>
     have w2 : IntKind.i64.wrap ((s : Int) + (r : Int)) = (s : Int) + (r : Int) := IntWalk.i64_in _ (by have := HR.out; omega)
     obtain ⟨h, hh⟩ : ∃ h : Nat, ((s : Int) + (r : Int)) / 2 = (h : Int) := ⟨(s + r) / 2, by omega⟩
     have h0 : s ≤ h := by omega
     have h1 : h < r := by omega
     obtain ⟨t, ht⟩ : ∃ t, p - h = t := ⟨_, rfl⟩
     have htl : t < xs.length := by have := HR.out; have := HP0.out; have := HM.out; omega
     have hhl : h < xs.length := by have := HR.out; omega
     have wt : IntKind.i64.wrap ((p : Int) - (h : Int)) = (t : Int) := by rw [IntWalk.i64_in _ (by have := HP0.out; omega)]; have := HR.out; have := HP0.out; have := HM.out; omega
     have hx : (h : Int) < (xs.length : Int) := by omega
     have htx : (t : Int) < (xs.length : Int) := by omega
     have w3 : IntKind.i64.wrap ((h : Int) + 1) = (h : Int) + 1 := IntWalk.i64_in _ (by omega)
     have KCC := Lib.hid (KC.out wr HF.out t h htl hhl)
     have e1 := CE.out wr HF.out h hhl
     have e2 := CE.out wr HF.out t htl
     obtain ⟨x, hxx⟩ : ∃ x, xs[h]! = x := ⟨_, rfl⟩
     obtain ⟨y, hyy⟩ : ∃ y, xs[t]! = y := ⟨_, rfl⟩
     rw [hxx] at e1 KCC
     rw [hyy] at e2 KCC
     obtain ⟨z, hz⟩ : ∃ z, q y x = z := ⟨_, rfl⟩
     rw [hz] at KCC
     have H2 := Lib.hid hh
     clear hxx hyy hz ht htl hhl
     go_upto_region 35 with fail
     clear hh
     have hh := H2.out
     try rw [hh]
     clear hh
     by_cases hr0 : z < 0
     ·have hd : decide (z < 0) = true := decide_eq_true hr0
      refine wp_region_ext (by kernel_rfl) (by kernel_rfl) ?_
      repeat (go_big_quiet_step (exact call_ext (KCC.out _)))
      refine wpQuiet_nil ?_
      rintro w4 ⟨u2, hu2⟩
      have HF_w4 : Hid (Fr [] wr w4) := hu2 ▸ u2.fr
      clear hu2 u2
      have HF2 := Lib.hid (HF.out.then_ HF_w4.out)
      clear e1 e2 HF HF_w4 KCC
      go_wp2_with fail
      go_roundg (h - s)
      case measure => have := HG.out; omega
      case rel => exact ⟨s, h, by omega, by have := HR.out; exact ⟨by omega, by omega, by omega, by omega⟩, rfl, rfl, HF2.out⟩
     ·have hr1 : 0 ≤ z := by omega
      have hd : decide (z < 0) = false := decide_eq_false hr0
      refine wp_region_ext (by kernel_rfl) (by kernel_rfl) ?_
      repeat (go_big_quiet_step (exact call_ext (KCC.out _)))
      refine wpQuiet_nil ?_
      rintro w4 ⟨u2, hu2⟩
      have HF_w4 : Hid (Fr [] wr w4) := hu2 ▸ u2.fr
      clear hu2 u2
      have HF2 := Lib.hid (HF.out.then_ HF_w4.out)
      clear e1 e2 HF HF_w4 KCC
      go_wp2_with fail
      go_roundg (r - (h + 1))
      case measure => have := HG.out; omega
      case rel => exact ⟨h + 1, r, by omega, by have := HR.out; exact ⟨by omega, by omega, by omega, by omega⟩, by go_num, rfl, HF2.out⟩
   ·obtain rfl : s = r := by omega
    obtain ⟨E, hE⟩ : ∃ E, n - s = E := ⟨_, rfl⟩
    have wE : IntKind.i64.wrap ((n : Int) - (s : Int)) = (E : Int) := by have := HR.out; have := HM.out; rw [IntWalk.i64_in _ (by omega)]; omega
    have HE : Hid (E ≤ b ∧ m ≤ E ∧ M ≤ E) := ⟨by have := HR.out; have := HM.out; omega, by have := HR.out; have := HM.out; omega, by have := HR.out; have := HM.out; omega⟩
    have HI0 := Lib.hid (HH.out.keep' HF.out)
    have HF0 : Hid (Fr (blks (some ⟨ga, 0, none⟩)) w wr) := HF.out.mono (fun k hk => by cases hk)
    clear hE HF KC CE
    go_upto_region 39 with fail
    clear wE
    obtain ⟨q185, Q185⟩ : ∃ q, Hid (decide (s < m ∧ m < E) = q) := ⟨_, rfl⟩
    go_cut [185] (fun x wx => x = .bool q185 ∧ wr = wx)
    case first =>
     as_aux_lemma =>
      by_cases k1 : s < m
      ·have k1i : (s : Int) < (m : Int) := by omega
       by_cases k2 : m < E
       ·have k2i : (m : Int) < (E : Int) := by omega
        have hq : q185 = true := Q185.out ▸ decide_eq_true ⟨k1, k2⟩
        go_wp2_with fail
        go_meet
        case rel => exact ⟨by rw [hq], rfl⟩
       ·have k2i : (E : Int) ≤ (m : Int) := by omega
        have hq : q185 = false := Q185.out ▸ decide_eq_false (fun e => k2 e.2)
        go_wp2_with fail
        go_meet
        case rel => exact ⟨by rw [hq], rfl⟩
      ·have k1i : (m : Int) ≤ (s : Int) := by omega
       have hq : q185 = false := Q185.out ▸ decide_eq_false (fun e => k1 e.1)
       go_wp2_with fail
       go_meet
       case rel => exact ⟨by rw [hq], rfl⟩
    case rest =>
     obtain ⟨rfl, rfl⟩ := hcut
     go_upto_if 185 with fail
     go_cut [] (fun wx => Pm (some ⟨ga, 0, none⟩) c xs w wx)
     case first =>
      as_aux_lemma =>
       cases q185 with
       | true =>
        have hq := of_decide_eq_true Q185.out
        have KR := Lib.hid (rotate_calls wr (some ⟨ga, 0, none⟩) c xs HI0.out hl s m E hq.1 hq.2 (by have := HE.out; omega) g cb)
        clear hq
        go_wp2_with fail
        refine KR.out.mono ?_
        clear KR
        rintro e w2 ⟨rfl, zs, z1, z2, z3⟩
        have FF : Hid (Pm (some ⟨ga, 0, none⟩) c xs w w2) := ⟨zs, z1, z2, HF0.out.then_ z3⟩
        clear z1 z2 z3
        go_wp2_with fail
        go_meet
        case rel => exact FF.out
       | false =>
        have FF : Hid (Pm (some ⟨ga, 0, none⟩) c xs w wr) := ⟨xs, List.Perm.refl _, HI0.out, HF0.out⟩
        go_wp2_with fail
        go_meet
        case rel => exact FF.out
     case rest =>
      obtain ⟨w5, rfl⟩ : ∃ x, x = wc := ⟨_, rfl⟩
      obtain ⟨ys5, y1, y2, y3⟩ := hcut
      have HP5 := Lib.hid y1
      have HI5 := Lib.hid y2
      have HF5 := Lib.hid y3
      have HL5 : Hid (ys5.length = xs.length) := y1.length_eq
      clear y1 y2 y3
      go_upto_region 41 with fail
      obtain ⟨q199, Q199⟩ : ∃ q, Hid (decide (a < s ∧ s < M) = q) := ⟨_, rfl⟩
      go_cut [199] (fun x wx => x = .bool q199 ∧ w5 = wx)
      case first =>
       as_aux_lemma =>
        by_cases k1 : a < s
        ·have k1i : (a : Int) < (s : Int) := by omega
         by_cases k2 : s < M
         ·have k2i : (s : Int) < (M : Int) := by omega
          have hq : q199 = true := Q199.out ▸ decide_eq_true ⟨k1, k2⟩
          go_wp2_with fail
          go_meet
          case rel => exact ⟨by rw [hq], rfl⟩
         ·have k2i : (M : Int) ≤ (s : Int) := by omega
          have hq : q199 = false := Q199.out ▸ decide_eq_false (fun e => k2 e.2)
          go_wp2_with fail
          go_meet
          case rel => exact ⟨by rw [hq], rfl⟩
        ·have k1i : (s : Int) ≤ (a : Int) := by omega
         have hq : q199 = false := Q199.out ▸ decide_eq_false (fun e => k1 e.1)
         go_wp2_with fail
         go_meet
         case rel => exact ⟨by rw [hq], rfl⟩
      case rest =>
       obtain ⟨rfl, rfl⟩ := hcut
       go_upto_if 199 with fail
       go_cut [] (fun wx => Pm (some ⟨ga, 0, none⟩) c xs w wx)
       case first =>
        as_aux_lemma =>
         cases q199 with
         | true =>
          have hq := of_decide_eq_true Q199.out
          have KR := Lib.hid (HIH.out w5 (some ⟨ga, 0, none⟩) c ys5 HI5.out (by rw [HL5.out]; exact hl) a s M hq.1 hq.2 (by rw [HL5.out]; have := HM.out; omega) (HC.out.then_ HF5.out HP5.out) (by have := HM.out; omega))
          rw [HL5.out] at KR
          clear hq
          go_wp2_with fail
          refine KR.out.mono ?_
          clear KR
          rintro e w2 ⟨rfl, zs, z1, z2, z3⟩
          have FF : Hid (Pm (some ⟨ga, 0, none⟩) c xs w w2) := ⟨zs, z1.trans HP5.out, z2, HF5.out.then_ z3⟩
          clear z1 z2 z3
          go_wp2_with fail
          go_meet
          case rel => exact FF.out
         | false =>
          have FF : Hid (Pm (some ⟨ga, 0, none⟩) c xs w w5) := ⟨ys5, HP5.out, HI5.out, HF5.out⟩
          go_wp2_with fail
          go_meet
          case rel => exact FF.out
       case rest =>
        obtain ⟨w6, rfl⟩ : ∃ x, x = wc := ⟨_, rfl⟩
        obtain ⟨ys6, y1, y2, y3⟩ := hcut
        have HP6 := Lib.hid y1
        have HI6 := Lib.hid y2
        have HF6 := Lib.hid y3
        have HL6 : Hid (ys6.length = xs.length) := y1.length_eq
        clear y1 y2 y3
        go_upto_region 43 with fail
        obtain ⟨q213, Q213⟩ : ∃ q, Hid (decide (M < E ∧ E < b) = q) := ⟨_, rfl⟩
        go_cut [213] (fun x wx => x = .bool q213 ∧ w6 = wx)
        case first =>
         as_aux_lemma =>
          by_cases k1 : M < E
          ·have k1i : (M : Int) < (E : Int) := by omega
           by_cases k2 : E < b
           ·have k2i : (E : Int) < (b : Int) := by omega
            have hq : q213 = true := Q213.out ▸ decide_eq_true ⟨k1, k2⟩
            go_wp2_with fail
            go_meet
            case rel => exact ⟨by rw [hq], rfl⟩
           ·have k2i : (b : Int) ≤ (E : Int) := by omega
            have hq : q213 = false := Q213.out ▸ decide_eq_false (fun e => k2 e.2)
            go_wp2_with fail
            go_meet
            case rel => exact ⟨by rw [hq], rfl⟩
          ·have k1i : (E : Int) ≤ (M : Int) := by omega
           have hq : q213 = false := Q213.out ▸ decide_eq_false (fun e => k1 e.1)
           go_wp2_with fail
           go_meet
           case rel => exact ⟨by rw [hq], rfl⟩
        case rest =>
         obtain ⟨rfl, rfl⟩ := hcut
         go_upto_if 213 with fail
         cases q213 with
         | true =>
          have hq := of_decide_eq_true Q213.out
          have KR := Lib.hid (HIH.out w6 (some ⟨ga, 0, none⟩) c ys6 HI6.out (by rw [HL6.out]; exact hl) M E b hq.1 hq.2 (by rw [HL6.out]; have := HM.out; omega) (HC.out.then_ HF6.out HP6.out) (by have := HM.out; omega))
          rw [HL6.out] at KR
          clear hq
          go_wp2_with fail
          refine KR.out.mono ?_
          clear KR
          rintro e w2 ⟨rfl, zs, z1, z2, z3⟩
          have FF : Hid (Pm (some ⟨ga, 0, none⟩) c xs w w2) := ⟨zs, z1.trans HP6.out, z2, HF6.out.then_ z3⟩
          clear z1 z2 z3
          go_wp2_with fail
          go_end0
          exact FF.out.pmp
         | false =>
          have FF : Hid (Pm (some ⟨ga, 0, none⟩) c xs w w6) := ⟨ys6, HP6.out, HI6.out, HF6.out⟩
          go_wp2_with fail
          go_end0
          exact FF.out.pmp
theorem symmerge_calls (g : Nat) (cb : Array Value) (q : Int → Int → Int) (eg : ∀ args w, (callFunc g args).run Try.prog w = .ok (.enter g args) w) : ∀ N, MergeC g cb q N := by
 intro N
 induction N with
 | zero => intro w A c xs h hl a m b ham hmb hbn hc hN; omega
 | succ N ih =>
  intro w A c xs h hl a m b ham hmb hbn hc hN
  by_cases h1 : m - a = 1
  ·exact symmerge_one g cb q eg w A c xs h hl a m b ham hmb hbn hc h1
  ·by_cases h2 : b - m = 1
   ·exact symmerge_two g cb q eg w A c xs h hl a m b ham hmb hbn hc h1 h2
   ·exact symmerge_big g cb q eg w A c xs h hl a m b ham hmb hbn hc h1 h2 N hN ih
end Go.Proofs.Ytjchilcpflfcnaa
