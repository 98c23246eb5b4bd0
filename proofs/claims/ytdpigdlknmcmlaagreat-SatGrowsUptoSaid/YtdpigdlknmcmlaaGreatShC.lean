/-  -/
import Derived.Test.YtdpigdlknmcmlaaGreatSgW
import Derived.Laws.IdiomStrings
import Derived.Test.YtdpigdlknmcmlaaGreatSgA
import Derived.StillTailTactics
set_option linter.unusedVariables false
set_option linter.unusedSimpArgs false
set_option maxHeartbeats 4000000
set_option maxRecDepth 100000
namespace Go.Proofs.YtdpigdlknmcmlaaGreat
open Go.RowKit
def tx (l : List UInt8) : ByteArray := ⟨l.toArray⟩
theorem tx_size (l : List UInt8) : (tx l).size = l.length := by simp [tx, ByteArray.size]
def bt (b : Bool) : UInt8 := if b = true then 49 else 48
def sb (s : List Bool) : List UInt8 := s.map bt
theorem sb_len (s : List Bool) : (sb s).length = s.length := by simp [sb]
theorem sbt_size (s : List Bool) : (tx (sb s)).size = s.length := by rw [tx_size, sb_len]
theorem sb_app (s t : List Bool) : sb (s ++ t) = sb s ++ sb t := by simp [sb]
theorem tx_app (a b : List UInt8) : tx a ++ tx b = tx (a ++ b) := by
 refine ByteArray.ext (Array.toList_inj.1 ?_)
 simp [tx, ByteArray.data_append]
theorem sb_at (s : List Bool) (n : Nat) (h : n < (tx (sb s)).size) : (((tx (sb s))[n]).toNat : Int) = if s[n]! = true then 49 else 48 := by
 have hl : n < s.length := by rw [sbt_size] at h; exact h
 have e : (tx (sb s))[n] = (sb s)[n]'(by rw [sb_len]; exact hl) := rfl
 have key : ((tx (sb s))[n].toNat : Int) = (((sb s)[n]'(by rw [sb_len]; exact hl)).toNat : Int) := congrArg (fun x : UInt8 => (x.toNat : Int)) e
 rw [key]
 simp only [sb, List.getElem_map, List.getElem!_eq_getElem?_getD, List.getElem?_eq_getElem hl, Option.getD_some]
 cases s[n] <;> rfl
def isB (s : List Bool) (x : Int) : Bool := decide (1 ≤ tv x) && decide (tv x ≤ s.length) && (s[(tv x).toNat - 1]! == decide (0 < x))
def oneB (s : List Bool) (l : List Int) : Bool := l.any (isB s)
def trueB (vars : Int) (cls : List (List Int)) (s : List Bool) : Bool := cls.all (oneB s) && ((s.length : Int) == vars)
theorem is_calls (w : World) (s : List Bool) (x : Int) (hx : R64 x) (hs : s.length ≤ 4096) :
  Calls Tryz.prog 36 #[.string (tx (sb s)), .int .i64 x] w fun e w' => e = .returned (.bool (isB s x)) ∧ w = w' := by
 have KA := Lib.hid (fun W => rabs_calls W x hx)
 obtain ⟨t, ht⟩ : ∃ t, tv x = t := ⟨_, rfl⟩
 simp only [ht] at KA
 have hz := sbt_size s
 unfold isB
 rw [ht]
 by_cases h1 : 1 ≤ t
 ·by_cases h2 : t ≤ s.length
  ·obtain ⟨n, hn⟩ : ∃ n : Nat, t.toNat - 1 = n := ⟨_, rfl⟩
   have hw : IntKind.i64.wrap (t - 1) = (n : Int) := by rw [IntWalk.i64_in _ (by omega)]; omega
   have hls : n < (tx (sb s)).size := by omega
   obtain ⟨q, hq⟩ : ∃ q, (((tx (sb s))[n].toNat : Int) == 49) = q := ⟨_, rfl⟩
   have HQ : Hid (s[n]! = q) := by
    rw [sb_at s n hls] at hq
    show _ = _
    rw [← hq]
    cases s[n]! <;> rfl
   rw [hn, HQ.out, decide_eq_true h1, decide_eq_true h2]
   simp only [Bool.true_and]
   have h2i : t ≤ (s.length : Int) := h2
   rw [← hz] at h2i h2
   clear HQ hn ht
   generalize tx (sb s) = b at hz hls hq h2 h2i ⊢
   by_cases hp : 0 < x
   ·rw [decide_eq_true hp]
    go_enter Tryz.func36, Tryz.ntmps36
    go_wp2_with fail
    refine (KA.out _).mono ?_
    rintro e w1 ⟨rfl, rfl⟩
    go_wp2_with fail
    refine (KA.out _).mono ?_
    rintro e w1 ⟨rfl, rfl⟩
    go_wp2_with fail
    refine (KA.out _).mono ?_
    rintro e w1 ⟨rfl, rfl⟩
    go_wp2_with fail
    go_ret
    exact ⟨by cases q <;> rfl, rfl⟩
   ·obtain ⟨pp, hpp⟩ : ∃ pp, decide (0 < x) = pp := ⟨_, rfl⟩
    rw [hpp]
    go_enter Tryz.func36, Tryz.ntmps36
    go_wp2_with fail
    refine (KA.out _).mono ?_
    rintro e w1 ⟨rfl, rfl⟩
    go_wp2_with fail
    refine (KA.out _).mono ?_
    rintro e w1 ⟨rfl, rfl⟩
    go_wp2_with fail
    refine (KA.out _).mono ?_
    rintro e w1 ⟨rfl, rfl⟩
    go_wp2_with fail
    go_ret
    exact ⟨rfl, rfl⟩
  ·have h2i : (s.length : Int) < t := by omega
   rw [decide_eq_false h2, Bool.and_false, Bool.false_and]
   rw [← hz] at h2i
   clear ht
   generalize tx (sb s) = b at hz h2i ⊢
   go_enter Tryz.func36, Tryz.ntmps36
   go_wp2_with fail
   refine (KA.out _).mono ?_
   rintro e w1 ⟨rfl, rfl⟩
   go_wp2_with fail
   refine (KA.out _).mono ?_
   rintro e w1 ⟨rfl, rfl⟩
   go_wp2_with fail
   go_ret
   exact ⟨rfl, rfl⟩
 ·rw [decide_eq_false h1, Bool.false_and, Bool.false_and]
  have h1i : t < 1 := by omega
  clear ht
  generalize tx (sb s) = b at hz ⊢
  go_enter Tryz.func36, Tryz.ntmps36
  go_wp2_with fail
  refine (KA.out _).mono ?_
  rintro e w1 ⟨rfl, rfl⟩
  go_wp2_with fail
  go_ret
  exact ⟨rfl, rfl⟩
theorem one_calls (w : World) (s : List Bool) (hs : s.length ≤ 4096) (A : Option Addr) (c : Nat) (xs : List Int) (h : Rd w A xs) (hr : Ra xs) (hl : xs.length ≤ 17592186044416) :
  Calls Tryz.prog 62 #[.string (tx (sb s)), .slice A xs.length c] w fun e w' => e = .returned (.bool (oneB s xs)) ∧ w = w' := by
 have HH := Lib.hid h
 have HR := Lib.hid hr
 have KI := Lib.hid (fun x (hx : R64 x) => is_calls w s x hx hs)
 have YES : Hid (∀ k : Nat, xs.any (isB s) = true → Ending.returned (.bool true) = Ending.returned (.bool (oneB s xs))) := fun k h1 => by unfold oneB; rw [h1]
 have NO : Hid (xs.any (isB s) = false → Ending.returned (.bool false) = Ending.returned (.bool (oneB s xs))) := fun h1 => by unfold oneB; rw [h1]
 clear h hr
 generalize tx (sb s) = b at KI ⊢
 go_enter Tryz.func62, Tryz.ntmps62
 go_wp2_with fail
 go_loopg [5] xs.length (fun g i wr => ∃ k : Nat, k + g = xs.length ∧ i = .int .i64 k ∧ w = wr ∧ NoneTo xs (isB s) k)
 case atStart => exact ⟨0, by omega, rfl, rfl, NoneTo.zero _ _⟩
 case round =>
  obtain ⟨k, hk, rfl, rfl, hn⟩ := hrel
  have HK := Lib.hid hk
  have HN := Lib.hid hn
  have hkn : k ≤ xs.length := by omega
  clear hk hn
  by_cases hlt : k < xs.length
  ·obtain ⟨gb, o, x, hA, he, cx, hx1, hx2⟩ := HH.out.one HR.out hlt
   subst hA
   obtain ⟨q, HQ⟩ : ∃ q, Hid (isB s x = q) := ⟨_, rfl⟩
   have HC := Lib.hid (KI.out x ⟨hx1, hx2⟩)
   go_wp2_with fail
   refine HC.out.mono ?_
   rw [HQ.out]
   rintro e w2 ⟨rfl, rfl⟩
   cases q with
   | true =>
    go_wp2_with fail
    go_ret
    exact ⟨YES.out k (any_yes _ _ k hlt (by rw [he.out]; exact HQ.out)), rfl⟩
   | false =>
    go_wp2_with fail
    go_roundg (gk - 1)
    case measure => have := HK.out; omega
    case rel => exact ⟨k + 1, by have := HK.out; omega, by go_num, rfl, HN.out.step (by rw [he.out]; exact HQ.out)⟩
  ·have HT := Lib.hid (HN.out.all hlt)
   clear HN HK
   go_wp2_with fail
   go_ret
   exact ⟨NO.out HT.out, rfl⟩
theorem cls_get {hs : List Ls} {k : Nat} (h : k < hs.length) : (hs.map (·.l))[k]! = (hs[k]!).l := by
 simp only [List.getElem!_eq_getElem?_getD, List.getElem?_map, List.getElem?_eq_getElem h, Option.map_some, Option.getD_some]
theorem any_all {cls : List (List Int)} {p : List Int → Bool} (h : cls.any (fun l => !p l) = false) : cls.all p = true := by
 rw [List.all_eq_true]
 intro x hx
 cases hp : p x with
 | true => rfl
 | false =>
  have : cls.any (fun l => !p l) = true := List.any_eq_true.2 ⟨x, hx, by rw [hp]; rfl⟩
  rw [this] at h
  cases h
theorem any_not_all {cls : List (List Int)} {p : List Int → Bool} (h : cls.any (fun l => !p l) = true) : cls.all p = false := by
 obtain ⟨x, hx, hp⟩ := List.any_eq_true.1 h
 cases ha : cls.all p with
 | false => rfl
 | true =>
  rw [List.all_eq_true] at ha
  rw [ha x hx] at hp
  cases hp
theorem rtrue_calls (w : World) (vars : Int) (A : Option Addr) (c : Nat) (hs : List Ls) (h : RdL w A hs) (hl : hs.length ≤ 1099511620000) (s : List Bool) (hsl : s.length ≤ 4096) :
  Calls Tryz.prog 37 #[.agg #[.int .i64 vars, .slice A hs.length c], .string (tx (sb s))] w fun e w' => e = .returned (.bool (trueB vars (hs.map (·.l)) s)) ∧ Fr [] w w' := by
 obtain ⟨w1, hw1⟩ : ∃ w1, w.alloc (.cells #[.int .i64 vars, .slice A hs.length c] 24) = w1 := ⟨_, rfl⟩
 have HF1 : Hid (Fr [] w w1) := hw1 ▸ box_fr' _ _
 have hS : At w1 w.heap.size 24 #[.int .i64 vars, .slice A hs.length c] := hw1 ▸ At.new _ _ _
 have HH := Lib.hid (h.keep HF1.out)
 have c0 := hS.cell 0
 have c1 := hS.cell 1
 simp at c0 c1
 have hz := sbt_size s
 have KO := Lib.hid (fun (L : Ls) (hL : OkL w1 L) => one_calls w1 s hsl L.A L.c L.l hL.1 hL.2.1 hL.2.2.1)
 have HB := Lib.hid (sb_at s)
 have YES : Hid ((hs.map (·.l)).any (fun l => !oneB s l) = false → trueB vars (hs.map (·.l)) s = ((s.length : Int) == vars)) := fun h1 => by unfold trueB; rw [any_all h1, Bool.true_and]
 have NO : Hid ((hs.map (·.l)).any (fun l => !oneB s l) = true → trueB vars (hs.map (·.l)) s = false) := fun h1 => by unfold trueB; rw [any_not_all h1, Bool.false_and]
 clear h hS
 generalize tx (sb s) = b at KO HB hz ⊢
 go_enter Tryz.func37, Tryz.ntmps37
 go_upto_region 1 with fail
 clear hw1
 go_wp2_with fail
 go_loopg [5] s.length (fun g i wr => ∃ k : Nat, k + g = s.length ∧ i = .int .i64 k ∧ w1 = wr)
 case atStart => exact ⟨0, by omega, rfl, rfl⟩
 case round =>
  obtain ⟨k, hk, rfl, rfl⟩ := hrel
  have HK := Lib.hid hk
  have hkn : k ≤ s.length := by omega
  clear hk
  by_cases hlt : k < s.length
  ·have hls : k < b.size := by omega
   have hat := HB.out k hls
   obtain ⟨q, hq⟩ : ∃ q, s[k]! = q := ⟨_, rfl⟩
   rw [hq] at hat
   have hd1 : (((b[k]).toNat : Int) != 48) = q := by rw [hat]; cases q <;> rfl
   have hd2 : (((b[k]).toNat : Int) != 49) = !q := by rw [hat]; cases q <;> rfl
   clear hat hq
   cases q with
   | true =>
    simp only [Bool.not_true] at hd2
    go_wp2_with fail
    go_roundg (gk - 1)
    case measure => have := HK.out; omega
    case rel => exact ⟨k + 1, by have := HK.out; omega, by go_num, rfl⟩
   | false =>
    clear hd2
    go_wp2_with fail
    go_roundg (gk - 1)
    case measure => have := HK.out; omega
    case rel => exact ⟨k + 1, by have := HK.out; omega, by go_num, rfl⟩
  ·clear HK
   go_wp2_with fail
   go_loopg [6] hs.length (fun g i wr => ∃ k : Nat, k + g = hs.length ∧ i = .int .i64 k ∧ w1 = wr ∧ NoneTo (hs.map (·.l)) (fun l => !oneB s l) k)
   case atStart => exact ⟨0, by omega, rfl, rfl, NoneTo.zero _ _⟩
   case round =>
    obtain ⟨k, hk, rfl, rfl, hn⟩ := hrel
    have HK := Lib.hid hk
    have HN := Lib.hid hn
    have hkn : k ≤ hs.length := by omega
    clear hk hn
    by_cases hlt2 : k < hs.length
    ·obtain ⟨gb, o, B, d, l, hA, hx, cx, ok⟩ := HH.out.one hlt2
     subst hA
     obtain ⟨q, HQ⟩ : ∃ q, Hid (oneB s l = q) := ⟨_, rfl⟩
     have HX : Hid ((hs.map (·.l))[k]! = l) := by show (hs.map (·.l))[k]! = l; rw [cls_get hlt2, hx.out]
     have KOO := KO.out ⟨B, d, l⟩ ok
     simp only at KOO
     rw [HQ.out] at KOO
     have KOO := Lib.hid KOO
     clear ok
     go_wp2_with fail
     refine KOO.out.mono ?_
     rintro e w2 ⟨rfl, rfl⟩
     cases q with
     | true =>
      go_wp2_with fail
      go_roundg (gk - 1)
      case measure => have := HK.out; omega
      case rel => exact ⟨k + 1, by have := HK.out; omega, by go_num, rfl, HN.out.step (by rw [HX.out, HQ.out]; rfl)⟩
     | false =>
      go_wp2_with fail
      go_ret
      exact ⟨by rw [NO.out (any_yes _ _ k (by simpa using hlt2) (by rw [HX.out, HQ.out]; rfl))]; rfl, HF1.out⟩
    ·have HT := Lib.hid (HN.out.all (by simpa using hlt2))
     clear HN HK
     go_wp2_with fail
     go_ret
     exact ⟨by rw [YES.out HT.out]; rfl, HF1.out⟩
def formB (vars : Int) (cls : List (List Int)) : Bool := decide (0 ≤ vars) && decide (vars ≤ 262144) && decide (cls.length ≤ 1048576) && cls.all fun l => chkF vars l == 0
def fewB (vars : Int) (cls : List (List Int)) : Bool := decide (vars ≤ 8) && formB vars cls
theorem formula_calls (w : World) (vars : Int) (A : Option Addr) (c : Nat) (hs : List Ls) (h : hs.length ≤ 1048576 → RdL w A hs) (hl : hs.length ≤ 9223372036854775807) :
  Calls Tryz.prog 20 #[.agg #[.int .i64 vars, .slice A hs.length c]] w fun e w' => e = .returned (.int .i64 (if formB vars (hs.map (·.l)) = true then 0 else 9)) ∧ Fr [] w w' := by
 obtain ⟨w1, hw1⟩ : ∃ w1, w.alloc (.cells #[.int .i64 vars, .slice A hs.length c] 24) = w1 := ⟨_, rfl⟩
 have HF1 : Hid (Fr [] w w1) := hw1 ▸ box_fr' _ _
 have hS : At w1 w.heap.size 24 #[.int .i64 vars, .slice A hs.length c] := hw1 ▸ At.new _ _ _
 have HH := Lib.hid (fun h1 => (h h1).keep HF1.out)
 have c0 := hS.cell 0
 have c1 := hS.cell 1
 simp at c0 c1
 obtain ⟨fb, hfb⟩ : ∃ fb, formB vars (hs.map (·.l)) = fb := ⟨_, rfl⟩
 rw [hfb]
 have HFB := Lib.hid hfb
 obtain ⟨res, hres⟩ : ∃ res : Int, (if fb = true then (0 : Int) else 9) = res := ⟨_, rfl⟩
 rw [hres]
 have HRES := Lib.hid hres
 clear h hS hfb hres
 by_cases h0 : vars < 0
 ·have hn : fb = false := by rw [← HFB.out]; unfold formB; rw [decide_eq_false (by omega : ¬ 0 ≤ vars)]; rfl
  rw [show res = 9 by rw [← HRES.out, hn]; rfl]
  go_enter Tryz.func20, Tryz.ntmps20
  go_upto_region 1 with fail
  clear hw1
  go_wp2_with fail
  go_ret
  exact ⟨rfl, HF1.out⟩
 ·have h0i : 0 ≤ vars := by omega
  by_cases h1 : 262144 < vars
  ·have hn : fb = false := by rw [← HFB.out]; unfold formB; rw [decide_eq_false (by omega : ¬ vars ≤ 262144), Bool.and_false]; rfl
   rw [show res = 9 by rw [← HRES.out, hn]; rfl]
   go_enter Tryz.func20, Tryz.ntmps20
   go_upto_region 1 with fail
   clear hw1
   go_wp2_with fail
   go_ret
   exact ⟨rfl, HF1.out⟩
  ·have h1i : vars ≤ 262144 := by omega
   by_cases h2 : 1048576 < hs.length
   ·have h2i : (1048576 : Int) < (hs.length : Int) := by omega
    have hn : fb = false := by rw [← HFB.out]; unfold formB; rw [decide_eq_false (by simpa using h2 : ¬ (hs.map (·.l)).length ≤ 1048576), Bool.and_false]; rfl
    rw [show res = 9 by rw [← HRES.out, hn]; rfl]
    go_enter Tryz.func20, Tryz.ntmps20
    go_upto_region 1 with fail
    clear hw1
    go_wp2_with fail
    go_ret
    exact ⟨rfl, HF1.out⟩
   ·have h2i : (hs.length : Int) ≤ 1048576 := by omega
    have HR := Lib.hid (HH.out (by omega))
    have hF : fb = (hs.map (·.l)).all fun l => chkF vars l == 0 := by
     rw [← HFB.out]
     unfold formB
     rw [decide_eq_true h0i, decide_eq_true h1i, decide_eq_true (by simp; omega : (hs.map (·.l)).length ≤ 1048576), Bool.true_and, Bool.true_and, Bool.true_and]
    have YES : Hid ((hs.map (·.l)).any (fun l => !(chkF vars l == 0)) = false → fb = true) := fun h => hF.trans (any_all (p := fun l => chkF vars l == 0) h)
    have NO : Hid ((hs.map (·.l)).any (fun l => !(chkF vars l == 0)) = true → fb = false) := fun h => hF.trans (any_not_all (p := fun l => chkF vars l == 0) h)
    clear hF HFB HH
    go_enter Tryz.func20, Tryz.ntmps20
    go_upto_region 1 with fail
    clear hw1
    go_wp2_with fail
    go_loopg [3] hs.length (fun g i wr => ∃ k : Nat, k + g = hs.length ∧ i = .int .i64 k ∧ Hid (Fr [] w1 wr) ∧ NoneTo (hs.map (·.l)) (fun l => !(chkF vars l == 0)) k)
    case atStart => exact ⟨0, by omega, rfl, Fr.refl _ _, NoneTo.zero _ _⟩
    case round =>
     obtain ⟨k, hk, rfl, HF, hn⟩ := hrel
     have HK := Lib.hid hk
     have HN := Lib.hid hn
     have hkn : k ≤ hs.length := by omega
     have d0 := HF.out.cellS c0
     have d1 := HF.out.cellS c1
     clear hk hn
     by_cases hlt2 : k < hs.length
     ·obtain ⟨gb, o, B, d, l, hA, hx, cx, ok⟩ := (HR.out.keep HF.out).one hlt2
      subst hA
      obtain ⟨q, HQ⟩ : ∃ q, Hid (chkF vars l = q) := ⟨_, rfl⟩
      have HX : Hid ((hs.map (·.l))[k]! = l) := by show (hs.map (·.l))[k]! = l; rw [cls_get hlt2, hx.out]
      have KC := Lib.hid (fun u : Ext wr => rcheck_calls u.v vars B d l (ok.1.keep u.fr) ok.2.1)
      simp only [HQ.out] at KC
      have e0 := Ext.cell d0
      have e1 := Ext.cell d1
      have ex := Ext.cell cx
      have hki : (k : Int) < (hs.length : Int) := by omega
      clear ok
      by_cases hq : q = 0
      ·have hd : (q != 0) = false := by simp [hq]
       go_wp2_with fail
       refine wp_region_ext (by kernel_rfl) (by kernel_rfl) ?_
       repeat (go_big_quiet_step (exact call_same (KC.out _)))
       refine wpQuiet_nil ?_
       rintro w2 ⟨u2, hu2⟩
       have HF_w2 : Hid (Fr [] wr w2) := hu2 ▸ u2.fr
       clear hu2 u2
       have HF2 := Lib.hid (HF.out.then_ HF_w2.out)
       clear e0 e1 ex d0 d1 cx HF HF_w2
       go_wp2_with fail
       go_roundg (gk - 1)
       case measure => have := HK.out; omega
       case rel => exact ⟨k + 1, by have := HK.out; omega, by go_num, HF2.out, HN.out.step (by rw [HX.out, HQ.out, hq]; rfl)⟩
      ·have hd : (q != 0) = true := by simp [hq]
       have hfalse := NO.out (any_yes _ _ k (by simpa using hlt2) (by rw [HX.out, HQ.out]; simpa using hq))
       have HFF := Lib.hid hfalse
       clear hfalse
       go_wp2_with fail
       refine wp_region_ext (by kernel_rfl) (by kernel_rfl) ?_
       repeat (go_big_quiet_step (exact call_same (KC.out _)))
       refine wpQuiet_nil ?_
       rintro w2 ⟨u2, hu2⟩
       have HF_w2 : Hid (Fr [] wr w2) := hu2 ▸ u2.fr
       clear hu2 u2
       have HF2 := Lib.hid (HF.out.then_ HF_w2.out)
       clear e0 e1 ex d0 d1 cx HF HF_w2
       go_wp2_with fail
       go_ret
       exact ⟨by rw [← HRES.out, HFF.out]; rfl, HF1.out.then_ HF2.out⟩
     ·have HT := Lib.hid (HN.out.all (by simpa using hlt2))
      clear HN HK
      go_wp2_with fail
      go_ret
      exact ⟨by rw [← HRES.out, YES.out HT.out]; rfl, HF1.out.then_ HF.out⟩
theorem few_calls (w : World) (vars : Int) (A : Option Addr) (c : Nat) (hs : List Ls) (h : hs.length ≤ 1048576 → RdL w A hs) (hl : hs.length ≤ 9223372036854775807) :
  Calls Tryz.prog 7 #[.agg #[.int .i64 vars, .slice A hs.length c]] w fun e w' => e = .returned (.bool (fewB vars (hs.map (·.l)))) ∧ Fr [] w w' := by
 obtain ⟨w1, hw1⟩ : ∃ w1, w.alloc (.cells #[.int .i64 vars, .slice A hs.length c] 24) = w1 := ⟨_, rfl⟩
 have HF1 : Hid (Fr [] w w1) := hw1 ▸ box_fr' _ _
 have hS : At w1 w.heap.size 24 #[.int .i64 vars, .slice A hs.length c] := hw1 ▸ At.new _ _ _
 have KF := Lib.hid (formula_calls w1 vars A c hs (fun h1 => (h h1).keep HF1.out) hl)
 have c0 := hS.cell 0
 have c1 := hS.cell 1
 simp at c0 c1
 unfold fewB
 obtain ⟨fb, hfb⟩ : ∃ fb, formB vars (hs.map (·.l)) = fb := ⟨_, rfl⟩
 rw [hfb] at KF ⊢
 clear h hS hfb
 by_cases h8 : vars ≤ 8
 ·rw [decide_eq_true h8, Bool.true_and]
  cases fb with
  | true =>
   simp only [if_true] at KF
   go_enter Tryz.func7, Tryz.ntmps7
   go_upto_region 1 with fail
   clear hw1
   go_wp2_with fail
   refine KF.out.mono ?_
   rintro e w2 ⟨rfl, hf⟩
   have HF2 := Lib.hid (HF1.out.then_ hf)
   clear hf KF
   go_wp2_with fail
   go_ret
   exact ⟨rfl, HF2.out⟩
  | false =>
   simp only [Bool.false_eq_true, if_false] at KF
   go_enter Tryz.func7, Tryz.ntmps7
   go_upto_region 1 with fail
   clear hw1
   go_wp2_with fail
   refine KF.out.mono ?_
   rintro e w2 ⟨rfl, hf⟩
   have HF2 := Lib.hid (HF1.out.then_ hf)
   clear hf KF
   go_wp2_with fail
   go_ret
   exact ⟨rfl, HF2.out⟩
 ·rw [decide_eq_false h8, Bool.false_and]
  have h8i : 8 < vars := by omega
  go_enter Tryz.func7, Tryz.ntmps7
  go_upto_region 1 with fail
  clear hw1
  go_wp2_with fail
  go_ret
  exact ⟨rfl, HF1.out⟩
theorem infoString : (Tryz.prog.info? 9).map (fun i => (i.zero, i.size, i.bytes)) = some (some (.string ⟨#[]⟩), 1, 16) := by kernel_rfl
def txv (s : List Bool) : Value := .string (tx (sb s))
def Txs (w : World) (A : Option Addr) (c : Nat) (ss : List (List Bool)) : Prop := w.ownsRow 0 9 1 (.slice A ss.length c) ss.length (ss.map txv)
namespace Txs
variable {w w' : World} {A : Option Addr} {c : Nat} {ss : List (List Bool)}
theorem form (h : Txs w A c ss) : (A = none ∧ c = 0 ∧ ss = []) ∨ ∃ g, A = some ⟨g, 0, none⟩ ∧ g < w.heap.size := by
 rcases h.2 with ⟨h1, h2⟩ | ⟨g, cap, cur, hv, _, hg, hn, hm, _⟩
 ·simp only [Value.slice.injEq] at h1
  exact .inl ⟨h1.1, h1.2.2, List.eq_nil_of_length_eq_zero h2⟩
 ·simp only [Value.slice.injEq, true_and] at hv
  obtain ⟨rfl, rfl⟩ := hv
  exact .inr ⟨g, rfl, At.lt (t := 9) hg⟩
theorem pos {i : Nat} (h : Txs w A c ss) (hi : i < ss.length) : ∃ g, A = some ⟨g, 0, none⟩ ∧ g < w.heap.size := by
 rcases h.form with ⟨_, _, rfl⟩ | ⟨g, h1, h2⟩
 ·simp at hi
 ·exact ⟨g, h1, h2⟩
theorem cell {g : Nat} (h : Txs w (some ⟨g, 0, none⟩) c ss) {i : Nat} (hi : i < ss.length) : w.cell? ⟨g, i, none⟩ = some (.string (tx (sb ss[i]!))) := by
 rw [World.ownsRow.cellAt h _ (by omega)]
 simp [hi, txv]
theorem fr {S : List Nat} (h : Txs w A c ss) (hf : Fr S w w') (hd : ∀ k, k ∈ blks A → k ∉ S) : Txs w' A c ss := hf.own h (fun k hk => hd k ((blks_own k).1 hk))
theorem keep (h : Txs w A c ss) (hf : Fr [] w w') : Txs w' A c ss := h.fr hf (fun k _ hm => by cases hm)
theorem nil (w : World) : Txs w none 0 [] := World.ownsRow_nil w 0 _ 1
end Txs
theorem getT_mem {ss : List (List Bool)} {k : Nat} (h : k < ss.length) : ss[k]! ∈ ss := by
 rw [List.getElem!_eq_getElem?_getD, List.getElem?_eq_getElem h]
 exact List.getElem_mem h
def ext2 (s : List Bool) : List (List Bool) := [s ++ [false], s ++ [true]]
def allL : Nat → List (List Bool)
 | 0 => [[]]
 | n + 1 => (allL n).flatMap ext2
def twoTo (ss : List (List Bool)) (k : Nat) : List (List Bool) := (ss.take k).flatMap ext2
theorem twoTo_succ {ss : List (List Bool)} {k : Nat} (h : k < ss.length) : twoTo ss (k + 1) = twoTo ss k ++ ext2 ss[k]! := by
 unfold twoTo
 rw [List.take_add_one, List.flatMap_append]
 simp only [List.getElem!_eq_getElem?_getD, List.getElem?_eq_getElem h, Option.getD_some, Option.toList_some, List.flatMap_cons, List.flatMap_nil, List.append_nil]
theorem twoTo_len (ss : List (List Bool)) (k : Nat) (h : k ≤ ss.length) : (twoTo ss k).length = 2 * k := by
 induction k with
 | zero => rfl
 | succ k ih => rw [twoTo_succ (by omega), List.length_append, ih (by omega)]; rfl
theorem twoTo_all (ss : List (List Bool)) : twoTo ss ss.length = ss.flatMap ext2 := by unfold twoTo; rw [List.take_length]
theorem allL_len : ∀ n, (allL n).length = 2 ^ n
 | 0 => rfl
 | n + 1 => by rw [allL, ← twoTo_all, twoTo_len _ _ (Nat.le_refl _), allL_len n, Nat.pow_succ]; omega
theorem allL_bits : ∀ n, ∀ s ∈ allL n, s.length = n
 | 0, s, h => by simp [allL] at h; subst h; rfl
 | n + 1, s, h => by
  rw [allL, List.mem_flatMap] at h
  obtain ⟨t, ht, hs⟩ := h
  have := allL_bits n t ht
  unfold ext2 at hs
  simp only [List.mem_cons, List.not_mem_nil, or_false] at hs
  rcases hs with rfl | rfl <;> simp [this]
def modB (vars : Int) (cls : List (List Int)) (us : List Int) (s : List Bool) : Bool := trueB vars cls s && us.all (isB s)
def modelsL (V : Nat) (cls : List (List Int)) (us : List Int) : List (List Bool) := (allL V).filter (modB V cls us)
def MoP (ms : List (List Bool)) (w : World) (e : Ending) (w' : World) : Prop := ∃ (A : Option Addr) (c : Nat), e = .returned (.slice A ms.length c) ∧ Fr [] w w'
theorem step_append_txs2 {w : World} {ops : Array Oper} {o : Oper} {a : Act} {K : Act → World → Prop} {Q : Exit → Act → World → Prop} {E : Prop} (hgd : o.guard = none) (s x : Operand)
  (ho : o.op = .call { callee := .builtin .append, args := #[s, x], argTypes := #[62, 62] }) (A : Option Addr) (c : Nat) (ss : List (List Bool)) (n : Nat) (hs : a.eval s = .slice A n c) (hn : n = ss.length) (hown : Txs w A c ss)
  (g0 c' : Nat) (hx : a.eval x = .slice (some ⟨g0, 0, none⟩) 2 c') (y0 y1 : List Bool) (b0 b1 : ByteArray) (hy : At w g0 9 #[.string b0, .string b1]) (e0 : b0 = tx (sb y0)) (e1 : b1 = tx (sb y1)) (hlen : ss.length ≤ 2097152)
  (h : ∀ g cap w', Txs w' (some ⟨g, 0, none⟩) cap (ss ++ [y0, y1]) → Fr (blks A) w w' → (g ∈ blks A ∨ g = w.heap.size) → K (a.put o.dst (.slice (some ⟨g, 0, none⟩) (n + 2) cap)) w') :
  if Region.wanted o (yielded ops a.tmps) = true then Oper.wp Tryz.prog o a w K Q else E := by
 have hw : Region.wanted o (yielded ops a.tmps) = true := by simp [Region.wanted, hgd]
 rw [if_pos hw]
 subst hn
 obtain ⟨A', cap, w', hr, h2, h3, h4, h5, h6, h7⟩ := run_append_row w 62 o.type 9 (.string ⟨#[]⟩) 1 16 Tryz.underlying62 infoString rfl (by decide) A c ss.length (ss.map txv) hown ⟨g0, 0, none⟩ 2 c' [.string b0, .string b1] rfl (fun j u hu => by
  match j, hu with
  | 0, hu => (simp at hu; subst hu; simpa [Addr.add] using hy.cell 0)
  | 1, hu => (simp at hu; subst hu; simpa [Addr.add] using hy.cell 1)
  | (_ + 2), hu => (simp at hu)) (by simp [Value.oneCell']) (by unfold maxLen; omega) (by omega)
 cases A' with
 | none => exact absurd (h6 rfl).1 (by decide)
 | some a' =>
  obtain ⟨g, rfl⟩ := h7 a' rfl
  unfold Oper.wp execOp
  simp only [ho, resolve, invoke, builtin, Sem.run_bind, Sem.run_pure, Result.andThen_ok, List.map_toArray, List.map_cons, List.map_nil, hs, hx, hr]
  refine h g cap w' ?_ h3 (h4 g (by simp [blks]))
  unfold Txs
  rw [List.length_append, List.map_append]
  simp only [List.map_cons, List.map_nil, txv, ← e0, ← e1]
  exact h2
theorem wpList_append_txs (w : World) {ops : Array Oper} {rest : List Oper} {o : Oper} {a : Act} {Q : Exit → Act → World → Prop} (hgd : o.guard = none) (s x : Operand)
  (ho : o.op = .call { callee := .builtin .append, args := #[s, x], argTypes := #[62, 62] }) (A : Option Addr) (c : Nat) (ss : List (List Bool)) (n : Nat) (hs : a.eval s = .slice A n c) (hn : n = ss.length) (hown : Txs w A c ss)
  (g0 : Nat) (c' : Nat) (hx : a.eval x = .slice (some ⟨g0, 0, none⟩) 1 c') (y : List Bool) (b : ByteArray) (hy : At w g0 9 #[.string b]) (e0 : b = tx (sb y)) (hlen : ss.length ≤ 2097152)
  (h : ∀ g cap w', Txs w' (some ⟨g, 0, none⟩) cap (ss ++ [y]) → Fr (blks A) w w' → (g ∈ blks A ∨ g = w.heap.size) → wpList Tryz.prog ops Q rest (a.put o.dst (.slice (some ⟨g, 0, none⟩) (n + 1) cap)) w') :
  wpList Tryz.prog ops Q (o :: rest) a w := by
 subst hn
 refine wpList_append_one w hgd s x 62 ho 9 (.string ⟨#[]⟩) 1 16 Tryz.underlying62 infoString rfl (by decide) A c ss.length hs (ss.map txv) hown ⟨g0, 0, none⟩ c' hx [.string b] rfl (fun j u hu => by
  match j, hu with
  | 0, hu => (simp at hu; subst hu; simpa [Addr.add] using hy.cell 0)
  | (_ + 1), hu => (simp at hu)) (fun u hu => by
   simp only [List.mem_cons, List.not_mem_nil, or_false] at hu
   subst hu; rfl) (by unfold maxLen; omega) (by omega) fun g cap w' h2 h3 h4 h5 => h g cap w' ?_ h3 h4
 unfold Txs
 rw [List.length_append, List.map_append]
 simp only [List.map_cons, List.map_nil, txv, ← e0]
 exact h2
def outTo (p : List Bool → Bool) (ss : List (List Bool)) (i : Nat) : List (List Bool) := (ss.take i).filter p
theorem outTo_succ {p : List Bool → Bool} {ss : List (List Bool)} {i : Nat} (h : i < ss.length) : outTo p ss (i + 1) = outTo p ss i ++ if p ss[i]! = true then [ss[i]!] else [] := by
 unfold outTo
 rw [List.take_add_one, List.filter_append]
 simp only [List.getElem!_eq_getElem?_getD, List.getElem?_eq_getElem h, Option.getD_some, Option.toList_some, List.filter_cons, List.filter_nil]
theorem outTo_len (p : List Bool → Bool) (ss : List (List Bool)) (i : Nat) : (outTo p ss i).length ≤ ss.length := by
 unfold outTo
 have h1 := List.length_filter_le p (ss.take i)
 have h2 := List.length_take_le i ss
 have h3 : (ss.take i).length ≤ ss.length := by rw [List.length_take]; omega
 omega
theorem all_succ {p : Int → Bool} {us : List Int} {j : Nat} (h : j < us.length) : (us.take (j + 1)).all p = ((us.take j).all p && p us[j]!) := by
 rw [List.take_add_one, List.all_append]
 simp only [List.getElem!_eq_getElem?_getD, List.getElem?_eq_getElem h, Option.getD_some, Option.toList_some, List.all_cons, List.all_nil, Bool.and_true]
theorem models_calls (w : World) (V : Nat) (hV : V ≤ 8) (A : Option Addr) (c : Nat) (hs : List Ls) (h : RdL w A hs) (hl : hs.length ≤ 1099511620000) (B : Option Addr) (d : Nat) (us : List Int) (hb : Rd w B us) (hra : Ra us) (hul : us.length ≤ 17592186044416) :
  Calls Tryz.prog 35 #[.agg #[.int .i64 V, .slice A hs.length c], .slice B us.length d] w (MoP (modelsL V (hs.map (·.l)) us) w) := by
 obtain ⟨w1, hw1⟩ : ∃ w1, w.alloc (.cells #[.int .i64 (V : Int), .slice A hs.length c] 24) = w1 := ⟨_, rfl⟩
 have HF1 : Hid (Fr [] w w1) := hw1 ▸ box_fr' _ _
 have hS : At w1 w.heap.size 24 #[.int .i64 (V : Int), .slice A hs.length c] := hw1 ▸ At.new _ _ _
 have HH := Lib.hid (h.keep HF1.out)
 have HB := Lib.hid (hb.keep HF1.out)
 have HRA := Lib.hid hra
 have c0 := hS.cell 0
 have c1 := hS.cell 1
 simp at c0 c1
 have HC0 := Lib.hid c0
 have HC1 := Lib.hid c1
 clear h hb hra hS
 go_enter Tryz.func35, Tryz.ntmps35
 go_upto_region 1 with fail
 clear hw1
 obtain ⟨w2, hw2⟩ : ∃ w2, w1.alloc (.cells #[.string ⟨#[]⟩] 9) = w2 := ⟨_, rfl⟩
 have HF2 : Hid (Fr [] w1 w2) := hw2 ▸ box_fr' _ _
 have HT2 : Hid (Txs w2 (some ⟨w1.heap.size, 0, none⟩) 1 (allL 0)) := by
  rw [← hw2]
  exact World.ownsRow_lit w1 #[.string ⟨#[]⟩] 1 (by simp) (by simp [maxLen]) rfl
 go_wp2_with fail
 clear hw2
 go_loopg [5, 6] V (fun g x5 x6 wr => ∃ (k : Nat) (A1 : Option Addr) (c1 : Nat), k + g = V ∧ x5 = .slice A1 (allL k).length c1 ∧ x6 = .int .i64 k ∧ Hid (Txs wr A1 c1 (allL k)) ∧ Hid (∀ j, j ∈ blks A1 → w1.heap.size ≤ j) ∧ Hid (Fr [] w1 wr))
 case atStart => exact ⟨0, _, _, by omega, rfl, rfl, HT2.out, fun j hj => by simp [blks] at hj; omega, HF2.out⟩
 case round =>
  obtain ⟨k, A1, c1', hk, rfl, rfl, HT, HN, HF⟩ := hrel
  have HK := Lib.hid hk
  have hkn : k ≤ V := by omega
  have d0 := HF.out.cellS HC0.out
  clear hk
  by_cases hlt : k < V
  ·have HLE : Hid ((allL k).length ≤ 256) := by
    show _ ≤ _
    rw [allL_len]
    have := Nat.pow_le_pow_right (n := 2) (by omega) (show k ≤ 8 by omega)
    omega
   obtain ⟨n, hn⟩ : ∃ n, (allL k).length = n := ⟨_, rfl⟩
   have HNN := Lib.hid hn
   rw [hn] at HLE ⊢
   clear hn
   go_wp2_with fail
   go_loopg [7, 8] n (fun g x7 x8 wi => ∃ (i : Nat) (A2 : Option Addr) (c2 : Nat), i + g = n ∧ x7 = .slice A2 (twoTo (allL k) i).length c2 ∧ x8 = .int .i64 i ∧ Hid (Txs wi A2 c2 (twoTo (allL k) i)) ∧ Hid (∀ j, j ∈ blks A2 → w1.heap.size ≤ j) ∧ Hid (Fr [] w1 wi) ∧ Hid (Txs wi A1 c1' (allL k)) ∧ Hid (∀ j, j ∈ blks A1 → j ∉ blks A2))
   case atStart => exact ⟨0, none, 0, by omega, rfl, rfl, Txs.nil _, fun j hj => (by simp [blks] at hj), HF.out, HT.out, fun j _ hj => (by simp [blks] at hj)⟩
   case round =>
    obtain ⟨i, A2, c2, hi, rfl, rfl, HT2, HN2, HF2, HTA, HNA⟩ := hrel
    have HI := Lib.hid hi
    have hle := HLE.out
    have hin : i ≤ n := by omega
    have HL2 : Hid ((twoTo (allL k) i).length = 2 * i) := twoTo_len _ _ (by rw [HNN.out]; omega)
    clear hi
    by_cases hlt2 : i < n
    ·have hik : i < (allL k).length := by rw [HNN.out]; exact hlt2
     obtain ⟨ga, hA, hgl⟩ := HTA.out.pos hik
     subst hA
     have cx := HTA.out.cell hik
     have HTS : Hid (twoTo (allL k) (i + 1) = twoTo (allL k) i ++ ext2 (allL k)[i]!) := twoTo_succ hik
     obtain ⟨s, hs'⟩ : ∃ s, (allL k)[i]! = s := ⟨_, rfl⟩
     rw [hs'] at cx HTS
     have HA0 : Hid (tx (sb s) ++ ⟨#[48]⟩ = tx (sb (s ++ [false]))) := by
      show _ = _
      rw [sb_app, ← tx_app]; rfl
     have HA1 : Hid (tx (sb s) ++ ⟨#[49]⟩ = tx (sb (s ++ [true]))) := by
      show _ = _
      rw [sb_app, ← tx_app]; rfl
     have hbz : ¬ (9223372036854775807 < (tx (sb s)).size + 1) := by
      have := allL_bits k s (hs' ▸ getT_mem hik)
      rw [sbt_size]
      omega
     obtain ⟨b, hb⟩ : ∃ b, tx (sb s) = b := ⟨_, rfl⟩
     rw [hb] at cx HA0 HA1 hbz
     obtain ⟨m2, hm2⟩ : ∃ m, (twoTo (allL k) i).length = m := ⟨_, rfl⟩
     have HM2 := Lib.hid hm2
     have hm2b : m2 ≤ 512 := by have := HL2.out; omega
     have hnn : (i : Int) < (n : Int) := by omega
     have HCX := Lib.hid cx
     have HGL := Lib.hid hgl
     clear hik hs' hm2 hb hgl
     rw [HM2.out]
     go_upto_region 9 with fail
     clear cx
     refine wp_region_noPanic ?_
     refine wp_region_C (fun w' : World => Fr [] wr w') 12 (by kernel_rfl) ((Fr.refl [] wr).drew) (fun hT0 => ?_)
     refine T0 (i := 0) (oi := ?or9u1) (v := ?vr9u1) (by rfl) (by kernel_rfl) (by rfl) ?yr9u1 hT0 ?_
     case yr9u1 => (intro w; go_simp <;> with_reducible rfl)
     try simp only [Act.put, q5, q6, q7]
     refine T0 (i := 1) (oi := ?or9u2) (v := ?vr9u2) (by rfl) (by kernel_rfl) (by rfl) ?yr9u2 (hT0.more 0) ?_
     case yr9u2 => (intro w; go_simp <;> with_reducible rfl)
     try simp only [Act.put, q5, q6, q7]
     refine T0 (i := 2) (oi := ?or9u3) (v := ?vr9u3) (by rfl) (by kernel_rfl) (by rfl) ?yr9u3 ((hT0.more 0).more 1) ?_
     case yr9u3 => (intro w; go_simp <;> with_reducible rfl)
     try simp only [Act.put, q5, q6, q7]
     refine T0 (i := 3) (oi := ?or9u4) (v := ?vr9u4) (by rfl) (by kernel_rfl) (by rfl) ?yr9u4 (((hT0.more 0).more 1).more 2) ?_
     case yr9u4 => (intro w; go_simp <;> with_reducible rfl)
     try simp only [Act.put, q5, q6, q7]
     refine T1 (i := 4) (oi := ?or9u5) (v := ?vr9u5) [4, 5, 11, 12] (by rfl) (by kernel_rfl) (by rfl) ?yr9u5 (((((hT0.more 0).more 1).more 2).more 3).resolve_left (by decide)) ?_
     case yr9u5 => (intro w hSw; (have sx := hSw.cellS HCX.out); go_simp <;> with_reducible rfl)
     try simp only [Act.put, q5, q6, q7]
     refine T0 (i := 5) (oi := ?or9u6) (v := ?vr9u6) (by rfl) (by kernel_rfl) (by rfl) ?yr9u6 (((((hT0.more 0).more 1).more 2).more 3).more 4) ?_
     case yr9u6 => (intro w; go_simp <;> with_reducible rfl)
     try simp only [Act.put, q5, q6, q7]
     refine T0 (i := 6) (oi := ?or9u7) (v := ?vr9u7) (by rfl) (by kernel_rfl) (by rfl) ?yr9u7 ((((((hT0.more 0).more 1).more 2).more 3).more 4).more 5) ?_
     case yr9u7 => (intro w; go_simp <;> with_reducible rfl)
     try simp only [Act.put, q5, q6, q7]
     refine T0 (i := 7) (oi := ?or9u8) (v := ?vr9u8) (by rfl) (by kernel_rfl) (by rfl) ?yr9u8 (((((((hT0.more 0).more 1).more 2).more 3).more 4).more 5).more 6) ?_
     case yr9u8 => (intro w; go_simp <;> with_reducible rfl)
     try simp only [Act.put, q5, q6, q7]
     refine T0 (i := 8) (oi := ?or9u9) (v := ?vr9u9) (by rfl) (by kernel_rfl) (by rfl) ?yr9u9 ((((((((hT0.more 0).more 1).more 2).more 3).more 4).more 5).more 6).more 7) ?_
     case yr9u9 => (intro w; go_simp <;> with_reducible rfl)
     try simp only [Act.put, q5, q6, q7]
     refine T1 (i := 9) (oi := ?or9u10) (v := ?vr9u10) [9, 10, 11, 12] (by rfl) (by kernel_rfl) (by rfl) ?yr9u10 ((((((((((hT0.more 0).more 1).more 2).more 3).more 4).more 5).more 6).more 7).more 8).resolve_left (by decide)) ?_
     case yr9u10 => (intro w hSw; (have sx := hSw.cellS HCX.out); go_simp <;> with_reducible rfl)
     try simp only [Act.put, q5, q6, q7]
     refine T0 (i := 10) (oi := ?or9u11) (v := ?vr9u11) (by rfl) (by kernel_rfl) (by rfl) ?yr9u11 ((((((((((hT0.more 0).more 1).more 2).more 3).more 4).more 5).more 6).more 7).more 8).more 9) ?_
     case yr9u11 => (intro w; go_simp <;> with_reducible rfl)
     try simp only [Act.put, q5, q6, q7]
     have hSx := (((((((((((hT0.more 0).more 1).more 2).more 3).more 4).more 5).more 6).more 7).more 8).more 9).more 10).resolve_left (by decide)
     refine R1 (i := 11) (o := ?or9u12) (by kernel_rfl) (by rfl) ?_
     intro K hK
     go_simp
     refine hK.out _ _ (.inr ?_) (fun hT12 => ?_)
     ·first | exact hSx.alloc _ | exact hSx
     clear hK K
     try simp only [Act.put, q5, q6, q7]
     have hSx := hT12.resolve_left (by decide)
     refine R1 (i := 12) (o := ?or9u13) (by kernel_rfl) (by rfl) ?_
     intro K hK
     (refine step_append_txs2 rfl _ _ rfl A2 c2 (twoTo (allL k) i) m2 rfl HM2.out.symm ?hownr9u13 _ _ rfl (s ++ [false]) (s ++ [true]) _ _ ?hatr9u13 HA0.out HA1.out (by rw [HM2.out]; omega) ?_; (case hownr9u13 => exact HT2.out.keep hSx); (case hatr9u13 => exact At.new _ _ _); intro g3 cap3 w3 hi3 hf3 hg3)
     refine hK.out _ _ (.inl rfl) (fun hT13 => ?_)
     clear hK K
     try simp only [Act.put, q5, q6, q7]
     refine R1 (i := 13) (o := ?or9u14) (by kernel_rfl) (by rfl) ?_
     intro K hK
     go_simp
     refine hK.out _ _ (.inl rfl) (fun hT14 => ?_)
     clear hK K
     try simp only [Act.put, q5, q6, q7]
     refine wpAnyC_done (by kernel_rfl) ?_ _
     refine NoPanic.normal ?_
     have h3 := hi3
     rw [show [s ++ [false], s ++ [true]] = ext2 s from rfl, ← HTS.out] at h3
     have HT3 := Lib.hid h3
     have hsub : ∀ j, j ∈ blks (some (⟨g3, 0, none⟩ : Addr)) → w1.heap.size ≤ j ∧ j ≠ ga := fun j hj => by
      simp [blks] at hj
      subst hj
      rcases hg3 with h1 | h1
      ·exact ⟨HN2.out j h1, fun e => HNA.out ga (by simp [blks]) (e ▸ h1)⟩
      ·have q1 := hSx.size
       have q2 := HF2.out.size
       have q3 := HGL.out
       exact ⟨by omega, by omega⟩
     have HN3 := Lib.hid (fun j hj => (hsub j hj).1)
     have HNA3 : Hid (∀ j, j ∈ blks (some (⟨ga, 0, none⟩ : Addr)) → j ∉ blks (some (⟨g3, 0, none⟩ : Addr))) := fun j hj hm => by
      simp [blks] at hj
      exact (hsub j hm).2 hj
     have HF3 : Hid (Fr [] w1 w3) := (HF2.out.then_ hSx).trans hf3 (fun x hx => .inr (HN2.out x hx))
     have HTA3 : Hid (Txs w3 (some ⟨ga, 0, none⟩) c1' (allL k)) := (HTA.out.keep hSx).fr hf3 (fun j hj hm => HNA.out j hj hm)
     have HL3 : Hid ((twoTo (allL k) (i + 1)).length = m2 + 2) := by
      show _ = _
      rw [HTS.out, List.length_append, HM2.out]
      rfl
     clear hi3 hf3 hg3 h3 hsub hSx
     go_wp2_with fail
     go_roundg (gk - 1)
     case measure => have := HI.out; omega
     case rel => exact ⟨i + 1, some ⟨g3, 0, none⟩, cap3, by have := HI.out; omega, by rw [HL3.out], by go_num, HT3.out, HN3.out, HF3.out, HTA3.out, HNA3.out⟩
    ·obtain rfl : i = n := by omega
     have HTW : Hid (twoTo (allL k) i = allL (k + 1)) := by
      show _ = _
      rw [← HNN.out, twoTo_all]
      rfl
     rw [HTW.out] at HT2 ⊢
     clear HTA HNA
     go_wp2_with fail
     go_roundg (V - (k + 1))
     case measure => have := HK.out; omega
     case rel => exact ⟨k + 1, A2, c2, by omega, rfl, by go_num, HT2.out, HN2.out, HF2.out⟩
  ·obtain rfl : V = k := by omega
   clear HK
   obtain ⟨ss, hss⟩ : ∃ ss, allL V = ss := ⟨_, rfl⟩
   have HSL : Hid (∀ s ∈ ss, s.length = V) := hss ▸ allL_bits V
   have hn256 : ss.length ≤ 256 := by
    rw [← hss, allL_len]
    have := Nat.pow_le_pow_right (n := 2) (by omega) (show V ≤ 8 by omega)
    omega
   have HMS : Hid (modelsL V (hs.map (·.l)) us = ss.filter (modB V (hs.map (·.l)) us)) := by
    show _ = _
    unfold modelsL
    rw [hss]
   rw [hss] at HT ⊢
   obtain ⟨P, hP⟩ : ∃ P, modB V (hs.map (·.l)) us = P := ⟨_, rfl⟩
   rw [hP] at HMS
   have HPE : Hid (∀ s, P s = (trueB V (hs.map (·.l)) s && us.all (isB s))) := fun s => by rw [← hP]; rfl
   obtain ⟨w5, rfl⟩ : ∃ x, x = wr := ⟨_, rfl⟩
   have HF5 : Hid (Fr [] w1 w5) := HF.out
   clear hss hP HN HF
   go_wp2_with fail
   clear d0
   go_loopg [9, 10] ss.length (fun g x9 x10 wr => ∃ (i : Nat) (A3 : Option Addr) (c3 : Nat), i + g = ss.length ∧ x9 = .slice A3 (outTo P ss i).length c3 ∧ x10 = .int .i64 i ∧ Hid (Txs wr A3 c3 (outTo P ss i)) ∧ Hid (∀ j, j ∈ blks A3 → w5.heap.size ≤ j) ∧ Hid (Fr [] w5 wr))
   case atStart => exact ⟨0, none, 0, by omega, rfl, rfl, Txs.nil _, fun j hj => (by simp [blks] at hj), Fr.refl _ _⟩
   case round =>
    obtain ⟨i, A3, c3, hi, rfl, rfl, HT3, HN3, HF3⟩ := hrel
    have HI := Lib.hid hi
    have hin : i ≤ ss.length := by omega
    have HF13 := Lib.hid (HF5.out.then_ HF3.out)
    clear hi
    by_cases hlt2 : i < ss.length
    ·obtain ⟨ga, hA, hgl⟩ := HT.out.pos hlt2
     subst hA
     have HTA := Lib.hid (HT.out.keep HF3.out)
     have cx := HTA.out.cell hlt2
     obtain ⟨s, hs'⟩ : ∃ s, ss[i]! = s := ⟨_, rfl⟩
     have hsl : s.length = V := HSL.out s (hs' ▸ getT_mem hlt2)
     have hs4 : s.length ≤ 4096 := by omega
     have HOS : Hid (outTo P ss (i + 1) = outTo P ss i ++ if P ss[i]! = true then [ss[i]!] else []) := outTo_succ hlt2
     rw [hs'] at cx HOS
     have d0 := HF13.out.cellS HC0.out
     have d1 := HF13.out.cellS HC1.out
     obtain ⟨tb, htb⟩ : ∃ tb, trueB V (hs.map (·.l)) s = tb := ⟨_, rfl⟩
     have KT := Lib.hid (fun u : Ext wr => rtrue_calls u.v V A c hs (HH.out.keep (HF13.out.then_ u.fr)) hl s hs4)
     simp only [htb] at KT
     have KI := Lib.hid (fun (W : World) (x : Int) (hx : R64 x) => is_calls W s x hx hs4)
     have HPS : Hid (P s = (tb && us.all (isB s))) := by show _ = _; rw [HPE.out, htb]
     obtain ⟨b, hb⟩ : ∃ b, tx (sb s) = b := ⟨_, rfl⟩
     have HBE := Lib.hid hb
     simp only [hb] at KT KI
     rw [hb] at cx
     have HCX := Lib.hid cx
     have e0 := Ext.cell d0
     have e1 := Ext.cell d1
     have ex := Ext.cell cx
     have hii : (i : Int) < (ss.length : Int) := by omega
     obtain ⟨m3, hm3⟩ : ∃ m, (outTo P ss i).length = m := ⟨_, rfl⟩
     have HM3 := Lib.hid hm3
     have hm3b : m3 ≤ 256 := by rw [← hm3]; exact Nat.le_trans (outTo_len P ss i) hn256
     rw [hm3]
     clear hs' htb hb hm3
     go_upto_region 15 with fail
     refine wp_region_ext (by kernel_rfl) (by kernel_rfl) ?_
     repeat (go_big_quiet_step (exact call_ext (KT.out _)))
     refine wpQuiet_nil ?_
     rintro w3 ⟨u2, hu2⟩
     have HF_w3 : Hid (Fr [] wr w3) := hu2 ▸ u2.fr
     clear hu2 u2
     have HF35 := Lib.hid (HF3.out.then_ HF_w3.out)
     have HFr3 := Lib.hid HF_w3.out
     clear e0 e1 ex d0 d1 cx KT HF_w3
     go_wp2_with fail
     go_loopg [11, 12] us.length (fun g x11 x12 wi => ∃ j : Nat, j + g = us.length ∧ x11 = .bool (tb && (us.take j).all (isB s)) ∧ x12 = .int .i64 j ∧ Hid (Fr [] w3 wi))
     case atStart => exact ⟨0, by omega, by rw [List.take_zero, List.all_nil, Bool.and_true], rfl, Fr.refl _ _⟩
     case round =>
      obtain ⟨j, hj, rfl, rfl, HFJ⟩ := hrel
      have HJ := Lib.hid hj
      have hjn : j ≤ us.length := by omega
      clear hj
      obtain ⟨q, hq⟩ : ∃ q, (tb && (us.take j).all (isB s)) = q := ⟨_, rfl⟩
      have HQ := Lib.hid hq
      rw [hq]
      clear hq
      have HFA := Lib.hid ((HFr3.out.then_ HFJ.out))
      by_cases hlt3 : j < us.length
      ·obtain ⟨gu, o, x, hB, he, cu, hx1, hx2⟩ := (HB.out.keep (HF13.out.then_ HFA.out)).one HRA.out hlt3
       subst hB
       have HSU : Hid ((us.take (j + 1)).all (isB s) = ((us.take j).all (isB s) && isB s us[j]!)) := all_succ hlt3
       have KII := Lib.hid (fun u : Ext wr => KI.out u.v x ⟨hx1, hx2⟩)
       obtain ⟨iq, HIQ⟩ : ∃ iq, Hid (isB s x = iq) := ⟨_, rfl⟩
       simp only [HIQ.out] at KII
       have hju : (j : Int) < (us.length : Int) := by omega
       cases q with
       | true =>
        have HQ2 : Hid ((tb && (us.take (j + 1)).all (isB s)) = iq) := by
         show _ = _
         rw [HSU.out, ← Bool.and_assoc, HQ.out, Bool.true_and, he.out, HIQ.out]
        have eu := Ext.cell cu
        have ex := Ext.cell (HFA.out.cellS HCX.out)
        go_upto_region 19 with fail
        refine wp_region_ext (by kernel_rfl) (by kernel_rfl) ?_
        repeat (go_big_quiet_step (exact call_same (KII.out _)))
        refine wpQuiet_nil ?_
        rintro w4 ⟨u2, hu2⟩
        have HF_w4 : Hid (Fr [] wr w4) := hu2 ▸ u2.fr
        clear hu2 u2
        have HFJ2 := Lib.hid (HFJ.out.then_ HF_w4.out)
        clear eu ex cu HF_w4
        go_wp2_with fail
        go_roundg (gk - 1)
        case measure => have := HJ.out; omega
        case rel => exact ⟨j + 1, by have := HJ.out; omega, by rw [HQ2.out], by go_num, HFJ2.out⟩
       | false =>
        have HQ2 : Hid ((tb && (us.take (j + 1)).all (isB s)) = false) := by
         show _ = _
         rw [HSU.out, ← Bool.and_assoc, HQ.out, Bool.false_and]
        go_upto_region 19 with fail
        refine wp_region_ext (by kernel_rfl) (by kernel_rfl) ?_
        repeat (go_big_quiet_step (fail))
        refine wpQuiet_nil ?_
        rintro w4 ⟨u2, hu2⟩
        have HF_w4 : Hid (Fr [] wr w4) := hu2 ▸ u2.fr
        clear hu2 u2
        have HFJ2 := Lib.hid (HFJ.out.then_ HF_w4.out)
        clear cu HF_w4
        go_wp2_with fail
        go_roundg (gk - 1)
        case measure => have := HJ.out; omega
        case rel => exact ⟨j + 1, by have := HJ.out; omega, by rw [HQ2.out], by go_num, HFJ2.out⟩
      ·obtain rfl : j = us.length := by omega
       have HPQ : Hid (P s = q) := by show _ = _; rw [HPS.out, ← HQ.out, List.take_length]
       have HF36 := Lib.hid (HF35.out.then_ HFJ.out)
       cases q with
       | true =>
        have cx := HFA.out.cellS HCX.out
        have HT36 := Lib.hid (HT3.out.keep HFA.out)
        obtain ⟨wb, hwb⟩ : ∃ W, wr.alloc (.cells #[.string b] 9) = W := ⟨_, rfl⟩
        have HFB : Hid (Fr [] wr wb) := hwb ▸ box_fr' _ _
        have HAT : Hid (At wb wr.heap.size 9 #[.string b]) := hwb ▸ At.new _ _ _
        have HOO : Hid (outTo P ss (i + 1) = outTo P ss i ++ [s]) := by
         have := HOS.out
         rw [HPQ.out] at this
         exact this
        go_wp2_with (at_builtin; (refine wpList_append_txs _ rfl _ _ rfl A3 c3 (outTo P ss i) m3 rfl HM3.out.symm (HT36.out.keep HFB.out) wr.heap.size _ rfl s b HAT.out HBE.out.symm (by rw [HM3.out]; omega) ?_; intro g3 cap3 w6 hi6 hf6 hg6))
        have HT6 : Hid (Txs w6 (some ⟨g3, 0, none⟩) cap3 (outTo P ss (i + 1))) := by rw [HOO.out]; exact hi6
        have HL6 : Hid ((outTo P ss (i + 1)).length = m3 + 1) := by
         show _ = _
         rw [HOO.out, List.length_append, HM3.out]
         rfl
        have HN6 : Hid (∀ j, j ∈ blks (some (⟨g3, 0, none⟩ : Addr)) → w5.heap.size ≤ j) := fun j hj => by
         simp [blks] at hj
         subst hj
         rcases hg6 with h1 | h1
         ·exact HN3.out j h1
         ·have := HF36.out.size; have := HFB.out.size; omega
        have HF6 : Hid (Fr [] w5 w6) := (HF36.out.then_ HFB.out).trans hf6 (fun x hx => .inr (HN3.out x hx))
        clear hi6 hf6 hg6 hwb cx
        go_roundg (ss.length - (i + 1))
        case measure => have := HI.out; omega
        case rel => exact ⟨i + 1, some ⟨g3, 0, none⟩, cap3, by omega, by rw [HL6.out], by go_num, HT6.out, HN6.out, HF6.out⟩
       | false =>
        have HOO : Hid (outTo P ss (i + 1) = outTo P ss i) := by
         have := HOS.out
         rw [HPQ.out] at this
         show _ = _
         simpa using this
        have HT36 : Hid (Txs wr A3 c3 (outTo P ss (i + 1))) := by rw [HOO.out]; exact HT3.out.keep HFA.out
        go_wp2_with fail
        go_roundg (ss.length - (i + 1))
        case measure => have := HI.out; omega
        case rel => exact ⟨i + 1, A3, c3, by omega, by rw [HOO.out, HM3.out], by go_num, HT36.out, HN3.out, HF36.out⟩
    ·obtain rfl : i = ss.length := by omega
     have FF : Hid (MoP (modelsL V (hs.map (·.l)) us) w (.returned (.slice A3 (outTo P ss ss.length).length c3)) wr) := ⟨A3, c3, by
      rw [HMS.out]
      unfold outTo
      rw [List.take_length], HF1.out.then_ HF13.out⟩
     go_wp2_with fail
     go_ret
     exact FF.out
end Go.Proofs.YtdpigdlknmcmlaaGreat
