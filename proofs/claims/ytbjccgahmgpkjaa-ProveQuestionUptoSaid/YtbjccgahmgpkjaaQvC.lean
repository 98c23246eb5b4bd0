/- slices.SortFunc at ints with clause.order: the library's contract, laid at this program. slices.SortFunc at ints with clause.order: some list as long in the same row. clause.Norm, clause.Same walked: some list, some Boolean. SortFunc, Compact at any row, nil too; clause.Norm walked. clause.Same, keep.has walked: some Boolean. -/
import Derived.Test.YtbjccgahmgpkjaaQvB
import Derived.Shelf.SlSortCmp.NoneTotal
namespace Go.Proofs.Ytbjccgahmgpkjaa
open Go.Shelf
set_option linter.unusedVariables false
def sortL_ren : Go.Shelf.Ren := ⟨fun | 6 => 81 | 15 => 89 | 14 => 88 | 28 => 103 | 29 => 104 | 20 => 95 | 21 => 96 | 22 => 97 | 23 => 98 | 24 => 99 | 25 => 100 | 26 => 101 | 27 => 102 | 46 => 106 | 47 => 107 | 48 => 108 | 49 => 109 | 50 => 110 | 57 => 111 | n => n, fun | 22 => 22 | 24 => 3 | 25 => 117 | 3 => 3 | 39 => 104 | 0 => 0 | 53 => 122 | 55 => 135 | 4 => 4 | 46 => 127 | 45 => 126 | 50 => 131 | 5 => 5 | 9 => 9 | 66 => 136 | 70 => 140 | 76 => 142 | 77 => 143 | n => n, fun | n => n⟩
theorem sortL : Go.Proofs.SlLaysF.n6 Try.prog sortL_ren := {
  mixed := by kernel_rfl
  f6 := ⟨Try.f81.name, by decide, Try.func81.trans (congrArg some (by kernel_rfl))⟩
  f14 := ⟨Try.f88.name, by decide, Try.func88.trans (congrArg some (by kernel_rfl))⟩
  f15 := Try.func89.trans (congrArg some (by kernel_rfl))
  f20 := ⟨Try.f95.name, by decide, Try.func95.trans (congrArg some (by kernel_rfl))⟩
  f21 := ⟨Try.f96.name, by decide, Try.func96.trans (congrArg some (by kernel_rfl))⟩
  f22 := ⟨Try.f97.name, by decide, Try.func97.trans (congrArg some (by kernel_rfl))⟩
  f23 := ⟨Try.f98.name, by decide, Try.func98.trans (congrArg some (by kernel_rfl))⟩
  f24 := ⟨Try.f99.name, by decide, Try.func99.trans (congrArg some (by kernel_rfl))⟩
  f25 := ⟨Try.f100.name, by decide, Try.func100.trans (congrArg some (by kernel_rfl))⟩
  f26 := ⟨Try.f101.name, by decide, Try.func101.trans (congrArg some (by kernel_rfl))⟩
  f27 := ⟨Try.f102.name, by decide, Try.func102.trans (congrArg some (by kernel_rfl))⟩
  f28 := Try.func103.trans (congrArg some (by kernel_rfl))
  f29 := Try.func104.trans (congrArg some (by kernel_rfl))
  f46 := ⟨Try.f106.name, by decide, Try.func106.trans (congrArg some (by kernel_rfl))⟩
  f47 := Try.func107.trans (congrArg some (by kernel_rfl))
  f48 := Try.func108.trans (congrArg some (by kernel_rfl))
  f49 := ⟨Try.f109.name, by decide, Try.func109.trans (congrArg some (by kernel_rfl))⟩
  f50 := ⟨Try.f110.name, by decide, Try.func110.trans (congrArg some (by kernel_rfl))⟩
  f57 := ⟨Try.f111.name, by decide, Try.func111.trans (congrArg some (by kernel_rfl))⟩
  t0 := Try.underlying0
  a0 := Try.isAgg0
  z0 := Try.sizeOf0
  v0 := Try.zeroValue0
  t3 := Try.underlying3
  a3 := Try.isAgg3
  z3 := Try.sizeOf3
  v3 := Try.zeroValue3
  t4 := Try.underlying4
  a4 := Try.isAgg4
  z4 := Try.sizeOf4
  v4 := Try.zeroValue4
  t5 := Try.underlying5
  a5 := Try.isAgg5
  z5 := Try.sizeOf5
  v5 := Try.zeroValue5
  t9 := Try.underlying9
  a9 := Try.isAgg9
  z9 := Try.sizeOf9
  v9 := Try.zeroValue9
  t22 := Try.underlying22
  a22 := Try.isAgg22
  z22 := Try.sizeOf22
  v22 := Try.zeroValue22
  a24 := Try.isAgg3
  z24 := Try.sizeOf3
  t25 := Try.underlying117
  a25 := Try.isAgg117
  z25 := Try.sizeOf117
  v25 := Try.zeroValue117
  t39 := Try.underlying104
  a39 := Try.isAgg104
  z39 := Try.sizeOf104
  v39 := Try.zeroValue104
  t45 := Try.underlying126
  a45 := Try.isAgg126
  z45 := Try.sizeOf126
  v45 := Try.zeroValue126
  t46 := Try.underlying127
  a46 := Try.isAgg127
  z46 := Try.sizeOf127
  v46 := Try.zeroValue127
  t50 := Try.underlying131
  a50 := Try.isAgg131
  z50 := Try.sizeOf131
  v50 := Try.zeroValue131
  t53 := Try.underlying122
  a53 := Try.isAgg122
  z53 := Try.sizeOf122
  v53 := Try.zeroValue122
  t55 := Try.underlying135
  a55 := Try.isAgg135
  z55 := Try.sizeOf135
  v55 := Try.zeroValue135
  t66 := Try.underlying136
  a66 := Try.isAgg136
  z66 := Try.sizeOf136
  v66 := Try.zeroValue136
  t70 := Try.underlying140
  a70 := Try.isAgg140
  z70 := Try.sizeOf140
  v70 := Try.zeroValue140
  t76 := Try.underlying142
  a76 := Try.isAgg142
  z76 := Try.sizeOf142
  v76 := Try.zeroValue142
  t77 := Try.underlying143
  a77 := Try.isAgg143
  z77 := Try.sizeOf143
  v77 := Try.zeroValue143 }

open Go.RowKit Go.Sort
theorem key_lt (x y : Int) : ltOf ordF x y = (decide (absF x < absF y) || (decide (absF x = absF y) && decide (x < y))) := by
  unfold ltOf ordF orI cmpI
  by_cases h1 : absF x < absF y
  · simp [h1]
  · by_cases h2 : absF y < absF x
    · simp [h1, h2]
      omega
    · have h3 : absF x = absF y := by omega
      by_cases h4 : x < y
      · simp [h3, h4]
      · by_cases h5 : y < x <;> simp [h3, h4, h5]
theorem swoO : SWO (ltOf ordF) where
  irrefl x := by rw [key_lt]; simp
  trans x y z h1 h2 := by
    rw [key_lt] at *
    simp only [Bool.or_eq_true, Bool.and_eq_true, decide_eq_true_eq] at *
    omega
  ntrans x y z h1 h2 := by
    rw [key_lt] at *
    simp only [Bool.or_eq_false_iff, Bool.and_eq_false_iff, decide_eq_false_iff_not] at *
    omega
theorem cmpLays (g off size : Nat) (w : World) : CmpLays1 Try.prog 82 #[] (Value.int .i64) ordF g off size w :=
  fun m os dk _ x y => (order_calls _ x y).mono fun e w' ⟨he, hw⟩ => ⟨he, 0, #[.cells #[.int .i64 (cmpI (absF x) (absF y)), .int .i64 (cmpI x y)] 3], by rw [hw, alloc_eq_grow]; rfl⟩

end Go.Proofs.Ytbjccgahmgpkjaa
namespace Go.Proofs.Ytbjccgahmgpkjaa
open Go.RowKit Go.Shelf Go.Sort
set_option linter.unusedVariables false

theorem sortWorld_row (w : World) (g n : Nat) (d : Array Int) (os : Array Obj) (cur : Array Value) (hg : w.heap[g]? = some (.cells cur 3 (0, 0))) : (sortWorld (Value.int .i64) w g 0 n d os).heap[g]? = some (.cells (putCells (Value.int .i64) 0 d cur) 3 (0, 0)) := by
  have hlt := (Array.getElem?_eq_some_iff.1 hg).1
  unfold sortWorld grow putRow mapBlock Sort.ahead
  simp only
  rw [Array.getElem?_append_left (by simpa using hlt), Array.getElem?_modify, if_pos rfl, hg]
  rfl
theorem sortWorld_fr (w : World) (g n : Nat) (d : Array Int) (os : Array Obj) : Fr [g] w (sortWorld (Value.int .i64) w g 0 n d os) := by
  unfold sortWorld grow putRow mapBlock Sort.ahead
  refine ⟨rfl, rfl, rfl, by simp, fun k hk hn => ?_⟩
  simp only
  rw [Array.getElem?_append_left (by simpa using hk), Array.getElem?_modify, if_neg (fun e => hn (by simp [e]))]

theorem sort_calls (w : World) (g c : Nat) (xs : List Int) (h : Ints w (some ⟨g, 0, none⟩) c xs) (hr : Ra xs) (hl : xs.length ≤ 17592186044416) :
    Calls Try.prog 81 #[.slice (some ⟨g, 0, none⟩) xs.length c, .func (.func 82) #[] #[]] w fun e w' => e = .returned (.tuple #[]) ∧ ∃ ys : List Int, ys.length = xs.length ∧ Ints w' (some ⟨g, 0, none⟩) c ys ∧ Ra ys ∧ Fr [g] w w' := by
  have hlt : g < w.heap.size := (World.ownsRow.lt h g rfl).2
  have hH : Holds (Value.int .i64) w g 0 xs.toArray := fun j hj => by
    have hj' : j < xs.length := by simpa using hj
    rw [Nat.zero_add]
    refine ⟨?_, h.frozen j⟩
    rw [h.cell hj']
    simp [hj']
  have hcon := Any.slices_SortFunc sortL (Value.int .i64) (fun _ => rfl) ordF swoO 82 #[] g 0 c xs.toArray w enters82 (cmpLays g 0 xs.toArray.size w) hH hlt (by simp; omega)
  change Calls Try.prog 81 _ _ _ at hcon
  have hsz : xs.toArray.size = xs.length := by simp
  rw [hsz] at hcon
  refine hcon.mono ?_
  rintro e w' ⟨rfl, d', n, os, hp, hs, rfl⟩
  obtain ⟨hp1, _, hp2⟩ := hp
  have hdl : d'.toList.length = xs.length := by simpa using hp1
  have hperm : d'.toList.Perm xs := by
    have e1 : (d'.extract 0 xs.length).toList = d'.toList := by
      rw [Array.toList_extract]
      simp [List.take_of_length_le, hdl]
    have e2 : (xs.toArray.extract 0 xs.length).toList = xs := by simp
    rw [e1, e2] at hp2
    exact hp2
  refine ⟨rfl, d'.toList, hdl, ?_, ?_, sortWorld_fr w g n d' os⟩
  · rcases h.2 with ⟨h1, _⟩ | ⟨g', cap, cur, hv, hb, hg, hn, hm, hsc, ht⟩
    · cases h1
    · simp only [Value.slice.injEq, Option.some.injEq, Addr.mk.injEq, and_true, true_and] at hv
      obtain ⟨rfl, rfl⟩ := hv
      refine ⟨by simp, .inr ⟨g, c, _, rfl, hb, sortWorld_row w g n d' os cur hg, by rw [hdl]; exact hn, hm, by simp [putCells, hsc], ?_⟩⟩
      apply List.ext_getElem?
      intro k
      rw [Nat.mul_one, hdl]
      have hcs : cur.size = c := by omega
      have hds : d'.size = xs.length := by simpa using hp1
      by_cases hk : k < xs.length
      · rw [List.getElem?_take, if_pos hk]
        have hkc : k < cur.size := by omega
        have hkd : k < d'.size := by omega
        simp [putCells, hkc, hkd]
      · rw [List.getElem?_take, if_neg hk, List.getElem?_eq_none (by rw [List.length_map, hdl]; omega)]
  · exact (mem_idx (p := R64)).2 fun x hx => (mem_idx (p := R64)).1 hr x (hperm.mem_iff.1 hx)

end Go.Proofs.Ytbjccgahmgpkjaa
namespace Go.Proofs.Ytbjccgahmgpkjaa
open Go.RowKit
set_option linter.unusedVariables false

/-- What Norm answers. -/
def NrP (n : Nat) (w : World) (e : Ending) (w' : World) : Prop := ∃ (A : Option Addr) (c : Nat) (ys : List Int) (q : Bool), e = .returned (.tuple #[.slice A ys.length c, .bool q]) ∧ Rd w' A ys ∧ Ra ys ∧ ys.length ≤ n ∧ Fr [] w w'

theorem clone_zero (w : World) (A : Option Addr) (xs : List Int) (c : Nat) (h : Rd w A xs) (hr : Ra xs) (hl : xs.length ≤ 1048576) (hn : A = none → xs.length = 0 ∧ c = 0) :
    Calls Try.prog 37 #[.slice A xs.length c] w (ClP w 3 1 xs.length (xs.map (Value.int .i64))) := clone_ints w A xs.length c (xs.map (Value.int .i64)) hn h.rs (by simp) (by simp [Value.oneCell']) (by omega)

theorem deletez_any (w : World) (A : Option Addr) (c : Nat) (xs : List Int) (h : Ints w A c xs) (hr : Ra xs) (hl : xs.length ≤ 17592186044416) :
    Calls Try.prog 79 #[.slice A xs.length c, .func (.func 80) #[] #[]] w (SoP A c xs.length w) := by
  rcases h.form with ⟨rfl, rfl, rfl⟩ | ⟨g, rfl, _⟩
  · have HI := Lib.hid (index_zero w none 0 [] (fun h => absurd h (Nat.not_lt_zero _)) hr (by simp))
    have HH := Lib.hid h
    clear h
    go_enter Try.func79, Try.ntmps79
    go_wp2_with fail
    refine HI.out.mono ?_
    rintro e w1 ⟨hc, hf1⟩
    rcases hc with rfl | ⟨n, rfl, hn⟩
    · have HF := Lib.hid hf1
      clear hf1
      go_wp2_with fail
      go_ret
      exact ⟨[], rfl, HH.out.fr HF.out (by simp), hr, Nat.le_refl _, HF.out.mono (by simp)⟩
    · exact absurd hn (Nat.not_lt_zero _)
  · exact deletez_calls w g c xs h hr hl

end Go.Proofs.Ytbjccgahmgpkjaa
namespace Go.Proofs.Ytbjccgahmgpkjaa
open Go.RowKit Go.Shelf Go.Sort
set_option linter.unusedVariables false

theorem compact_any (w : World) (A : Option Addr) (c : Nat) (xs : List Int) (h : Ints w A c xs) (hr : Ra xs) (hl : xs.length ≤ 17592186044416) :
    Calls Try.prog 83 #[.slice A xs.length c] w (SoP A c xs.length w) := by
  rcases h.form with ⟨rfl, rfl, rfl⟩ | ⟨g, rfl, _⟩
  · have HH := Lib.hid h
    have hr2 := hr
    clear h
    go_enter Try.func83, Try.ntmps83
    go_wp2_with fail
    go_ret
    exact ⟨[], rfl, HH.out, hr2, Nat.le_refl _, Fr.refl _ _⟩
  · exact compact_calls w g c xs h hr hl
theorem sort_any (w : World) (A : Option Addr) (c : Nat) (xs : List Int) (h : Ints w A c xs) (hr : Ra xs) (hl : xs.length ≤ 17592186044416) :
    Calls Try.prog 81 #[.slice A xs.length c, .func (.func 82) #[] #[]] w fun e w' => e = .returned (.tuple #[]) ∧ ∃ ys : List Int, ys.length = xs.length ∧ Ints w' A c ys ∧ Ra ys ∧ Fr (blks A) w w' := by
  rcases h.form with ⟨rfl, rfl, rfl⟩ | ⟨g, rfl, _⟩
  · have hcon := AnyF.slices_SortFunc_none { sortL with } none 0 (.func (.func 82) #[] #[]) w
    change Calls Try.prog 81 _ _ _ at hcon
    refine hcon.mono ?_
    rintro e w' ⟨rfl, rfl⟩
    exact ⟨rfl, [], rfl, h, hr, Fr.refl _ _⟩
  · exact (sort_calls w g c xs h hr hl).mono fun e w' ⟨he, ys, h1, h2, h3, h4⟩ => ⟨he, ys, h1, h2, h3, by simpa [blks] using h4⟩

set_option maxHeartbeats 2000000 in
theorem norm_calls (w : World) (A : Option Addr) (c : Nat) (xs : List Int) (h : Rd w A xs) (hr : Ra xs) (hl : xs.length ≤ 1048576) (hn : A = none → xs.length = 0 ∧ c = 0) :
    Calls Try.prog 75 #[.slice A xs.length c] w (NrP xs.length w) := by
  have HCL := Lib.hid (clone_zero w A xs c h hr hl hn)
  have HR := Lib.hid hr
  have KD := Lib.hid deletez_any
  have KS := Lib.hid sort_any
  have KC := Lib.hid compact_any
  clear h hr hn
  go_enter Try.func75, Try.ntmps75
  go_wp2_with fail
  refine HCL.out.mono ?_
  rintro e w1 ⟨A1, c1, rfl, ho, hb, hf1⟩
  have HD1 := Lib.hid (KD.out w1 A1 c1 xs ho HR.out (by omega))
  have HB : Hid (∀ k, k ∈ blks A1 → w.heap.size ≤ k) := hb
  have HF1 := Lib.hid hf1
  clear ho hb hf1 HCL
  go_wp2_with fail
  refine HD1.out.mono ?_
  rintro e w2 ⟨y1, rfl, ho, hra, hyl, hf⟩
  have HS := Lib.hid (KS.out w2 A1 c1 y1 ho hra (by omega))
  have HF2 : Hid (Fr [] w w2) := HF1.out.trans hf (fun x hx => .inr (HB.out x hx))
  clear HD1 HF1 hf ho hra
  go_wp2_with fail
  refine HS.out.mono ?_
  rintro e w3 ⟨rfl, y2, hy2, ho, hra, hf⟩
  have HC := Lib.hid (KC.out w3 A1 c1 y2 ho hra (by omega))
  have HF3 : Hid (Fr [] w w3) := HF2.out.trans hf (fun x hx => .inr (HB.out x hx))
  clear HS HF2 hf ho hra
  rw [hy2] at HC
  go_wp2_with fail
  refine HC.out.mono ?_
  rintro e w4 ⟨y3, rfl, ho, hra, hy3, hf⟩
  have HF4 : Hid (Fr [] w w4) := HF3.out.trans hf (fun x hx => .inr (HB.out x hx))
  have HO := Lib.hid ho
  have HRA := Lib.hid hra
  clear HC HF3 hf ho hra
  have hyl3 : y3.length ≤ xs.length := by omega
  have YES : Hid (∀ q W, Fr [] w4 W → NrP xs.length w (.returned (.tuple #[.slice A1 y3.length c1, .bool q])) W) := fun q W hW => ⟨A1, c1, y3, q, rfl, HO.out.rd.keep hW, HRA.out, hyl3, HF4.out.then_ hW⟩
  go_wp2_with fail
  go_loopg [16] y3.length (fun g i wr => ∃ k : Nat, k + g = y3.length ∧ i = .int .i64 k ∧ Fr [] w4 wr)
  case atStart => exact ⟨0, by omega, rfl, Fr.refl _ _⟩
  case round =>
    obtain ⟨k, hk, rfl, hf⟩ := hrel
    have HK := Lib.hid hk
    have HF := Lib.hid hf
    have hkn : k ≤ y3.length := by omega
    clear hk hf
    by_cases hlt : k < y3.length
    · obtain ⟨b, o, x, hA, he, cx, hx1, hx2⟩ := (HO.out.rd.keep HF.out).one HRA.out hlt
      subst hA
      cases k with
      | zero =>
        rw [Nat.add_zero] at cx
        go_wp2_with fail
        go_roundg (gk - 1)
        case measure => have := HK.out; omega
        case rel => exact ⟨1, by have := HK.out; omega, by go_num, HF.out⟩
      | succ j =>
        obtain ⟨b', o', x', hA', he', cx', hx1', hx2'⟩ := (HO.out.rd.keep HF.out).one HRA.out (j := j) (by omega)
        simp only [Option.some.injEq, Addr.mk.injEq, and_true] at hA'
        obtain ⟨rfl, rfl⟩ := hA'
        obtain ⟨q, hq⟩ : ∃ q : Bool, (x' == wrap64 (-x)) = q := ⟨(x' == wrap64 (-x)), rfl⟩
        cases q with
        | true =>
          go_wp2_with fail
          go_ret2
          exact YES.out _ _ HF.out
        | false =>
          go_wp2_with fail
          go_roundg (gk - 1)
          case measure => have := HK.out; omega
          case rel => exact ⟨j + 1 + 1, by have := HK.out; omega, by go_num, HF.out⟩
    · clear HK
      go_wp2_with fail
      go_ret2
      exact YES.out _ _ HF.out

end Go.Proofs.Ytbjccgahmgpkjaa
namespace Go.Proofs.Ytbjccgahmgpkjaa
open Go.RowKit
set_option linter.unusedVariables false

/-- Some Boolean; memory grows alone. -/
def SomeB (w : World) (e : Ending) (w' : World) : Prop := (∃ q, e = .returned (.bool q)) ∧ Fr [] w w'
/-- A list that is not too long. -/
def SmL (w : World) (h : Ls) : Prop := OkL w h ∧ h.l.length ≤ 1048576
theorem SmL.keep {w w' : World} {h : Ls} (k : SmL w h) (hf : Fr [] w w') : SmL w' h := ⟨k.1.keep hf, k.2⟩

set_option maxHeartbeats 1000000 in
theorem same_any (w : World) (A B : Option Addr) (c d : Nat) (xs ys : List Int) (ha : SmL w ⟨A, c, xs⟩) (hb : SmL w ⟨B, d, ys⟩) :
    Calls Try.prog 68 #[.slice A xs.length c, .slice B ys.length d] w (SomeB w) := by
  have HN1 := Lib.hid (norm_calls w A c xs ha.1.1 ha.1.2.1 ha.2 ha.1.2.2.2)
  have HN2 := Lib.hid (fun W (hf : Fr [] w W) => norm_calls W B d ys (hb.1.1.keep hf) hb.1.2.1 hb.2 hb.1.2.2.2)
  have hxl := ha.2
  have hyl := hb.2
  simp only at hxl hyl
  have KE := Lib.hid sequal_any
  clear ha hb
  go_enter Try.func68, Try.ntmps68
  go_wp2_with fail
  refine HN1.out.mono ?_
  rintro e w1 ⟨A1, c1, y1, q1, rfl, hr1, hra1, hl1, hf1⟩
  have HF1 := Lib.hid hf1
  have HM2 := Lib.hid (HN2.out w1 hf1)
  have HR1 := Lib.hid hr1
  have HA1 := Lib.hid hra1
  clear hr1 hra1 hf1 HN1 HN2
  go_wp2_with fail
  refine HM2.out.mono ?_
  rintro e w2 ⟨A2, c2, y2, q2, rfl, hr2, hra2, hl2, hf2⟩
  have HF2 := Lib.hid (HF1.out.then_ hf2)
  have HE := Lib.hid (KE.out w2 A1 A2 c1 c2 y1 y2 (HR1.out.keep hf2) hr2 HA1.out hra2 (by omega) (by omega))
  clear hr2 hra2 hf2 HM2
  go_wp2_with fail
  refine HE.out.mono ?_
  rintro e w3 ⟨⟨q, rfl⟩, hf⟩
  have HF3 := Lib.hid (HF2.out.then_ hf)
  clear hf
  go_wp2_with fail
  go_ret
  exact ⟨⟨q, rfl⟩, HF3.out⟩

theorem has1_any (w : World) (g : Nat) (A B : Option Addr) (c d : Nat) (xs ys : List Int) (hc : w.cell? ⟨g, 0, none⟩ = some (.slice B ys.length d)) (ha : SmL w ⟨A, c, xs⟩) (hb : SmL w ⟨B, d, ys⟩) :
    Calls Try.prog 67 #[.slice A xs.length c, .pointer (some ⟨g, 0, none⟩)] w (SomeB w) := by
  have HS := Lib.hid (same_any w B A d c ys xs hb ha)
  clear ha hb
  go_enter Try.func67, Try.ntmps67
  go_wp2_with fail
  refine HS.out.mono ?_
  rintro e w3 ⟨⟨q, rfl⟩, hf⟩
  have HF := Lib.hid hf
  clear hf
  go_wp2_with fail
  go_ret
  exact ⟨⟨q, rfl⟩, HF.out⟩
theorem enters67 : ∀ args w, (callFunc 67 args).run Try.prog w = .ok (.enter 67 args) w := enters_of Try.func67 (by kernel_rfl) rfl

def SomeI (w : World) (e : Ending) (w' : World) : Prop := (∃ n : Int, e = .returned (.int .i64 n) ∧ -1 ≤ n ∧ n ≤ 9223372036854775807) ∧ Fr [] w w'
set_option maxHeartbeats 1000000 in
theorem index_lists (w : World) (g : Nat) (A B : Option Addr) (c d : Nat) (hs : List Ls) (ys : List Int) (hc : w.cell? ⟨g, 0, none⟩ = some (.slice B ys.length d)) (h : RdL w A hs) (hsm : ∀ j : Nat, j < hs.length → (hs[j]!).l.length ≤ 1048576) (hl : hs.length ≤ 17592186044416) (hb : SmL w ⟨B, d, ys⟩) :
    Calls Try.prog 74 #[.slice A hs.length c, .func (.func 67) #[] #[.pointer (some ⟨g, 0, none⟩)]] w (SomeI w) := by
  have HH := Lib.hid h
  have HC := Lib.hid hc
  have HB := Lib.hid hb
  have HSM := Lib.hid hsm
  have eg := enters67
  clear h hc hb hsm
  go_enter Try.func74, Try.ntmps74
  go_wp2_with fail
  go_loopg [8] hs.length (fun gk i wr => ∃ k : Nat, k + gk = hs.length ∧ i = .int .i64 k ∧ Fr [] w wr)
  case atStart => exact ⟨0, by omega, rfl, Fr.refl _ _⟩
  case round =>
    obtain ⟨k, hk, rfl, hf⟩ := hrel
    have HK := Lib.hid hk
    have HF := Lib.hid hf
    have hkn : k ≤ hs.length := by omega
    clear hk hf
    by_cases hlt : k < hs.length
    · obtain ⟨b, o, B1, d1, l1, hA, he, cx, ok⟩ := (HH.out.keep HF.out).one hlt
      subst hA
      have hsl : l1.length ≤ 1048576 := by have := HSM.out k hlt; rw [he.out] at this; exact this
      have HQ := Lib.hid (has1_any wr g B1 B d1 d l1 ys (HF.out.cellS HC.out) ⟨ok, hsl⟩ (HB.out.keep HF.out))
      clear ok
      go_wp2_with fail
      refine HQ.out.mono ?_
      rintro e w2 ⟨⟨q, rfl⟩, hf2⟩
      have HF2 := Lib.hid (HF.out.then_ hf2)
      clear hf2 HQ
      cases q with
      | true =>
        go_wp2_with fail
        go_ret
        exact ⟨⟨_, rfl, by omega, by omega⟩, HF2.out⟩
      | false =>
        go_wp2_with fail
        go_roundg (gk - 1)
        case measure => have := HK.out; omega
        case rel => exact ⟨k + 1, by have := HK.out; omega, by go_num, HF2.out⟩
    · clear HK
      go_wp2_with fail
      go_ret
      exact ⟨⟨-1, rfl, by omega, by omega⟩, HF.out⟩
theorem contains_lists (w : World) (g : Nat) (A B : Option Addr) (c d : Nat) (hs : List Ls) (ys : List Int) (hc : w.cell? ⟨g, 0, none⟩ = some (.slice B ys.length d)) (h : RdL w A hs) (hsm : ∀ j : Nat, j < hs.length → (hs[j]!).l.length ≤ 1048576) (hl : hs.length ≤ 17592186044416) (hb : SmL w ⟨B, d, ys⟩) :
    Calls Try.prog 66 #[.slice A hs.length c, .func (.func 67) #[] #[.pointer (some ⟨g, 0, none⟩)]] w (SomeB w) := by
  have HC := Lib.hid (index_lists w g A B c d hs ys hc h hsm hl hb)
  clear h hc hb hsm
  go_enter Try.func66, Try.ntmps66
  go_wp2_with fail
  refine HC.out.mono ?_
  rintro e w2 ⟨⟨n, rfl, h1, h2⟩, hf⟩
  have HF := Lib.hid hf
  clear hf
  go_wp2_with fail
  go_ret
  exact ⟨⟨_, rfl⟩, HF.out⟩
theorem khas_any (w : World) (A B : Option Addr) (c d : Nat) (hs : List Ls) (ys : List Int) (h : RdL w A hs) (hsm : ∀ j : Nat, j < hs.length → (hs[j]!).l.length ≤ 1048576) (hl : hs.length ≤ 17592186044416) (hb : SmL w ⟨B, d, ys⟩) :
    Calls Try.prog 56 #[.slice A hs.length c, .slice B ys.length d] w (SomeB w) := by
  have hmf : ∀ (fn : Fn) (first cap : Array Value) (w : World), (Instr.makeFunc fn first cap).run Try.prog w = .ok (.func fn first cap) w := fun _ _ _ _ => rfl
  obtain ⟨W0, hW0⟩ : ∃ W, w.alloc (.cells #[.slice B ys.length d] 22) = W := ⟨_, rfl⟩
  have HF0 : Hid (Fr [] w W0) := hW0 ▸ box_fr _ _
  have hbx : At W0 w.heap.size 22 #[.slice B ys.length d] := hW0 ▸ At.new w _ _
  have KC := Lib.hid (contains_lists W0 w.heap.size A B c d hs ys (by rw [hbx.cell]; rfl) (h.keep HF0.out) hsm hl (hb.keep HF0.out))
  clear h hb hbx hsm
  go_enter Try.func56, Try.ntmps56
  go_wp2_with fail
  refine KC.out.mono ?_
  rintro e w2 ⟨⟨q, rfl⟩, hf⟩
  have HF := Lib.hid (HF0.out.then_ hf)
  clear hf
  go_wp2_with fail
  go_ret
  exact ⟨⟨q, rfl⟩, HF.out⟩

end Go.Proofs.Ytbjccgahmgpkjaa
