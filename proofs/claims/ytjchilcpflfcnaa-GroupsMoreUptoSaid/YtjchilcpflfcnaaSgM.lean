/-  -/
import Derived.Test.YtjchilcpflfcnaaSgT
import Derived.Shelf.SlSortCmp.NoneTotal
import Derived.Test.YtjchilcpflfcnaaSgA
set_option linter.unusedVariables false
set_option linter.unusedSimpArgs false
set_option maxHeartbeats 16000000
set_option maxRecDepth 100000
namespace Go.Proofs.Ytjchilcpflfcnaa
open Go.Shelf
def sortL_ren : Go.Shelf.Ren := ⟨fun | 6 => 41 | 15 => 60 | 14 => 59 | 28 => 82 | 29 => 83 | 20 => 74 | 21 => 75 | 22 => 76 | 23 => 77 | 24 => 78 | 25 => 79 | 26 => 80 | 27 => 81 | 46 => 91 | 47 => 92 | 48 => 93 | 49 => 94 | 50 => 95 | 57 => 100 | n => n, fun | 22 => 24 | 24 => 3 | 25 => 73 | 3 => 3 | 39 => 81 | 0 => 0 | 53 => 99 | 55 => 101 | 4 => 4 | 46 => 92 | 45 => 91 | 50 => 96 | 5 => 5 | 9 => 9 | 66 => 108 | 70 => 112 | 76 => 114 | 77 => 115 | n => n, fun | n => n⟩
theorem sortL : Go.Proofs.SlLaysF.n6 Try.prog sortL_ren := {
 mixed := by kernel_rfl
 f6 := ⟨Try.f41.name, by decide, Try.func41.trans (congrArg some (by kernel_rfl))⟩
 f14 := ⟨Try.f59.name, by decide, Try.func59.trans (congrArg some (by kernel_rfl))⟩
 f15 := Try.func60.trans (congrArg some (by kernel_rfl))
 f20 := ⟨Try.f74.name, by decide, Try.func74.trans (congrArg some (by kernel_rfl))⟩
 f21 := ⟨Try.f75.name, by decide, Try.func75.trans (congrArg some (by kernel_rfl))⟩
 f22 := ⟨Try.f76.name, by decide, Try.func76.trans (congrArg some (by kernel_rfl))⟩
 f23 := ⟨Try.f77.name, by decide, Try.func77.trans (congrArg some (by kernel_rfl))⟩
 f24 := ⟨Try.f78.name, by decide, Try.func78.trans (congrArg some (by kernel_rfl))⟩
 f25 := ⟨Try.f79.name, by decide, Try.func79.trans (congrArg some (by kernel_rfl))⟩
 f26 := ⟨Try.f80.name, by decide, Try.func80.trans (congrArg some (by kernel_rfl))⟩
 f27 := ⟨Try.f81.name, by decide, Try.func81.trans (congrArg some (by kernel_rfl))⟩
 f28 := Try.func82.trans (congrArg some (by kernel_rfl))
 f29 := Try.func83.trans (congrArg some (by kernel_rfl))
 f46 := ⟨Try.f91.name, by decide, Try.func91.trans (congrArg some (by kernel_rfl))⟩
 f47 := Try.func92.trans (congrArg some (by kernel_rfl))
 f48 := Try.func93.trans (congrArg some (by kernel_rfl))
 f49 := ⟨Try.f94.name, by decide, Try.func94.trans (congrArg some (by kernel_rfl))⟩
 f50 := ⟨Try.f95.name, by decide, Try.func95.trans (congrArg some (by kernel_rfl))⟩
 f57 := ⟨Try.f100.name, by decide, Try.func100.trans (congrArg some (by kernel_rfl))⟩
 t0 := Try.underlying0
 a0 := Try.isAgg0
 z0 := Try.sizeOf0
 v0 := Try.zeroValue0
 t3 := Try.underlying3
 a3 := Try.isAgg3
 z3 := Try.sizeOf3
 v3 := Try.zeroValue3
 t4 := Try.underlying4
 a4 := Try.isAgg4
 z4 := Try.sizeOf4
 v4 := Try.zeroValue4
 t5 := Try.underlying5
 a5 := Try.isAgg5
 z5 := Try.sizeOf5
 v5 := Try.zeroValue5
 t9 := Try.underlying9
 a9 := Try.isAgg9
 z9 := Try.sizeOf9
 v9 := Try.zeroValue9
 t22 := Try.underlying24
 a22 := Try.isAgg24
 z22 := Try.sizeOf24
 v22 := Try.zeroValue24
 a24 := Try.isAgg3
 z24 := Try.sizeOf3
 t25 := Try.underlying73
 a25 := Try.isAgg73
 z25 := Try.sizeOf73
 v25 := Try.zeroValue73
 t39 := Try.underlying81
 a39 := Try.isAgg81
 z39 := Try.sizeOf81
 v39 := Try.zeroValue81
 t45 := Try.underlying91
 a45 := Try.isAgg91
 z45 := Try.sizeOf91
 v45 := Try.zeroValue91
 t46 := Try.underlying92
 a46 := Try.isAgg92
 z46 := Try.sizeOf92
 v46 := Try.zeroValue92
 t50 := Try.underlying96
 a50 := Try.isAgg96
 z50 := Try.sizeOf96
 v50 := Try.zeroValue96
 t53 := Try.underlying99
 a53 := Try.isAgg99
 z53 := Try.sizeOf99
 v53 := Try.zeroValue99
 t55 := Try.underlying101
 a55 := Try.isAgg101
 z55 := Try.sizeOf101
 v55 := Try.zeroValue101
 t66 := Try.underlying108
 a66 := Try.isAgg108
 z66 := Try.sizeOf108
 v66 := Try.zeroValue108
 t70 := Try.underlying112
 a70 := Try.isAgg112
 z70 := Try.sizeOf112
 v70 := Try.zeroValue112
 t76 := Try.underlying114
 a76 := Try.isAgg114
 z76 := Try.sizeOf114
 v76 := Try.zeroValue114
 t77 := Try.underlying115
 a77 := Try.isAgg115
 z77 := Try.sizeOf115
 v77 := Try.zeroValue115 }
open Go.RowKit Go.Sort
theorem key_lt (x y : Int) : ltOf ordF x y = (decide (absF x < absF y) || (decide (absF x = absF y) && decide (x < y))) := by
 unfold ltOf ordF orI cmpI
 by_cases h1 : absF x < absF y
 ·simp [h1]
 ·by_cases h2 : absF y < absF x
  ·simp [h1, h2]
   omega
  ·have h3 : absF x = absF y := by omega
   by_cases h4 : x < y
   ·simp [h3, h4]
   ·by_cases h5 : y < x <;> simp [h3, h4, h5]
theorem swoO : SWO (ltOf ordF) where
 irrefl x := by rw [key_lt]; simp
 trans x y z h1 h2 := by
  rw [key_lt] at *
  simp only [Bool.or_eq_true, Bool.and_eq_true, decide_eq_true_eq] at *
  omega
 ntrans x y z h1 h2 := by
  rw [key_lt] at *
  simp only [Bool.or_eq_false_iff, Bool.and_eq_false_iff, decide_eq_false_iff_not] at *
  omega
theorem cmpLays (g off size : Nat) (w : World) : CmpLays1 Try.prog 42 #[] (Value.int .i64) ordF g off size w :=
 fun m os dk _ x y => (order_calls _ x y).mono fun e w' ⟨he, hw⟩ => ⟨he, 0, #[.cells #[.int .i64 (cmpI (absF x) (absF y)), .int .i64 (cmpI x y)] 3], by rw [hw, alloc_eq_grow]; rfl⟩
end Go.Proofs.Ytjchilcpflfcnaa
namespace Go.Proofs.Ytjchilcpflfcnaa
open Go.RowKit Go.Shelf Go.Sort
theorem clone_rd (w : World) (A : Option Addr) (c : Nat) (xs : List Int) (h : Rd w A xs) (hn : A = none → c = 0) (hlen : xs.length < 17592186044416) :
  Calls Try.prog 14 #[.slice A xs.length c] w fun e w' => ∃ A' c', e = .returned (.slice A' xs.length c') ∧ Ints w' A' c' xs ∧ (∀ k, k ∈ blks A' → w.heap.size ≤ k) ∧ Fr [] w w' := by
 cases A with
 | none =>
  have h0 : xs.length = 0 := by
   rcases Nat.eq_zero_or_pos xs.length with h5 | h5
   ·exact h5
   ·obtain ⟨b, o, hA, _⟩ := h h5
    cases hA
  obtain rfl : xs = [] := List.eq_nil_of_length_eq_zero h0
  obtain rfl := hn rfl
  have he : ∀ w : World, (binOp .eql 24 (.slice none 0 0) (.slice none 0 0)).run Try.prog w = .ok (.bool true) w := fun w => Lib.run_eql_slice_nil w _ _ _ _ _ _ _ Try.underlying24
  have e0 : ([] : List Int).length = 0 := rfl
  rw [e0]
  clear h hn h0
  go_enter Try.func14, Try.ntmps14
  go_wp2_with fail
  go_ret
  exact ⟨none, 0, rfl, Ints.nil _, by simp [blks], Fr.refl _ _⟩
 | some ad =>
  have he : ∀ w : World, (binOp .eql 24 (.slice (some ad) xs.length c) (.slice none 0 0)).run Try.prog w = .ok (.bool false) w := fun w => Lib.run_eql_slice_nil w _ _ _ _ _ _ _ Try.underlying24
  have HC : Hid (∀ j : Nat, ∀ y, xs[j]? = some y → (w.alloc (.cells #[] 3)).cell? (ad.add j) = some (.int .i64 y)) := fun j y hy => by
   have hj := (List.getElem?_eq_some_iff.1 hy).1
   obtain ⟨b, o, hA, hx⟩ := h (by omega)
   cases hA
   have := (box_fr' w (.cells #[] 3)).cellS (hx j hj)
   rw [List.getElem!_eq_getElem?_getD, hy] at this
   rw [addr_add]
   simpa using this
  clear h hn
  go_enter Try.func14, Try.ntmps14
  go_wp2_with (at_builtin; (refine wpList_append_row _ rfl _ _ 24 rfl 3 (.int .i64 0) 1 8 Try.underlying24 infoInt rfl (by decide) (some ⟨w.heap.size, 0, none⟩) 0 0 rfl [] ?hown ad xs.length c rfl (xs.map (Value.int .i64)) (by simp) ?hnews (by simp [Value.oneCell']) (by unfold maxLen; omega) (by omega) ?_; (case hown => exact World.ownsRow_lit w #[] 0 (Nat.zero_le _) (by simp [maxLen]) (by simp)); (case hnews => intro jj u hu; simp only [List.getElem?_map, Option.map_eq_some_iff] at hu; obtain ⟨y, hy, rfl⟩ := hu; exact HC.out jj y hy); intro A2 cap w2 hi2 hf2 hg2 hs2 hnn hff; have HI := Lib.hid hi2; have HF2 := Lib.hid hf2; have HG2 := Lib.hid hg2; have HNN := Lib.hid hnn; clear hi2 hf2 hg2 hs2 hnn hff))
  go_ret
  refine ⟨A2, cap, by simp, ?_, fun k hk => ?_, ?_⟩
  ·have := HI.out
   unfold Ints
   simpa using this
  ·rcases HG2.out k hk with h | h
   ·simp [blks] at h; omega
   ·rw [h]; simp
  ·exact ((Fr.refl [] w).alloc _).trans HF2.out (fun k hk => .inr (by simp [blks] at hk; omega))
def msort (xs : List Int) : List Int := xs.mergeSort fun x y => !(ltOf ordF) y x
theorem ord_total (x y : Int) (h1 : ltOf ordF x y = false) (h2 : ltOf ordF y x = false) : x = y := by
 rw [key_lt] at *
 simp only [Bool.or_eq_false_iff, Bool.and_eq_false_iff, decide_eq_false_iff_not] at *
 omega
theorem sortWorld_row (w : World) (g n : Nat) (d : Array Int) (os : Array Obj) (cur : Array Value) (hg : w.heap[g]? = some (.cells cur 3 (0, 0))) : (sortWorld (Value.int .i64) w g 0 n d os).heap[g]? = some (.cells (putCells (Value.int .i64) 0 d cur) 3 (0, 0)) := by
 have hlt := (Array.getElem?_eq_some_iff.1 hg).1
 unfold sortWorld grow putRow mapBlock Sort.ahead
 simp only
 rw [Array.getElem?_append_left (by simpa using hlt), Array.getElem?_modify, if_pos rfl, hg]
 rfl
theorem sortWorld_fr (w : World) (g n : Nat) (d : Array Int) (os : Array Obj) : Fr [g] w (sortWorld (Value.int .i64) w g 0 n d os) := by
 unfold sortWorld grow putRow mapBlock Sort.ahead
 refine ⟨rfl, rfl, rfl, by simp, fun k hk hn => ?_⟩
 simp only
 rw [Array.getElem?_append_left (by simpa using hk), Array.getElem?_modify, if_neg (fun e => hn (by simp [e]))]
theorem enters_ord : ∀ args w, (callFunc 42 args).run Try.prog w = .ok (.enter 42 args) w := enters_of Try.func42 (by kernel_rfl) rfl
theorem sort_calls (w : World) (g c : Nat) (xs : List Int) (h : Ints w (some ⟨g, 0, none⟩) c xs) (hl : xs.length ≤ 17592186044416) :
  Calls Try.prog 41 #[.slice (some ⟨g, 0, none⟩) xs.length c, .func (.func 42) #[] #[]] w fun e w' => e = .returned (.tuple #[]) ∧ Ints w' (some ⟨g, 0, none⟩) c (msort xs) ∧ Fr [g] w w' := by
 have hlt : g < w.heap.size := (World.ownsRow.lt h g rfl).2
 have hH : Holds (Value.int .i64) w g 0 xs.toArray := fun j hj => by
  have hj' : j < xs.length := by simpa using hj
  rw [Nat.zero_add]
  refine ⟨?_, h.frozen j⟩
  rw [h.cell hj']
  simp [hj']
 have hcon := Any.slices_SortFunc_total sortL (Value.int .i64) (fun _ => rfl) ordF swoO 42 #[] g 0 c xs.toArray w enters_ord (cmpLays g 0 xs.toArray.size w) hH hlt (by simp; omega) ord_total
 change Calls Try.prog 41 _ _ _ at hcon
 have hsz : xs.toArray.size = xs.length := by simp
 rw [hsz] at hcon
 refine hcon.mono ?_
 rintro e w' ⟨rfl, n, os, rfl⟩
 have hm : (xs.toArray.toList.mergeSort fun x y => !(ltOf ordF) y x) = msort xs := rfl
 rw [hm]
 have hdl : (msort xs).length = xs.length := List.length_mergeSort _
 refine ⟨rfl, ?_, sortWorld_fr w g n _ os⟩
 rcases h.2 with ⟨h1, _⟩ | ⟨g', cap, cur, hv, hb, hg, hn, hm, hsc, ht⟩
 ·cases h1
 ·simp only [Value.slice.injEq, Option.some.injEq, Addr.mk.injEq, and_true, true_and] at hv
  obtain ⟨rfl, rfl⟩ := hv
  refine ⟨by simp, .inr ⟨g, c, _, rfl, hb, sortWorld_row w g n _ os cur hg, by rw [hdl]; exact hn, hm, by simp [putCells, hsc], ?_⟩⟩
  apply List.ext_getElem?
  intro k
  rw [Nat.mul_one, hdl]
  have hcs : cur.size = c := by omega
  by_cases hk : k < xs.length
  ·rw [List.getElem?_take, if_pos hk]
   have hkc : k < cur.size := by omega
   have hkd : k < (msort xs).length := by omega
   simp [putCells, hkc, hkd]
  ·rw [List.getElem?_take, if_neg hk, List.getElem?_eq_none (by rw [List.length_map, hdl]; omega)]
theorem sort_any (w : World) (A : Option Addr) (c : Nat) (xs : List Int) (h : Ints w A c xs) (hl : xs.length ≤ 17592186044416) :
  Calls Try.prog 41 #[.slice A xs.length c, .func (.func 42) #[] #[]] w fun e w' => e = .returned (.tuple #[]) ∧ Ints w' A c (msort xs) ∧ Fr (blks A) w w' := by
 rcases h.form with ⟨rfl, rfl, rfl⟩ | ⟨g, rfl, _⟩
 ·have hcon := AnyF.slices_SortFunc_none { sortL with } none 0 (.func (.func 42) #[] #[]) w
  change Calls Try.prog 41 _ _ _ at hcon
  refine hcon.mono ?_
  rintro e w' ⟨rfl, rfl⟩
  refine ⟨rfl, ?_, Fr.refl _ _⟩
  have : msort [] = [] := List.eq_nil_of_length_eq_zero (List.length_mergeSort _)
  rw [this]
  exact h
 ·exact (sort_calls w g c xs h hl).mono fun e w' ⟨he, h1, h2⟩ => ⟨he, h1, by simpa [blks] using h2⟩
theorem ddpN_len (xs : List Int) : ∀ k, (ddpN xs k).length ≤ k
 | 0 => by simp [ddpN]
 | k + 1 => by
  have := ddpN_len xs k
  rw [ddpN]
  split
  ·simp; omega
  ·omega
def nrm (xs : List Int) : List Int := ddp (msort (xs.filter fun x => !(x == 0)))
theorem nrm_len (xs : List Int) : (nrm xs).length ≤ xs.length := by
 have h1 : (nrm xs).length ≤ (msort (xs.filter fun x => !(x == 0))).length := ddpN_len _ _
 have h2 : (msort (xs.filter fun x => !(x == 0))).length = (xs.filter fun x => !(x == 0)).length := List.length_mergeSort _
 have h3 := List.length_filter_le (fun x => !(x == 0)) xs
 omega
theorem ddpN_mem (xs : List Int) : ∀ k, k ≤ xs.length → ∀ x ∈ ddpN xs k, x ∈ xs
 | 0, _, x, h => by simp [ddpN] at h
 | k + 1, hk, x, h => by
  rw [ddpN] at h
  split at h
  ·rcases List.mem_append.1 h with h | h
   ·exact ddpN_mem xs k (by omega) x h
   ·rw [List.mem_singleton.1 h]
    exact mem_get (l := xs) (k := k) (by omega)
  ·exact ddpN_mem xs k (by omega) x h
theorem nrm_mem {xs : List Int} {x : Int} (h : x ∈ nrm xs) : x ∈ xs ∧ x ≠ 0 := by
 have h1 := ddpN_mem _ _ (Nat.le_refl _) x h
 have h2 : x ∈ xs.filter fun x => !(x == 0) := List.mem_mergeSort.1 h1
 rw [List.mem_filter] at h2
 exact ⟨h2.1, by simpa using h2.2⟩
def tautAt (ys : List Int) (j : Nat) : Bool := ys[j]! == wrap64 (-(ys[j + 1]!))
def tautB (ys : List Int) : Bool := (List.range (ys.length - 1)).any (tautAt ys)
def NmP (xs : List Int) (w : World) (e : Ending) (w' : World) : Prop := ∃ (A : Option Addr) (c : Nat), e = .returned (.tuple #[.slice A (nrm xs).length c, .bool (tautB (nrm xs))]) ∧ Ints w' A c (nrm xs) ∧ (∀ k, k ∈ blks A → w.heap.size ≤ k) ∧ Fr [] w w'
theorem norm1_calls (W : World) (x : Int) : Calls Try.prog 40 #[.int .i64 x] W fun e w' => e = .returned (.bool (x == 0)) ∧ Fr [] W w' := by
 go_enter Try.func40, Try.ntmps40
 go_wp2_with fail
 go_ret
 exact ⟨rfl, Fr.refl _ _⟩
theorem enters_norm1 : ∀ args w, (callFunc 40 args).run Try.prog w = .ok (.enter 40 args) w := enters_of Try.func40 (by kernel_rfl) rfl
theorem norm_calls (w : World) (A : Option Addr) (c : Nat) (xs : List Int) (h : Rd w A xs) (hr : Ra xs) (hl : xs.length ≤ 1048576) (hn : A = none → c = 0) :
  Calls Try.prog 23 #[.slice A xs.length c] w (NmP xs w) := by
 have HCL := Lib.hid (clone_rd w A c xs h hn (by omega))
 have HR := Lib.hid hr
 clear h hr hn
 go_enter Try.func23, Try.ntmps23
 go_wp2_with fail
 refine HCL.out.mono ?_
 rintro e w1 ⟨A1, c1, rfl, ho, hb, hf1⟩
 have HD1 := Lib.hid (delete_any w1 A1 c1 xs 40 #[] (fun x => x == 0) enters_norm1 ho HR.out (by omega) (fun W hW x _ _ => norm1_calls W x))
 have HB := Lib.hid hb
 have HF1 := Lib.hid hf1
 clear ho hb hf1 HCL
 go_wp2_with fail
 refine HD1.out.mono ?_
 rintro e w2 ⟨rfl, ho, hf⟩
 have hfl := List.length_filter_le (fun x : Int => !(x == 0)) xs
 have HS := Lib.hid (sort_any w2 A1 c1 (xs.filter fun x => !(x == 0)) ho (by omega))
 have HF2 : Hid (Fr [] w w2) := HF1.out.trans hf (fun x hx => .inr (HB.out x hx))
 have hml : (msort (xs.filter fun x => !(x == 0))).length = (xs.filter fun x => !(x == 0)).length := List.length_mergeSort _
 have HML := Lib.hid hml
 clear HD1 HF1 hf ho hml
 go_wp2_with fail
 refine HS.out.mono ?_
 rintro e w3 ⟨rfl, ho, hf⟩
 have hra3 : Ra (msort (xs.filter fun x => !(x == 0))) := Ra.sub HR.out (fun y hy => (List.mem_filter.1 (List.mem_mergeSort.1 hy)).1)
 have HC := Lib.hid (compact_any w3 A1 c1 (msort (xs.filter fun x => !(x == 0))) ho hra3 (by rw [HML.out]; omega))
 rw [HML.out] at HC
 have HF3 : Hid (Fr [] w w3) := HF2.out.trans hf (fun x hx => .inr (HB.out x hx))
 clear HS HF2 hf ho hra3 hfl
 go_wp2_with fail
 refine HC.out.mono ?_
 rintro e w4 ⟨rfl, ho, hf⟩
 have HF4 : Hid (Fr [] w w4) := HF3.out.trans hf (fun x hx => .inr (HB.out x hx))
 obtain ⟨ys, hys⟩ : ∃ ys, ddp (msort (xs.filter fun x => !(x == 0))) = ys := ⟨_, rfl⟩
 have hyn : nrm xs = ys := hys
 have hyl : ys.length ≤ xs.length := by rw [← hyn]; exact nrm_len xs
 have HRY : Hid (Ra ys) := Ra.sub HR.out (fun y hy => (nrm_mem (by rw [hyn]; exact hy)).1)
 rw [hys] at ho ⊢
 have HO := Lib.hid ho
 have YES : Hid (∀ q W, Fr [] w4 W → tautB ys = q → NmP xs w (.returned (.tuple #[.slice A1 ys.length c1, .bool q])) W) := fun q W hW hq => by
  unfold NmP
  rw [hyn]
  exact ⟨A1, c1, by rw [hq], HO.out.keep' hW, HB.out, HF4.out.then_ hW⟩
 clear HC HF3 hf ho hys hyn
 go_wp2_with fail
 go_loopg [16] ys.length (fun g i wr => ∃ k : Nat, k + g = ys.length ∧ i = .int .i64 k ∧ Hid (∀ j : Nat, j + 1 < k → tautAt ys j = false) ∧ Fr [] w4 wr)
 case atStart => exact ⟨0, by omega, rfl, fun j hj => absurd hj (Nat.not_lt_zero _), Fr.refl _ _⟩
 case round =>
  obtain ⟨k, hk, rfl, HNO, hf⟩ := hrel
  have HK := Lib.hid hk
  have HF := Lib.hid hf
  have hkn : k ≤ ys.length := by omega
  clear hk hf
  by_cases hlt : k < ys.length
  ·obtain ⟨b, o, x, hA, he, cx, hx1, hx2⟩ := (HO.out.keep' HF.out).rd.one HRY.out hlt
   subst hA
   cases k with
   | zero =>
    rw [Nat.add_zero] at cx
    go_wp2_with fail
    go_roundg (gk - 1)
    case measure => have := HK.out; omega
    case rel => exact ⟨1, by have := HK.out; omega, by go_num, fun j hj => absurd hj (by omega), HF.out⟩
   | succ j =>
    obtain ⟨b', o', x', hA', he', cx', hx1', hx2'⟩ := (HO.out.keep' HF.out).rd.one HRY.out (j := j) (by omega)
    simp only [Option.some.injEq, Addr.mk.injEq, and_true] at hA'
    obtain ⟨rfl, rfl⟩ := hA'
    obtain ⟨q, hq⟩ : ∃ q : Bool, (x' == wrap64 (-x)) = q := ⟨(x' == wrap64 (-x)), rfl⟩
    have hta : tautAt ys j = q := by
     unfold tautAt
     rw [he.out, he'.out]
     exact hq
    have HTA := Lib.hid hta
    clear hta
    cases q with
    | true =>
     have YY := Lib.hid (YES.out true wr HF.out (by
      unfold tautB
      rw [List.any_eq_true]
      exact ⟨j, List.mem_range.2 (by omega), HTA.out⟩))
     go_wp2_with fail
     go_ret2
     exact YY.out
    | false =>
     have HNO2 : Hid (∀ i : Nat, i + 1 < j + 1 + 1 → tautAt ys i = false) := fun i hi => by
      by_cases e : i = j
      ·rw [e]; exact HTA.out
      ·exact HNO.out i (by omega)
     go_wp2_with fail
     go_roundg (gk - 1)
     case measure => have := HK.out; omega
     case rel => exact ⟨j + 1 + 1, by have := HK.out; omega, by go_num, HNO2.out, HF.out⟩
  ·have YY := Lib.hid (YES.out false wr HF.out (by
    unfold tautB
    rw [List.any_eq_false]
    intro j hj
    rw [List.mem_range] at hj
    rw [HNO.out j (by omega)]
    simp))
   clear HK
   go_wp2_with fail
   go_ret2
   exact YY.out
end Go.Proofs.Ytjchilcpflfcnaa
namespace Go.Proofs.Ytjchilcpflfcnaa
open Go.RowKit
namespace Sv
def addTo (S : Sv) (out : List Int) : Sv := if out.length = 0 then { S with bad := true } else if out.length = 1 then S.put out[0]! 0 else S.attach out false
def leftOf (S : Sv) (out : List Int) : List Int := out.filter fun x => !decide (S.val x < 0)
def skipB (S : Sv) (out : List Int) : Bool := tautB out || out.any fun x => decide (0 < S.val x)
def addF (S : Sv) (l : List Int) : Sv × Int :=
 if chkF S.vars l = 0 then (if S.skipB (nrm l) = true then S.fresh0 else S.fresh0.addTo (S.leftOf (nrm l)), 0) else (S, chkF S.vars l)
theorem chk_rng {vars : Nat} {l : List Int} (hr : Ra l) (h : chkF vars l = 0) : l.length ≤ 1024 ∧ ∀ x ∈ l, x ≠ 0 ∧ -(vars : Int) ≤ x ∧ x ≤ vars := by
 unfold chkF at h
 split at h
 ·omega
 ·split at h
  ·omega
  ·rename_i h1 h2
   refine ⟨by omega, fun x hx => ?_⟩
   have h3 : offB vars x = false := by
    rw [List.any_eq_true] at h2
    cases h4 : offB vars x with
    | false => rfl
    | true => exact absurd ⟨x, hx, h4⟩ h2
   unfold offB at h3
   simp only [Bool.or_eq_false_iff, decide_eq_false_iff_not] at h3
   have h5 := tv_rng ((mem_idx (p := R64)).1 hr x hx)
   refine ⟨tv_pos (by omega), by omega, by omega⟩
theorem Ok.addTo {S : Sv} (ok : S.Ok 0) {out : List Int} (h1 : out.length ≤ 1048576) (hl : ∀ x ∈ out, x ≠ 0 ∧ -(S.vars : Int) ≤ x ∧ x ≤ S.vars) (hr : S.list.length < 1099511627776) : (S.addTo out).Ok 0 ∧ (S.addTo out).vars = S.vars := by
 unfold Sv.addTo
 split
 ·exact ⟨ok.setbad true, rfl⟩
 ·split
  ·exact ⟨ok.put ⟨by omega, by omega⟩, rfl⟩
  ·exact ⟨ok.attach ⟨by omega, h1, hl⟩ false hr, (attach_same _ out false).2.1⟩
theorem left_rng {S : Sv} {l : List Int} (hr : Ra l) (h : chkF S.vars l = 0) : (S.leftOf (nrm l)).length ≤ 1024 ∧ ∀ x ∈ S.leftOf (nrm l), x ≠ 0 ∧ -(S.vars : Int) ≤ x ∧ x ≤ S.vars := by
 obtain ⟨h1, h2⟩ := chk_rng hr h
 have h3 := nrm_len l
 have h4 := List.length_filter_le (fun x => !decide (S.val x < 0)) (nrm l)
 refine ⟨by unfold leftOf; omega, fun x hx => ?_⟩
 unfold leftOf at hx
 exact h2 x (nrm_mem (List.mem_filter.1 hx).1).1
theorem Ok.addF {S : Sv} (ok : S.Ok 0) {l : List Int} (hra : Ra l) (hr : S.list.length < 1099511627776) : (S.addF l).1.Ok 0 ∧ (S.addF l).1.vars = S.vars := by
 unfold Sv.addF
 split
 ·rename_i h
  split
  ·exact ⟨ok.fresh0, rfl⟩
  ·obtain ⟨h1, h2⟩ := left_rng (S := S) hra h
   exact Ok.addTo (S := S.fresh0) ok.fresh0 (by omega) h2 hr
 ·exact ⟨ok, rfl⟩
end Sv
theorem add1_calls (W : World) (b : Nat) (L : SvL) (S : Sv) (h : SvAt W L S) (ok : S.Ok 0) (hb : W.cell? ⟨b, 0, none⟩ = some (.pointer (some ⟨L.a, 0, none⟩))) (x : Int) (hx : R64 x) :
  Calls Try.prog 24 #[.int .i64 x, .pointer (some ⟨b, 0, none⟩)] W fun e w' => e = .returned (.bool (decide (0 < S.val x))) ∧ Fr [] W w' := by
 have c0 := h.cells.1
 have KV := Lib.hid (trail_value W L.tL S.T h.tr x hx.1 hx.2 ok.small)
 obtain ⟨v, hv⟩ : ∃ v, S.T.valF x = v := ⟨_, rfl⟩
 rw [hv] at KV
 have e : decide (0 < S.val x) = decide (0 < v) := by unfold Sv.val; rw [hv]
 rw [e]
 clear h ok hv e
 go_enter Try.func24, Try.ntmps24
 go_wp2_with fail
 refine KV.out.mono ?_
 rintro e w1 ⟨rfl, rfl⟩
 go_wp2_with fail
 go_ret
 exact ⟨rfl, Fr.refl _ _⟩
theorem add2_calls (W : World) (b : Nat) (L : SvL) (S : Sv) (h : SvAt W L S) (ok : S.Ok 0) (hb : W.cell? ⟨b, 0, none⟩ = some (.pointer (some ⟨L.a, 0, none⟩))) (x : Int) (hx : R64 x) :
  Calls Try.prog 27 #[.int .i64 x, .pointer (some ⟨b, 0, none⟩)] W fun e w' => e = .returned (.bool (decide (S.val x < 0))) ∧ Fr [] W w' := by
 have c0 := h.cells.1
 have KV := Lib.hid (trail_value W L.tL S.T h.tr x hx.1 hx.2 ok.small)
 obtain ⟨v, hv⟩ : ∃ v, S.T.valF x = v := ⟨_, rfl⟩
 rw [hv] at KV
 have e : decide (S.val x < 0) = decide (v < 0) := by unfold Sv.val; rw [hv]
 rw [e]
 clear h ok hv e
 go_enter Try.func27, Try.ntmps27
 go_wp2_with fail
 refine KV.out.mono ?_
 rintro e w1 ⟨rfl, rfl⟩
 go_wp2_with fail
 go_ret
 exact ⟨rfl, Fr.refl _ _⟩
theorem enters_add1 : ∀ args w, (callFunc 24 args).run Try.prog w = .ok (.enter 24 args) w := enters_of Try.func24 (by kernel_rfl) rfl
theorem enters_add2 : ∀ args w, (callFunc 27 args).run Try.prog w = .ok (.enter 27 args) w := enters_of Try.func27 (by kernel_rfl) rfl
theorem add_calls (w : World) (L : SvL) (S : Sv) (h : SvAt w L S) (ok : S.Ok 0) (A : Option Addr) (c : Nat) (l : List Int) (hrd : Rdx w L A l) (hra : Ra l) (hn : A = none → c = 0) (hr : S.list.length < 1099511627776) (hu : S.used ≤ 1099511627776) :
  Calls Try.prog 13 #[.pointer (some ⟨L.a, 0, none⟩), .slice A l.length c] w (SvP (.int .i64 (S.addF l).2) (S.addF l).1 L w) := by
 obtain ⟨RES, hRES⟩ : ∃ RES, S.addF l = RES := ⟨_, rfl⟩
 rw [hRES]
 have HRES := Lib.hid hRES
 obtain ⟨w1, hw1⟩ : ∃ w1, w.alloc (.cells #[.pointer (some ⟨L.a, 0, none⟩)] 36) = w1 := ⟨_, rfl⟩
 have HFB : Hid (Fr [] w w1) := by rw [← hw1]; exact box_fr' _ _
 have hcb : w1.cell? ⟨w.heap.size, 0, none⟩ = some (.pointer (some ⟨L.a, 0, none⟩)) := by rw [← hw1]; exact (At.new w _ _).cell 0
 have HCB := Lib.hid hcb
 obtain ⟨L1, hL1⟩ : ∃ L1, L.seal w = L1 := ⟨_, rfl⟩
 have H1 : Hid (SvAt w1 L1 S) := by rw [← hL1]; exact h.seal.keep HFB.out
 have HE1 : Hid (L.ext L1 w) := by rw [← hL1]; exact L.seal_ext w
 have HNEW : Hid (∀ k, w.heap.size ≤ k → (L1.lab k).1 ≠ L1.id) := fun k hk => by rw [← hL1]; exact SvL.seal_new hk
 have HF1 : Hid (Fr (L.own w) w w1) := HFB.out.mono (fun k hk => by cases hk)
 have HR1 : Hid (Rdx w1 L1 A l) := ⟨hrd.1.keep HFB.out, fun h0 => far_ext HE1.out (hrd.2 h0) (fun k hk => hrd.1.blk h0 k hk)⟩
 have HOK := Lib.hid ok
 have HRA := Lib.hid hra
 have HN := Lib.hid hn
 have HLR := Lib.hid hr
 have HU := Lib.hid hu
 have KM := Lib.hid (made_calls w1 L1 S H1.out)
 have KC := Lib.hid (check_calls w1 (S.vars : Int) A c l HR1.out.1 hra)
 have hea : L1.a = L.a := HE1.out.1
 rw [hea] at KM
 obtain ⟨-, -, c2, -⟩ := H1.out.cells
 rw [hea] at c2
 obtain ⟨ck, hck⟩ : ∃ ck, chkF (S.vars : Int) l = ck := ⟨_, rfl⟩
 rw [hck] at KC
 have HCK := Lib.hid hck
 clear h ok hrd hra hn hr hu hL1 hRES hck
 go_enter Try.func13, Try.ntmps13
 go_upto_region 1 with fail
 clear hw1
 go_wp2_with fail
 refine KM.out.mono ?_
 clear KM
 rintro e w2 ⟨rfl, rfl⟩
 go_wp2_with fail
 refine KC.out.mono ?_
 clear KC c2
 rintro e w2 ⟨rfl, hf2⟩
 have HF2 := Lib.hid hf2
 have H2 := Lib.hid (H1.out.keep hf2)
 have HR2 := Lib.hid (HR1.out.keep hf2)
 have hcb := hf2.cellS HCB.out
 have HCB2 := Lib.hid hcb
 have HFW2 : Hid (Fr (L.own w) w w2) := HF1.out.then_ (hf2.mono (fun k hk => by cases hk))
 clear hf2
 by_cases hk0 : ck = 0
 ·have hd : (ck == (0 : Int)) = true := by simp [hk0]
  have hck2 : chkF (S.vars : Int) l = 0 := by rw [HCK.out]; exact hk0
  have HRNG := Lib.hid (Sv.chk_rng HRA.out hck2)
  have HLF := Lib.hid (Sv.left_rng (S := S) HRA.out hck2)
  have HRS : Hid (RES = (if S.skipB (nrm l) = true then S.fresh0 else S.fresh0.addTo (S.leftOf (nrm l)), 0)) := by
   rw [← HRES.out]
   unfold Sv.addF
   rw [if_pos hck2]
   rfl
  have f14 := H2.out.obj.frozen 14
  have f7 := H2.out.obj.frozen 7
  obtain ⟨-, -, -, -, -, -, -, c7, -, -, -, -, -, -, c14⟩ := H2.out.cells
  rw [hea] at f14 f7 c7 c14
  obtain ⟨L3, h3, he3, hf3⟩ := H2.out.fresh0
  rw [hea] at h3 hf3
  have HH3 := Lib.hid h3
  have HEE3 := Lib.hid he3
  have HFF3 := Lib.hid hf3
  clear h3 he3 hf3 hck2
  go_wp2_with fail
  go_region
  obtain ⟨w3, hw3⟩ : ∃ w3, ((w2.setCell ⟨L.a, 14, none⟩ (.bool false)).setCell ⟨L.a, 7, none⟩ (.slice none 0 0)).drew = w3 := ⟨_, rfl⟩
  rw [hw3] at HH3 HFF3 ⊢
  have H3 := HH3
  have HE3 : Hid (L.ext L3 w) := SvL.ext_trans HE1.out HEE3.out HFW2.out.size
  have HF3 : Hid (Fr (L.own w) w w3) := SvL.own_then HE1.out HFW2.out HFF3.out
  have HR3 : Hid (Rdx w3 L3 A l) := HR2.out.step HEE3.out HFF3.out
  have HNB : Hid (w.heap.size ∉ L1.own w2) := SvL.not_own (HNEW.out _ (Nat.le_refl _))
  have hcb3 := HFF3.out.cellN HNB.out HCB2.out
  have HCB3 := Lib.hid hcb3
  have HNEW3 : Hid (∀ k, w.heap.size ≤ k → k < w2.heap.size → (L3.lab k).1 ≠ L3.id) := fun k hk hk2 e => HNEW.out k hk (HEE3.out.2.2 k hk2 (e.trans HEE3.out.2.1))
  have HO3 := Lib.hid HOK.out.fresh0
  have hsz2 : w.heap.size < w2.heap.size := lt_of_cell HCB2.out
  have HSZ2 := Lib.hid hsz2
  -- from here on what is new is nobody's
  obtain ⟨L4, hL4⟩ : ∃ L4, L3.seal w3 = L4 := ⟨_, rfl⟩
  have H4 : Hid (SvAt w3 L4 S.fresh0) := by rw [← hL4]; exact H3.out.seal
  have HE4 : Hid (L.ext L4 w) := by rw [← hL4]; exact SvL.ext_trans HE3.out (L3.seal_ext w3) HF3.out.size
  have HNEW4 : Hid (∀ k, w3.heap.size ≤ k → (L4.lab k).1 ≠ L4.id) := fun k hk => by rw [← hL4]; exact SvL.seal_new hk
  have HNB4 : Hid ((L4.lab w.heap.size).1 ≠ L4.id) := by
   show _ ≠ _
   rw [← hL4, SvL.seal_old (lt_of_cell HCB3.out)]
   exact HNEW3.out _ (Nat.le_refl _) HSZ2.out
  have KN := Lib.hid (norm_calls w3 A c l HR3.out.1 HRA.out (by have := HRNG.out.1; omega) HN.out)
  have hl4 : L4.a = L.a := HE4.out.1
  clear hw3 hcb c7 c14 f7 f14 HH3 HFF3 hL4 hsz2 H2 HR2 HCB2 HFW2 HNB hcb3
  go_wp2_with fail
  refine KN.out.mono ?_
  clear KN
  rintro e w4 ⟨A4, c4, rfl, hi4, hA4, hf4⟩
  obtain ⟨out, hout⟩ : ∃ out, nrm l = out := ⟨_, rfl⟩
  rw [hout] at hi4
  rw [hout]
  have HOUT := Lib.hid hout
  have HRO : Hid (Ra out) := Ra.sub HRA.out (fun y hy => (nrm_mem (by rw [HOUT.out]; exact hy)).1)
  have HOL : Hid (out.length ≤ 1024) := by
   have h5 := nrm_len l
   rw [HOUT.out] at h5
   have := HRNG.out.1
   show _ ≤ _
   omega
  have HI4 := Lib.hid hi4
  have HA4 := Lib.hid hA4
  have HF4 := Lib.hid hf4
  have H5 := Lib.hid (H4.out.keep hf4)
  have HCB4 := Lib.hid (hf4.cellS HCB3.out)
  have HFW4 : Hid (Fr (L.own w) w w4) := HF3.out.then_ (hf4.mono (fun k hk => by cases hk))
  obtain ⟨tb, htb⟩ : ∃ tb, tautB out = tb := ⟨_, rfl⟩
  rw [htb]
  have HTB := Lib.hid htb
  have hrs := HRS.out
  unfold Sv.skipB at hrs
  rw [HOUT.out, htb] at hrs
  have KCO := Lib.hid (contains_ints w4 A4 c4 out 24 #[.pointer (some ⟨w.heap.size, 0, none⟩)] (fun x => decide (0 < S.val x)) enters_add1 hi4.rd HRO.out (by have := HOL.out; omega) (fun W hW x _ hx => add1_calls W w.heap.size L4 S.fresh0 (H5.out.keep hW) HO3.out (by rw [hl4]; exact hW.cellS HCB4.out) x hx))
  clear hi4 hA4 hf4 hout htb
  cases tb with
  | true =>
   rw [Bool.true_or, if_pos rfl] at hrs
   have FF : Hid (SvP (.int .i64 RES.2) RES.1 L w (.returned (.int .i64 0)) w4) := by rw [hrs]; exact ⟨rfl, L4, H5.out, HE4.out, HFW4.out⟩
   clear hrs KCO
   go_wp2_with fail
   go_ret
   exact FF.out
  | false =>
   rw [Bool.false_or] at hrs
   obtain ⟨p, hp⟩ : ∃ p, (out.any fun x => decide (0 < S.val x)) = p := ⟨_, rfl⟩
   rw [hp] at KCO hrs
   have HRP := Lib.hid hrs
   clear hp hrs
   go_wp2_with fail
   refine KCO.out.mono ?_
   clear KCO
   rintro e w5 ⟨rfl, hf5⟩
   have H6 := Lib.hid (H5.out.keep hf5)
   have HI6 := Lib.hid (HI4.out.keep' hf5)
   have HCB6 := Lib.hid (hf5.cellS HCB4.out)
   have HFW6 : Hid (Fr (L.own w) w w5) := HFW4.out.then_ (hf5.mono (fun k hk => by cases hk))
   have HSZ6 : Hid (w3.heap.size ≤ w5.heap.size) := Nat.le_trans HF4.out.size hf5.size
   clear hf5
   cases p with
   | true =>
    have hrs := HRP.out
    rw [if_pos rfl] at hrs
    have FF : Hid (SvP (.int .i64 RES.2) RES.1 L w (.returned (.int .i64 0)) w5) := by rw [hrs]; exact ⟨rfl, L4, H6.out, HE4.out, HFW6.out⟩
    clear hrs
    go_wp2_with fail
    go_ret
    exact FF.out
   | false =>
    have hrs := HRP.out
    rw [if_neg (by simp)] at hrs
    have HRP2 := Lib.hid hrs
    clear hrs HRP
    have HBA : Hid (w.heap.size ∉ blks A4) := fun hm => by
     have h5 := HA4.out _ hm
     have h6 : w.heap.size < w3.heap.size := lt_of_cell HCB3.out
     omega
    have HFAR4 : Hid (∀ k, k ∈ blks A4 → (L4.lab k).1 ≠ L4.id) := fun k hk => HNEW4.out k (HA4.out k hk)
    have KDE := Lib.hid (delete_any w5 A4 c4 out 27 #[.pointer (some ⟨w.heap.size, 0, none⟩)] (fun x => decide (S.val x < 0)) enters_add2 HI6.out HRO.out (by have := HOL.out; omega) (fun W hW x _ hx => add2_calls W w.heap.size L4 S.fresh0 (H6.out.fr hW (fun k hk _ => HFAR4.out k hk)) HO3.out (by rw [hl4]; exact hW.cellN HBA.out HCB6.out) x hx))
    go_wp2_with fail
    refine KDE.out.mono ?_
    clear KDE
    rintro e w6 ⟨rfl, hi6, hf6⟩
    have hlf : S.leftOf out = out.filter fun x => !decide (S.val x < 0) := rfl
    rw [← hlf] at hi6
    rw [← hlf]
    obtain ⟨ys, hys⟩ : ∃ ys, S.leftOf out = ys := ⟨_, rfl⟩
    have HLY : Hid (ys.length ≤ 1024 ∧ ∀ x ∈ ys, x ≠ 0 ∧ -(S.vars : Int) ≤ x ∧ x ≤ S.vars) := by
     have h5 := HLF.out
     rw [HOUT.out, hys] at h5
     exact h5
    have hrs := HRP2.out
    rw [hys] at hi6 hrs ⊢
    have H7 := Lib.hid (H6.out.fr hf6 (fun k hk _ => HFAR4.out k hk))
    have HI7 := Lib.hid hi6
    have HCB7 := Lib.hid (hf6.cellN HBA.out HCB6.out)
    have HSA : Hid (∀ k, k ∈ blks A4 → w.heap.size ≤ k) := fun k hk => Nat.le_trans HF3.out.size (HA4.out k hk)
    have HFW7 : Hid (Fr (L.own w) w w6) := HFW6.out.trans hf6 (fun k hk => .inr (HSA.out k hk))
    have HRS := Lib.hid hrs
    have hcb := HCB7.out
    clear hf6 hi6 hys hlf hrs
    by_cases hy0 : ys.length = 0
    ·have hd0 : ((ys.length : Int) == (0 : Int)) = true := by simp [hy0]
     have hrs := HRS.out
     unfold Sv.addTo at hrs
     rw [if_pos hy0] at hrs
     have f13 := H7.out.obj.frozen 13
     have c13 := H7.out.cells.2.2.2.2.2.2.2.2.2.2.2.2.2.1
     rw [hl4] at f13 c13
     obtain ⟨g8, f8⟩ := H7.out.setc 13 (.bool true) { S.fresh0 with bad := true } (by simp [scs]) ⟨rfl, rfl, rfl, rfl, rfl, rfl, rfl⟩
     rw [hl4] at g8 f8
     have FF : Hid (SvP (.int .i64 RES.2) RES.1 L w (.returned (.int .i64 0)) (w6.setCell ⟨L.a, 13, none⟩ (.bool true))) := by rw [hrs]; exact ⟨rfl, L4, g8, HE4.out, SvL.own_then HE4.out HFW7.out f8⟩
     clear hrs g8 f8
     go_wp2_with fail
     go_ret
     exact FF.out
    ·have hd0 : ((ys.length : Int) == (0 : Int)) = false := by rw [beq_eq_false_iff_ne]; omega
     by_cases hy1 : ys.length = 1
     ·have hd1 : ((ys.length : Int) == (1 : Int)) = true := by simp [hy1]
      have hrs := HRS.out
      unfold Sv.addTo at hrs
      rw [if_neg hy0, if_pos hy1] at hrs
      obtain ⟨ga, hga, hgl⟩ := HI7.out.pos (i := 0) (by omega)
      subst hga
      have s1 := HI7.out.cell (i := 0) (by omega)
      have s0 := H7.out.cells.1
      rw [hl4] at s0
      obtain ⟨y, hy⟩ : ∃ y, ys[0]! = y := ⟨_, rfl⟩
      rw [hy] at s1 hrs
      have hyb := HLY.out.2 y (by rw [← hy]; exact get_mem (l := ys) (i := 0) (by omega))
      obtain ⟨-, hyb1, hyb2⟩ := hyb
      have HC0 := Lib.hid s0
      have HC1 := Lib.hid s1
      have KP := Lib.hid (fun W (hW : Fr [] w6 W) => put_calls W L4 S.fresh0 (H7.out.keep hW) 0 HO3.out y 0 hyb1 hyb2)
      have hly : 0 < ys.length := by omega
      have HRS2 := Lib.hid hrs
      clear hrs hy s0 s1
      go_wp2_with fail
      go_upto_region 16 with fail
      refine wp_region_noPanic ?_
      refine wp_region_C (fun w' : World => Fr [] w6 w') 7 (by kernel_rfl) ((Fr.refl [] w6).drew) (fun hT0 => ?_)
      refine T1 (i := 0) (oi := ?or16u1) (v := ?vr16u1) [0, 1, 2, 3, 7] (by rfl) (by kernel_rfl) (by rfl) ?yr16u1 (hT0.resolve_left (by decide)) ?_
      case yr16u1 => (intro w hSw; (have sb := hSw.cellS HCB7.out; have s0 := hSw.cellS HC0.out; have s1 := hSw.cellS HC1.out); go_simp <;> with_reducible rfl)
      try simp only [Act.put, q5, q6, q7]
      refine T0 (i := 1) (oi := ?or16u2) (v := ?vr16u2) (by rfl) (by kernel_rfl) (by rfl) ?yr16u2 (hT0.more 0) ?_
      case yr16u2 => (intro w; go_simp <;> with_reducible rfl)
      try simp only [Act.put, q5, q6, q7]
      refine T0 (i := 2) (oi := ?or16u3) (v := ?vr16u3) (by rfl) (by kernel_rfl) (by rfl) ?yr16u3 ((hT0.more 0).more 1) ?_
      case yr16u3 => (intro w; go_simp <;> with_reducible rfl)
      try simp only [Act.put, q5, q6, q7]
      refine T1 (i := 3) (oi := ?or16u4) (v := ?vr16u4) [3, 7] (by rfl) (by kernel_rfl) (by rfl) ?yr16u4 ((((hT0.more 0).more 1).more 2).resolve_left (by decide)) ?_
      case yr16u4 => (intro w hSw; (have sb := hSw.cellS HCB7.out; have s0 := hSw.cellS HC0.out; have s1 := hSw.cellS HC1.out); go_simp <;> with_reducible rfl)
      try simp only [Act.put, q5, q6, q7]
      refine T0 (i := 4) (oi := ?or16u5) (v := ?vr16u5) (by rfl) (by kernel_rfl) (by rfl) ?yr16u5 ((((hT0.more 0).more 1).more 2).more 3) ?_
      case yr16u5 => (intro w; go_simp <;> with_reducible rfl)
      try simp only [Act.put, q5, q6, q7]
      refine T0 (i := 5) (oi := ?or16u6) (v := ?vr16u6) (by rfl) (by kernel_rfl) (by rfl) ?yr16u6 (((((hT0.more 0).more 1).more 2).more 3).more 4) ?_
      case yr16u6 => (intro w; go_simp <;> with_reducible rfl)
      try simp only [Act.put, q5, q6, q7]
      refine T1 (i := 6) (oi := ?or16u7) (v := ?vr16u7) [6, 7] (by rfl) (by kernel_rfl) (by rfl) ?yr16u7 (((((((hT0.more 0).more 1).more 2).more 3).more 4).more 5).resolve_left (by decide)) ?_
      case yr16u7 => (intro w hSw; (have sb := hSw.cellS HCB7.out; have s0 := hSw.cellS HC0.out; have s1 := hSw.cellS HC1.out); go_simp <;> with_reducible rfl)
      try simp only [Act.put, q5, q6, q7]
      have hSx := (((((((hT0.more 0).more 1).more 2).more 3).more 4).more 5).more 6).resolve_left (by decide)
      refine wpAnyC_ready (rs := [7]) (by kernel_rfl) (by simp) ?_
      refine ReadyC.cons (o := ?or16u8) ?hor16u8 ?hstepr16u8 ?_
      case hor16u8 => rfl
      case hstepr16u8 =>
       intro K hK
       (go_simp; refine (KP.out _ hSx).mono ?_; rintro e w8 ⟨⟨x8, rfl⟩, L8, h8, he8, hf8⟩; dsimp only)
       refine hK.out _ _ (.inl rfl) (fun hHeld => ?_)
       have hT8 := hHeld
       clear hHeld
       clear hK K
       try simp only [Act.put, q5, q6, q7]
       refine wpAnyC_done (by kernel_rfl) ?_ _
       refine NoPanic.normal ?_
       clear KP
       have FF : Hid (SvP (.int .i64 RES.2) RES.1 L w (.returned (.int .i64 0)) w8) := by rw [HRS2.out]; exact ⟨rfl, L8, h8, SvL.ext_trans HE4.out he8 (Nat.le_trans HFW7.out.size hSx.size), SvL.own_then HE4.out (HFW7.out.then_ (hSx.mono (fun k hk => by cases hk))) hf8⟩
       clear h8 he8 hf8
       go_wp2_with fail
       go_ret
       exact FF.out
      exact ReadyC.nil
     ·have hd1 : ((ys.length : Int) == (1 : Int)) = false := by rw [beq_eq_false_iff_ne]; omega
      have hrs := HRS.out
      unfold Sv.addTo at hrs
      rw [if_neg hy0, if_neg hy1] at hrs
      have HRS3 := Lib.hid hrs
      clear hrs
      have HFIT : Hid (S.fresh0.Fits ys) := ⟨by omega, by have := HLY.out.1; omega, HLY.out.2⟩
      have KAT := Lib.hid (attach_calls w6 L4 S.fresh0 H7.out 0 HO3.out A4 c4 ys false HI7.out HFIT.out HFAR4.out HLR.out HU.out)
      rw [hl4] at KAT
      clear hy0 hy1
      go_wp2_with fail
      refine KAT.out.mono ?_
      clear KAT
      rintro e w8 ⟨rfl, L8, h8, ha8, hi8, hk8, hf8, -, -⟩
      have FF : Hid (SvP (.int .i64 RES.2) RES.1 L w (.returned (.int .i64 0)) w8) := by rw [HRS3.out]; exact ⟨rfl, L8, h8, SvL.ext_in HE4.out ha8 hi8 hk8 HFW7.out.size HSA.out, SvL.own_in HE4.out HFW7.out hf8 HSA.out⟩
      clear h8 ha8 hi8 hk8 hf8
      go_wp2_with fail
      go_ret
      exact FF.out
 ·have hd : (ck == (0 : Int)) = false := by simp [hk0]
  have HRS : Hid (RES = (S, ck)) := by
   rw [← HRES.out]
   unfold Sv.addF
   rw [HCK.out, if_neg hk0]
   rfl
  have FF : Hid (SvP (.int .i64 RES.2) RES.1 L w (.returned (.int .i64 ck)) w2) := by rw [HRS.out]; exact ⟨rfl, L1, H2.out, HE1.out, HFW2.out⟩
  go_wp2_with fail
  go_ret
  exact FF.out
namespace Sv
def growP (S : Sv) (n : Int) : Sv × Int × Int := if n < 0 ∨ 262143 - (S.vars : Int) < n then (S, 0, 4) else (S.fresh0.grow n.toNat, S.vars, 0)
def valB (S : Sv) (v : Int) : Bool := S.has && decide (1 ≤ v) && decide (v ≤ S.vars) && S.model[v.toNat]!
end Sv
theorem growP_calls (w : World) (L : SvL) (S : Sv) (h : SvAt w L S) (ok : S.Ok 0) (n : Int) :
  Calls Try.prog 11 #[.pointer (some ⟨L.a, 0, none⟩), .int .i64 n] w (SvP (.tuple #[.int .i64 (S.growP n).2.1, .int .i64 (S.growP n).2.2]) (S.growP n).1 L w) := by
 have hvl := ok.vl
 have KM := Lib.hid (made_calls w L S h)
 have HH := Lib.hid h
 have HOK := Lib.hid ok
 obtain ⟨-, -, c2, -⟩ := h.cells
 have hw : IntKind.i64.wrap (262143 - (S.vars : Int)) = 262143 - (S.vars : Int) := IntWalk.i64_in _ (by omega)
 clear h ok
 by_cases h0 : n < 0
 ·have hd : decide (n < 0) = true := decide_eq_true h0
  have HR : Hid (S.growP n = (S, 0, 4)) := if_pos (.inl h0)
  rw [HR.out]
  have FF : Hid (SvP (.tuple #[.int .i64 0, .int .i64 4]) S L w (.returned (.tuple #[.int .i64 0, .int .i64 4])) w) := ⟨rfl, L, HH.out, SvL.ext_refl _ _, Fr.refl _ _⟩
  go_enter Try.func11, Try.ntmps11
  go_wp2_with fail
  refine KM.out.mono ?_
  rintro e w1 ⟨rfl, rfl⟩
  go_wp2_with fail
  go_ret2
  exact FF.out
 ·by_cases h1 : 262143 - (S.vars : Int) < n
  ·have hd : decide (n < 0) = false := decide_eq_false h0
   have HR : Hid (S.growP n = (S, 0, 4)) := if_pos (.inr h1)
   rw [HR.out]
   have FF : Hid (SvP (.tuple #[.int .i64 0, .int .i64 4]) S L w (.returned (.tuple #[.int .i64 0, .int .i64 4])) w) := ⟨rfl, L, HH.out, SvL.ext_refl _ _, Fr.refl _ _⟩
   go_enter Try.func11, Try.ntmps11
   go_wp2_with fail
   refine KM.out.mono ?_
   rintro e w1 ⟨rfl, rfl⟩
   go_wp2_with fail
   go_ret2
   exact FF.out
  ·have HR : Hid (S.growP n = (S.fresh0.grow n.toNat, (S.vars : Int), 0)) := if_neg (by omega)
   rw [HR.out]
   obtain ⟨k, rfl⟩ : ∃ k : Nat, n = k := ⟨n.toNat, by omega⟩
   rw [Int.toNat_natCast]
   have hd : decide ((k : Int) < 0) = false := decide_eq_false h0
   have hk : (k : Int) ≤ 262143 - (S.vars : Int) := by omega
   obtain ⟨g1, f1⟩ := HH.out.setc 14 (.bool false) { S with has := false } (by simp [scs]) ⟨rfl, rfl, rfl, rfl, rfl, rfl, rfl⟩
   obtain ⟨L2, h2, he2, hf2, -⟩ := g1.setcore (F := []) (Ints.nil _) (Fr.refl _ _) (fun k hk => by cases hk) (fun k hk => by simp [blks] at hk)
   simp only [List.length_nil] at h2 hf2
   have f14 := HH.out.obj.frozen 14
   have f7 := HH.out.obj.frozen 7
   obtain ⟨-, -, -, -, -, -, -, c7, -, -, -, -, -, -, c14⟩ := HH.out.cells
   have hz : w.heap.size ≤ (w.setCell ⟨L.a, 14, none⟩ (.bool false)).heap.size := f1.size
   have HE2 : Hid (L.ext L2 w) := ⟨he2.1, he2.2.1, fun k hk e => he2.2.2 k (Nat.lt_of_lt_of_le hk hz) e⟩
   have HF2 := Lib.hid (SvL.own_then (SvL.ext_refl L w) f1 hf2)
   have H2 : Hid (SvAt ((w.setCell ⟨L.a, 14, none⟩ (.bool false)).setCell ⟨L.a, 7, none⟩ (.slice none 0 0)) L2 S.fresh0) := h2
   clear g1 f1 h2 he2 hf2 hz h0 h1
   go_enter Try.func11, Try.ntmps11
   go_wp2_with fail
   refine KM.out.mono ?_
   rintro e w1 ⟨rfl, rfl⟩
   go_upto_region 7 with fail
   obtain ⟨w2, hw2⟩ : ∃ w2, (w.setCell ⟨L.a, 14, none⟩ (.bool false)).setCell ⟨L.a, 7, none⟩ (.slice none 0 0) = w2 := ⟨_, rfl⟩
   rw [hw2] at H2 HF2 ⊢
   have KG := Lib.hid (grow_calls w2 L2 S.fresh0 H2.out HOK.out.fresh0 k (by show S.vars + k ≤ _; omega))
   rw [HE2.out.1] at KG
   clear hw2 c2 c7 c14 f7 f14
   go_wp2_with fail
   refine KG.out.mono ?_
   clear KG
   rintro e w3 ⟨rfl, L3, h3, he3, hf3⟩
   have FF : Hid (SvP (.tuple #[.int .i64 (S.vars : Int), .int .i64 0]) (S.fresh0.grow k) L w (.returned (.tuple #[.int .i64 (S.vars : Int), .int .i64 0])) w3) := ⟨rfl, L3, h3, SvL.ext_trans HE2.out he3 HF2.out.size, SvL.own_then HE2.out HF2.out hf3⟩
   clear h3 he3 hf3
   go_wp2_with fail
   go_ret2
   exact FF.out
end Go.Proofs.Ytjchilcpflfcnaa
namespace Go.Proofs.Ytjchilcpflfcnaa
open Go.RowKit Go.Sort
def insI (x : Int) : List Int → List Int
 | [] => [x]
 | y :: r => if ltOf ordF y x = true then y :: insI x r else x :: y :: r
def isI (xs : List Int) : List Int := xs.foldr insI []
theorem insI_perm (x : Int) : ∀ l, (insI x l).Perm (x :: l)
 | [] => List.Perm.refl _
 | y :: r => by
  rw [insI]
  split
  ·exact ((insI_perm x r).cons y).trans (List.Perm.swap x y r)
  ·exact List.Perm.refl _
theorem isI_perm : ∀ xs, (isI xs).Perm xs
 | [] => List.Perm.refl _
 | x :: r => (insI_perm x _).trans ((isI_perm r).cons x)
def leO (x y : Int) : Bool := !(ltOf ordF) y x
theorem leO_total (x y : Int) : (leO x y || leO y x) = true := by
 unfold leO
 rw [key_lt, key_lt]
 simp only [Bool.or_eq_true, Bool.not_eq_true', Bool.or_eq_false_iff, Bool.and_eq_false_iff, decide_eq_false_iff_not]
 omega
theorem leO_trans (x y z : Int) (h1 : leO x y = true) (h2 : leO y z = true) : leO x z = true := by
 unfold leO at *
 rw [key_lt] at *
 simp only [Bool.not_eq_true', Bool.or_eq_false_iff, Bool.and_eq_false_iff, decide_eq_false_iff_not] at *
 omega
theorem leO_anti (x y : Int) (h1 : leO x y = true) (h2 : leO y x = true) : x = y := by
 unfold leO at *
 simp only [Bool.not_eq_true'] at *
 exact ord_total x y h2 h1
theorem insI_sorted (x : Int) : ∀ l : List Int, l.Pairwise (fun a b => leO a b = true) → (insI x l).Pairwise (fun a b => leO a b = true)
 | [], _ => by simp [insI]
 | y :: r, h => by
  rw [insI]
  have hy := List.pairwise_cons.1 h
  split
  ·rename_i hl
   refine List.pairwise_cons.2 ⟨fun b hb => ?_, insI_sorted x r hy.2⟩
   rcases List.mem_cons.1 ((insI_perm x r).mem_iff.1 hb) with rfl | hb
   ·have := leO_total y b
    unfold leO at this ⊢
    rw [hl] at this
    simpa using this
   ·exact hy.1 b hb
  ·rename_i hl
   have hxy : leO x y = true := by unfold leO; simpa using hl
   refine List.pairwise_cons.2 ⟨fun b hb => ?_, h⟩
   rcases List.mem_cons.1 hb with rfl | hb
   ·exact hxy
   ·exact leO_trans x y b hxy (hy.1 b hb)
theorem isI_sorted : ∀ xs, (isI xs).Pairwise (fun a b => leO a b = true)
 | [] => List.Pairwise.nil
 | x :: r => insI_sorted x _ (isI_sorted r)
theorem sorted_eq : ∀ (a b : List Int), a.Perm b → a.Pairwise (fun a b => leO a b = true) → b.Pairwise (fun a b => leO a b = true) → a = b
 | [], b, h, _, _ => (List.nil_perm.1 h).symm ▸ rfl
 | x :: a, [], h, _, _ => absurd h.length_eq (by simp)
 | x :: a, y :: b, h, ha, hb => by
  have h1 := List.pairwise_cons.1 ha
  have h2 := List.pairwise_cons.1 hb
  have hxy : x = y := by
   rcases List.mem_cons.1 (h.mem_iff.1 (List.mem_cons_self)) with e | e
   ·exact e
   ·rcases List.mem_cons.1 (h.mem_iff.2 (List.mem_cons_self)) with e2 | e2
    ·exact e2.symm
    ·exact leO_anti x y (h1.1 y e2) (h2.1 x e)
  subst hxy
  rw [sorted_eq a b (h.cons_inv) h1.2 h2.2]
theorem msort_eq (xs : List Int) : msort xs = isI xs := by
 refine sorted_eq _ _ ((List.mergeSort_perm xs _).trans (isI_perm xs).symm) ?_ (isI_sorted xs)
 exact List.pairwise_mergeSort (le := fun x y => leO x y) (fun a b c => leO_trans a b c) (fun a b => leO_total a b) xs
def nrmI (xs : List Int) : List Int := ddp (isI (xs.filter fun x => !(x == 0)))
theorem nrm_eq (xs : List Int) : nrm xs = nrmI xs := by unfold nrm nrmI; rw [msort_eq]
namespace Sv
def addI (S : Sv) (l : List Int) : Sv × Int :=
 if chkF S.vars l = 0 then (if S.skipB (nrmI l) = true then S.fresh0 else S.fresh0.addTo (S.leftOf (nrmI l)), 0) else (S, chkF S.vars l)
theorem addI_eq (S : Sv) (l : List Int) : S.addF l = S.addI l := by unfold addF addI; rw [nrm_eq]
def smallB (S : Sv) : Bool := decide (S.list.length < 1099511627776) && decide (S.used < 1099511627776) && decide (S.bump ≤ 1073741824) && decide (-1152921504606846976 ≤ S.many) && decide (S.many ≤ 1152921504606846976) && decide (S.limit ≤ 1099511627776) && decide (S.T.levels.length ≤ 4398046511104) && S.core.isEmpty
theorem small_of {S : Sv} (h : S.smallB = true) : S.Small := by
 unfold smallB at h
 simp only [Bool.and_eq_true, decide_eq_true_eq, List.isEmpty_iff] at h
 obtain ⟨⟨⟨⟨⟨⟨⟨h1, h2⟩, h3⟩, h4⟩, h5⟩, h6⟩, h7⟩, h8⟩ := h
 exact ⟨h1, h2, h3, h4, h5, h6, h7, h8⟩
def afterN (budget : Int) (n : Nat) (K : Sv → Option (Sv × Int)) : Option (Sv × Bool) → Option (Sv × Int)
 | none => none
 | some (S2, false) => some (S2, 2)
 | some (S2, true) => if budget < (n + 1 : Nat) then some (S2, 0) else K S2
def roundN (budget : Int) (us : List Int) (K : Nat → Nat → Sv → Option (Sv × Int)) : Nat → Nat → Nat → Sv → Option (Sv × Int)
 | 0, _, _, _ => none
 | d + 1, next, n, S =>
  if S.smallB && decide (n < 1099511627776) && decide (next < 2199023255552) then
   match S.follow with
   | (SF, some c) => afterN budget n (K next (n + 1)) (SF.used1.conflict c)
   | (SF, none) =>
    let SR := SF.rested n next
    if (SR.limit : Int) < SR.many then none
    else
     let q := SR.decide_ us
     if q.2 = 0 then roundN budget us K d (if next ≤ n then n + 64 else next) n q.1 else some q
  else none
def searchN (budget : Int) (us : List Int) (D : Nat) : Nat → Nat → Nat → Sv → Option (Sv × Int)
 | 0, _, _, _ => none
 | c + 1, next, n, S => roundN budget us (searchN budget us D c) D next n S
def solveN (budget : Int) (us : List Int) (D C : Nat) (S : Sv) : Option (Sv × Int) :=
 if (decide (budget < 1) || us.any (offB S.vars)) = true then some (S.fresh0, 0)
 else if S.bad = true then some (S.fresh0.used1, 2)
 else (searchN budget us D C 64 0 S.fresh0.used1).map fun q => (q.1.back 0, q.2)
theorem afterN_W {budget : Int} {n : Nat} {K : Sv → Option (Sv × Int)} {K' : Sv → Prop} {Q : Sv → Int → Prop} {P : Sv × Int → Prop} (hK : ∀ S q, K S = some q → P q → K' S) (hQ : ∀ S r, P (S, r) → Q S r) :
  ∀ (o : Option (Sv × Bool)) (q : Sv × Int), afterN budget n K o = some q → P q → afterC budget n Q K' o
 | none, q, h, _ => by cases h
 | some (S2, false), q, h, hp => by
  have : (S2, (2 : Int)) = q := by simpa [afterN] using h
  exact hQ S2 2 (by rw [this]; exact hp)
 | some (S2, true), q, h, hp => by
  show if budget < (n + 1 : Nat) then Q S2 0 else K' S2
  have h' : (if budget < (n + 1 : Nat) then some (S2, 0) else K S2) = some q := h
  split
  ·rename_i hb
   rw [if_pos hb] at h'
   have : (S2, (0 : Int)) = q := by simpa using h'
   exact hQ S2 0 (by rw [this]; exact hp)
  ·rename_i hb
   rw [if_neg hb] at h'
   exact hK S2 q h' hp
theorem roundN_W {budget : Int} {us : List Int} {K : Nat → Nat → Sv → Option (Sv × Int)} {K' : Nat → Nat → Sv → Prop} {Q : Sv → Int → Prop} {P : Sv × Int → Prop} (hK : ∀ next n S q, K next n S = some q → P q → K' next n S) (hQ : ∀ S r, P (S, r) → Q S r) :
  ∀ (d next n : Nat) (S : Sv) (q : Sv × Int), roundN budget us K d next n S = some q → P q → roundW false budget us Q K' d next n S
 | 0, _, _, _, q, h, _ => by cases h
 | d + 1, next, n, S, q, h, hp => by
  rw [roundN] at h
  split at h
  ·rename_i hc
   simp only [Bool.and_eq_true, decide_eq_true_eq] at hc
   rw [roundW]
   refine ⟨small_of hc.1.1, hc.1.2, hc.2, ?_⟩
   split at h
   ·rename_i SF c hf
    rw [hf]
    exact afterN_W (fun S q => hK next (n + 1) S q) hQ _ q h hp
   ·rename_i SF hf
    rw [hf]
    simp only at h ⊢
    unfold thinW
    split at h
    ·cases h
    ·rename_i ht
     rw [if_neg ht]
     split at h
     ·rename_i h0
      rw [if_pos h0]
      exact roundN_W hK hQ d _ n _ q h hp
     ·rename_i h0
      rw [if_neg h0]
      refine hQ _ _ ?_
      have : (SF.rested n next).decide_ us = q := by simpa using h
      rw [this]
      exact hp
  ·cases h
theorem searchN_W {budget : Int} {us : List Int} {D : Nat} {Q : Sv → Int → Prop} {P : Sv × Int → Prop} (hQ : ∀ S r, P (S, r) → Q S r) :
  ∀ (c next n : Nat) (S : Sv) (q : Sv × Int), searchN budget us D c next n S = some q → P q → searchW false budget us Q D c next n S
 | 0, _, _, _, q, h, _ => by cases h
 | c + 1, next, n, S, q, h, hp => roundN_W (fun next n S q => searchN_W hQ c next n S q) hQ D next n S q h hp
theorem solveN_W {budget : Int} {us : List Int} {D C : Nat} {S : Sv} {q : Sv × Int} (h : solveN budget us D C S = some q) : solveW false budget us D C (fun S' r => (S', r) = q) S := by
 unfold solveN at h
 unfold solveW
 split at h
 ·rename_i h1
  rw [if_pos h1]
  simpa using h
 ·rename_i h1
  rw [if_neg h1]
  split at h
  ·rename_i h2
   rw [if_pos h2]
   simpa using h
  ·rename_i h2
   rw [if_neg h2]
   rw [Option.map_eq_some_iff] at h
   obtain ⟨q1, h3, h4⟩ := h
   exact searchN_W (P := fun x => x = q1) (fun S r e => by rw [← h4, ← e]) C 64 0 _ q1 h3 rfl
end Sv
structure Own (w0 w : World) (L : SvL) (S : Sv) : Prop where
 sv : SvAt w L S
 nw : ∀ k, k < w0.heap.size → (L.lab k).1 ≠ L.id
 fr : Fr [] w0 w
theorem Own.keep {w0 w w' : World} {L : SvL} {S : Sv} (h : Own w0 w L S) (hf : Fr [] w w') : Own w0 w' L S := ⟨h.sv.keep hf, h.nw, h.fr.then_ hf⟩
theorem Own.seal {w0 w : World} {L : SvL} {S : Sv} (h : Own w0 w L S) : Own w0 w (L.seal w) S :=
 ⟨h.sv.seal, fun k hk => by
  simp only [SvL.seal]
  rw [if_pos (Nat.lt_of_lt_of_le hk h.fr.size)]
  exact h.nw k hk, h.fr⟩
theorem Own.next {w0 w w' : World} {L L' : SvL} {S S' : Sv} (h : Own w0 w L S) (h' : SvAt w' L' S') (he : L.ext L' w) (hf : Fr (L.own w) w w') : Own w0 w' L' S' :=
 ⟨h', fun k hk e => h.nw k hk (he.2.2 k (Nat.lt_of_lt_of_le hk h.fr.size) (e.trans he.2.1)), h.fr.trans hf (fun k hk => by
  rcases Nat.lt_or_ge k w0.heap.size with h1 | h1
  ·exact absurd (SvL.mem_own.1 hk).2 (h.nw k h1)
  ·exact .inr h1)⟩
theorem Own.far_old {w0 w : World} {L : SvL} {S : Sv} (h : Own w0 w L S) {A : Option Addr} {xs : List Int} (hr : Rd w0 A xs) : Rdx w L A xs :=
 ⟨hr.keep h.fr, fun h0 k hk => h.nw k (hr.blk h0 k hk)⟩
theorem own_new (w : World) (vars : Int) (h0 : -9223372036854775808 ≤ vars) (h1 : vars ≤ 9223372036854775807) :
  Calls Try.prog 9 #[.int .i64 vars] w fun e w' => ∃ L : SvL, e = .returned (.pointer (some ⟨L.a, 0, none⟩)) ∧ Own w w' L (Sv.new vars) :=
 (new_calls w vars h0 h1).mono fun e w' ⟨L, he, h2, h3, h4⟩ => ⟨L, he, h2, h3, h4⟩
theorem Sv.Ok.new (vars : Int) : (Sv.new vars).Ok 0 ∧ (Sv.new vars).vars = (min (max vars 0) 262143).toNat := by
 refine ⟨Sv.Ok.grow Sv.Ok.bare _ (by show 0 + _ ≤ 262143; omega), ?_⟩
 show 0 + _ = _
 omega
end Go.Proofs.Ytjchilcpflfcnaa
namespace Go.Proofs.Ytjchilcpflfcnaa
open Go.RowKit
theorem row_new (w : World) (xs : List Int) (h : xs.length ≤ maxLen) : Ints (w.alloc (.cells (xs.map (Value.int .i64)).toArray 3)) (some ⟨w.heap.size, 0, none⟩) xs.length xs := by
 have := World.ownsRow_lit (base := 0) (e := 3) (size := 1) w (xs.map (Value.int .i64)).toArray xs.length (Nat.zero_le _) h (by simp)
 unfold Ints
 simpa using this
end Go.Proofs.Ytjchilcpflfcnaa
