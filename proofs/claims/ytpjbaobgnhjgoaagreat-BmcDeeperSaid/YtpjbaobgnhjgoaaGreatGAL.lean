/- Parts of a proof. -/
import Derived.Test.YtpjbaobgnhjgoaaGreatGAK
import Derived.Shelf.SlSortCmp.NoneTotal
set_option linter.unusedVariables false
set_option linter.unusedSimpArgs false
set_option maxHeartbeats 16000000
set_option maxRecDepth 100000
namespace Go.Proofs.YtpjbaobgnhjgoaaGreat
open Go.Shelf
def GM : Go.Shelf.Ren := ⟨fun | 6 => 156 | 15 => 175 | 14 => 174 | 28 => 194 | 29 => 195 | 20 => 179 | 21 => 187 | 22 => 188 | 23 => 189 | 24 => 190 | 25 => 191 | 26 => 192 | 27 => 193 | 46 => 198 | 47 => 199 | 48 => 200 | 49 => 201 | 50 => 202 | 57 => 204 | n => n, fun | 22 => 22 | 24 => 3 | 25 => 83 | 3 => 3 | 39 => 144 | 0 => 0 | 53 => 198 | 55 => 209 | 4 => 4 | 46 => 202 | 45 => 201 | 50 => 185 | 5 => 5 | 9 => 9 | 66 => 210 | 70 => 214 | 76 => 216 | 77 => 217 | n => n, fun | n => n⟩
theorem Rg : Go.Proofs.SlLaysF.n6 Tryz.prog GM := {
 mixed := by kernel_rfl
 f6 := ⟨Tryz.f156.name, by decide, Tryz.func156.trans (congrArg some (by kernel_rfl))⟩
 f14 := ⟨Tryz.f174.name, by decide, Tryz.func174.trans (congrArg some (by kernel_rfl))⟩
 f15 := Tryz.func175.trans (congrArg some (by kernel_rfl))
 f20 := ⟨Tryz.f179.name, by decide, Tryz.func179.trans (congrArg some (by kernel_rfl))⟩
 f21 := ⟨Tryz.f187.name, by decide, Tryz.func187.trans (congrArg some (by kernel_rfl))⟩
 f22 := ⟨Tryz.f188.name, by decide, Tryz.func188.trans (congrArg some (by kernel_rfl))⟩
 f23 := ⟨Tryz.f189.name, by decide, Tryz.func189.trans (congrArg some (by kernel_rfl))⟩
 f24 := ⟨Tryz.f190.name, by decide, Tryz.func190.trans (congrArg some (by kernel_rfl))⟩
 f25 := ⟨Tryz.f191.name, by decide, Tryz.func191.trans (congrArg some (by kernel_rfl))⟩
 f26 := ⟨Tryz.f192.name, by decide, Tryz.func192.trans (congrArg some (by kernel_rfl))⟩
 f27 := ⟨Tryz.f193.name, by decide, Tryz.func193.trans (congrArg some (by kernel_rfl))⟩
 f28 := Tryz.func194.trans (congrArg some (by kernel_rfl))
 f29 := Tryz.func195.trans (congrArg some (by kernel_rfl))
 f46 := ⟨Tryz.f198.name, by decide, Tryz.func198.trans (congrArg some (by kernel_rfl))⟩
 f47 := Tryz.func199.trans (congrArg some (by kernel_rfl))
 f48 := Tryz.func200.trans (congrArg some (by kernel_rfl))
 f49 := ⟨Tryz.f201.name, by decide, Tryz.func201.trans (congrArg some (by kernel_rfl))⟩
 f50 := ⟨Tryz.f202.name, by decide, Tryz.func202.trans (congrArg some (by kernel_rfl))⟩
 f57 := ⟨Tryz.f204.name, by decide, Tryz.func204.trans (congrArg some (by kernel_rfl))⟩
 t0 := Tryz.underlying0
 a0 := Tryz.isAgg0
 z0 := Tryz.sizeOf0
 v0 := Tryz.zeroValue0
 t3 := Tryz.underlying3
 a3 := Tryz.isAgg3
 z3 := Tryz.sizeOf3
 v3 := Tryz.zeroValue3
 t4 := Tryz.underlying4
 a4 := Tryz.isAgg4
 z4 := Tryz.sizeOf4
 v4 := Tryz.zeroValue4
 t5 := Tryz.underlying5
 a5 := Tryz.isAgg5
 z5 := Tryz.sizeOf5
 v5 := Tryz.zeroValue5
 t9 := Tryz.underlying9
 a9 := Tryz.isAgg9
 z9 := Tryz.sizeOf9
 v9 := Tryz.zeroValue9
 t22 := Tryz.underlying22
 a22 := Tryz.isAgg22
 z22 := Tryz.sizeOf22
 v22 := Tryz.zeroValue22
 a24 := Tryz.isAgg3
 z24 := Tryz.sizeOf3
 t25 := Tryz.underlying83
 a25 := Tryz.isAgg83
 z25 := Tryz.sizeOf83
 v25 := Tryz.zeroValue83
 t39 := Tryz.underlying144
 a39 := Tryz.isAgg144
 z39 := Tryz.sizeOf144
 v39 := Tryz.zeroValue144
 t45 := Tryz.underlying201
 a45 := Tryz.isAgg201
 z45 := Tryz.sizeOf201
 v45 := Tryz.zeroValue201
 t46 := Tryz.underlying202
 a46 := Tryz.isAgg202
 z46 := Tryz.sizeOf202
 v46 := Tryz.zeroValue202
 t50 := Tryz.underlying185
 a50 := Tryz.isAgg185
 z50 := Tryz.sizeOf185
 v50 := Tryz.zeroValue185
 t53 := Tryz.underlying198
 a53 := Tryz.isAgg198
 z53 := Tryz.sizeOf198
 v53 := Tryz.zeroValue198
 t55 := Tryz.underlying209
 a55 := Tryz.isAgg209
 z55 := Tryz.sizeOf209
 v55 := Tryz.zeroValue209
 t66 := Tryz.underlying210
 a66 := Tryz.isAgg210
 z66 := Tryz.sizeOf210
 v66 := Tryz.zeroValue210
 t70 := Tryz.underlying214
 a70 := Tryz.isAgg214
 z70 := Tryz.sizeOf214
 v70 := Tryz.zeroValue214
 t76 := Tryz.underlying216
 a76 := Tryz.isAgg216
 z76 := Tryz.sizeOf216
 v76 := Tryz.zeroValue216
 t77 := Tryz.underlying217
 a77 := Tryz.isAgg217
 z77 := Tryz.sizeOf217
 v77 := Tryz.zeroValue217 }
open Go.RowKit Go.Sort
theorem mM (x y : Int) : ltOf qw x y = (decide (fN x < fN y) || (decide (fN x = fN y) && decide (x < y))) := by
 unfold ltOf qw Jq ib
 by_cases h1 : fN x < fN y
 ·simp [h1]
 ·by_cases h2 : fN y < fN x
  ·simp [h1, h2]
   omega
  ·have h3 : fN x = fN y := by omega
   by_cases h4 : x < y
   ·simp [h3, h4]
   ·by_cases h5 : y < x <;> simp [h3, h4, h5]
theorem ab8 : SWO (ltOf qw) where
 irrefl x := by rw [mM]; simp
 trans x y z h1 h2 := by
  rw [mM] at *
  simp only [Bool.or_eq_true, aD, decide_eq_true_eq] at *
  omega
 ntrans x y z h1 h2 := by
  rw [mM] at *
  simp only [fc, Bool.and_eq_false_iff, decide_eq_false_iff_not] at *
  omega
theorem QB (g off size : Nat) (w : World) : CmpLays1 Tryz.prog 157 #[] (Value.int .i64) qw g off size w :=
 fun m os dk _ x y => (Ah _ x y).mono fun e w' ⟨he, hw⟩ => ⟨he, 0, #[.cells #[.int .i64 (ib (fN x) (fN y)), .int .i64 (ib x y)] 3], by rw [hw, alloc_eq_grow]; rfl⟩
end Go.Proofs.YtpjbaobgnhjgoaaGreat
namespace Go.Proofs.YtpjbaobgnhjgoaaGreat
open Go.RowKit Go.Shelf Go.Sort
theorem ML (w : World) (A : Option Addr) (c : Nat) (xs : List Int) (h : Rd w A xs) (hn : A = none → c = 0) (hlen : xs.length < 17592186044416) :
  Calls Tryz.prog 154 #[.slice A xs.length c] w fun e w' => ∃ A' c', e = .returned (.slice A' xs.length c') ∧ Ints w' A' c' xs ∧ (∀ k, k ∈ ah A' → w.heap.size ≤ k) ∧ Fr [] w w' := by
 cases A with
 | none =>
  have h0 : xs.length = 0 := by
   rcases Nat.eq_zero_or_pos xs.length with h5 | h5
   ·exact h5
   ·obtain ⟨b, o, hA, _⟩ := h h5
    cases hA
  obtain rfl : xs = [] := a6 h0
  obtain rfl := hn rfl
  have he : ∀ w : World, (binOp .eql 22 (.slice none 0 0) (.slice none 0 0)).run Tryz.prog w = .ok (.bool true) w := fun w => Lib.run_eql_slice_nil w _ _ _ _ _ _ _ Tryz.underlying22
  have e0 : ([] : List Int).length = 0 := rfl
  rw [e0]
  clear h hn h0
  go_enter Tryz.func154, Tryz.ntmps154
  go_wp2_with fail
  go_ret
  exact ⟨none, 0, rfl, Ints.nil _, by simp [ah], Fr.refl _ _⟩
 | some ad =>
  have he : ∀ w : World, (binOp .eql 22 (.slice (some ad) xs.length c) (.slice none 0 0)).run Tryz.prog w = .ok (.bool false) w := fun w => Lib.run_eql_slice_nil w _ _ _ _ _ _ _ Tryz.underlying22
  have HC : Hid (∀ j : Nat, ∀ y, xs[j]? = some y → (w.alloc (.cells #[] 3)).cell? (ad.add j) = some (.int .i64 y)) := fun j y hy => by
   have hj := (List.getElem?_eq_some_iff.1 hy).1
   obtain ⟨b, o, hA, hx⟩ := h (by omega)
   cases hA
   have := (aP w (.cells #[] 3)).av (hx j hj)
   rw [ae, hy] at this
   rw [dM]
   simpa using this
  clear h hn
  go_enter Tryz.func154, Tryz.ntmps154
  go_wp2_with (at_builtin; (refine jN _ rfl _ _ 22 rfl 3 (.int .i64 0) 1 8 Tryz.underlying22 ng rfl (by decide) (some ⟨w.heap.size, 0, none⟩) 0 0 rfl [] ?dj ad xs.length c rfl (xs.map (Value.int .i64)) (by simp) ?kF (by simp [Value.oneCell']) (by unfold maxLen; omega) (by omega) ?_; (case dj => exact World.ownsRow_lit w #[] 0 (bV _) (by simp [maxLen]) (by simp)); (case kF => intro jj u hu; simp only [bh, Option.map_eq_some_iff] at hu; obtain ⟨y, hy, rfl⟩ := hu; exact HC.out jj y hy); intro A2 cap w2 qg cd eJ jK Jz V3; have HI := aa qg; have cJ := aa cd; have rN := aa eJ; have ke := aa Jz; clear qg cd eJ jK Jz V3))
  go_ret
  refine ⟨A2, cap, by simp, ?_, fun k hk => ?_, ?_⟩
  ·have := HI.out
   unfold Ints
   simpa using this
  ·rcases rN.out k hk with h | h
   ·simp [ah] at h; omega
   ·rw [h]; simp
  ·exact ((Fr.refl [] w).alloc _).trans cJ.out (fun k hk => .inr (by simp [ah] at hk; omega))
def jV (xs : List Int) : List Int := xs.mergeSort fun x y => !(ltOf qw) y x
theorem wT (x y : Int) (h1 : ltOf qw x y = false) (h2 : ltOf qw y x = false) : x = y := by
 rw [mM] at *
 simp only [fc, Bool.and_eq_false_iff, decide_eq_false_iff_not] at *
 omega
theorem vG (w : World) (g n : Nat) (d : Array Int) (os : Array Obj) (cur : Array Value) (hg : w.heap[g]? = some (.cells cur 3 (0, 0))) : (sortWorld (Value.int .i64) w g 0 n d os).heap[g]? = some (.cells (putCells (Value.int .i64) 0 d cur) 3 (0, 0)) := by
 have bM := (Array.getElem?_eq_some_iff.1 hg).1
 unfold sortWorld grow putRow mapBlock Sort.ahead
 simp only
 rw [Array.getElem?_append_left (by simpa using bM), Array.getElem?_modify, if_pos rfl, hg]
 rfl
theorem xW (w : World) (g n : Nat) (d : Array Int) (os : Array Obj) : Fr [g] w (sortWorld (Value.int .i64) w g 0 n d os) := by
 unfold sortWorld grow putRow mapBlock Sort.ahead
 refine ⟨rfl, rfl, rfl, by simp, fun k hk hn => ?_⟩
 simp only
 rw [Array.getElem?_append_left (by simpa using hk), Array.getElem?_modify, if_neg (fun e => hn (by simp [e]))]
theorem EE : ∀ args w, (callFunc 157 args).run Tryz.prog w = .ok (.enter 157 args) w := enters_of Tryz.func157 (by kernel_rfl) rfl
theorem CS (w : World) (g c : Nat) (xs : List Int) (h : Ints w (some ⟨g, 0, none⟩) c xs) (hl : xs.length ≤ 17592186044416) :
  Calls Tryz.prog 156 #[.slice (some ⟨g, 0, none⟩) xs.length c, .func (.func 157) #[] #[]] w fun e w' => e = .returned (.tuple #[]) ∧ Ints w' (some ⟨g, 0, none⟩) c (jV xs) ∧ Fr [g] w w' := by
 have bM : g < w.heap.size := (World.ownsRow.lt h g rfl).2
 have hH : Holds (Value.int .i64) w g 0 xs.toArray := fun j hj => by
  have Ua : j < xs.length := by simpa using hj
  rw [cZ]
  refine ⟨?_, h.frozen j⟩
  rw [h.cell Ua]
  simp [Ua]
 have si := Any.slices_SortFunc_total Rg (Value.int .i64) (fun _ => rfl) qw ab8 157 #[] g 0 c xs.toArray w EE (QB g 0 xs.toArray.size w) hH bM (by simp; omega) wT
 change Calls Tryz.prog 156 _ _ _ at si
 have pG : xs.toArray.size = xs.length := by simp
 rw [pG] at si
 refine si.mono ?_
 rintro e w' ⟨rfl, n, os, rfl⟩
 have hm : (xs.toArray.toList.mergeSort fun x y => !(ltOf qw) y x) = jV xs := rfl
 rw [hm]
 have Ct : (jV xs).length = xs.length := List.length_mergeSort _
 refine ⟨rfl, ?_, xW w g n _ os⟩
 rcases h.2 with ⟨h1, _⟩ | ⟨g', cap, cur, hv, hb, hg, hn, hm, hsc, ht⟩
 ·cases h1
 ·simp only [Value.slice.injEq, Option.some.injEq, Addr.mk.injEq, and_true, true_and] at hv
  obtain ⟨rfl, rfl⟩ := hv
  refine ⟨by simp, .inr ⟨g, c, _, rfl, hb, vG w g n _ os cur hg, by rw [Ct]; exact hn, hm, by simp [putCells, hsc], ?_⟩⟩
  apply List.ext_getElem?
  intro k
  rw [Nat.mul_one, Ct]
  have vw : cur.size = c := by omega
  by_cases hk : k < xs.length
  ·rw [List.getElem?_take, if_pos hk]
   have hkc : k < cur.size := by omega
   have hkd : k < (jV xs).length := by omega
   simp [putCells, hkc, hkd]
  ·rw [List.getElem?_take, if_neg hk, List.getElem?_eq_none (by rw [ax, Ct]; omega)]
theorem J8 (w : World) (A : Option Addr) (c : Nat) (xs : List Int) (h : Ints w A c xs) (hl : xs.length ≤ 17592186044416) :
  Calls Tryz.prog 156 #[.slice A xs.length c, .func (.func 157) #[] #[]] w fun e w' => e = .returned (.tuple #[]) ∧ Ints w' A c (jV xs) ∧ Fr (ah A) w w' := by
 rcases h.form with ⟨rfl, rfl, rfl⟩ | ⟨g, rfl, _⟩
 ·have si := AnyF.slices_SortFunc_none { Rg with } none 0 (.func (.func 157) #[] #[]) w
  change Calls Tryz.prog 156 _ _ _ at si
  refine si.mono ?_
  rintro e w' ⟨rfl, rfl⟩
  refine ⟨rfl, ?_, Fr.refl _ _⟩
  have : jV [] = [] := a6 (List.length_mergeSort _)
  rw [this]
  exact h
 ·exact (CS w g c xs h hl).mono fun e w' ⟨he, h1, h2⟩ => ⟨he, h1, by simpa [ah] using h2⟩
theorem BG (xs : List Int) : ∀ k, (fL xs k).length ≤ k
 | 0 => by simp [fL]
 | k + 1 => by
  have := BG xs k
  rw [fL]
  split
  ·simp; omega
  ·omega
def nrm (xs : List Int) : List Int := Qy (jV (xs.filter fun x => !(x == 0)))
theorem yj (xs : List Int) : (nrm xs).length ≤ xs.length := by
 have h1 : (nrm xs).length ≤ (jV (xs.filter fun x => !(x == 0))).length := BG _ _
 have h2 : (jV (xs.filter fun x => !(x == 0))).length = (xs.filter fun x => !(x == 0)).length := List.length_mergeSort _
 have h3 := List.length_filter_le (fun x => !(x == 0)) xs
 omega
theorem uN (xs : List Int) : ∀ k, k ≤ xs.length → ∀ x ∈ fL xs k, x ∈ xs
 | 0, _, x, h => by simp [fL] at h
 | k + 1, hk, x, h => by
  rw [fL] at h
  split at h
  ·rcases aj.1 h with h | h
   ·exact uN xs k (by omega) x h
   ·rw [an.1 h]
    exact bw (l := xs) (k := k) (by omega)
  ·exact uN xs k (by omega) x h
theorem sJ {xs : List Int} {x : Int} (h : x ∈ nrm xs) : x ∈ xs ∧ x ≠ 0 := by
 have h1 := uN _ _ (ao _) x h
 have h2 : x ∈ xs.filter fun x => !(x == 0) := List.mem_mergeSort.1 h1
 rw [List.mem_filter] at h2
 exact ⟨h2.1, by simpa using h2.2⟩
def la (ys : List Int) (j : Nat) : Bool := ys[j]! == wrap64 (-(ys[j + 1]!))
def qR (ys : List Int) : Bool := (List.range (ys.length - 1)).any (la ys)
def M5 (xs : List Int) (w : World) (e : Ending) (w' : World) : Prop := ∃ (A : Option Addr) (c : Nat), e = .returned (.tuple #[.slice A (nrm xs).length c, .bool (qR (nrm xs))]) ∧ Ints w' A c (nrm xs) ∧ (∀ k, k ∈ ah A → w.heap.size ≤ k) ∧ Fr [] w w'
theorem Ai (W : World) (x : Int) : Calls Tryz.prog 155 #[.int .i64 x] W fun e w' => e = .returned (.bool (x == 0)) ∧ Fr [] W w' := by
 go_enter Tryz.func155, Tryz.ntmps155
 go_wp2_with fail
 go_ret
 exact ⟨rfl, Fr.refl _ _⟩
theorem yO : ∀ args w, (callFunc 155 args).run Tryz.prog w = .ok (.enter 155 args) w := enters_of Tryz.func155 (by kernel_rfl) rfl
theorem Dc (w : World) (A : Option Addr) (c : Nat) (xs : List Int) (h : Rd w A xs) (hr : Ra xs) (hl : xs.length ≤ 1048576) (hn : A = none → c = 0) :
  Calls Tryz.prog 124 #[.slice A xs.length c] w (M5 xs w) := by
 have Cg := aa (ML w A c xs h hn (by omega))
 have HR := aa hr
 clear h hr hn
 go_enter Tryz.func124, Tryz.ntmps124
 go_wp2_with fail
 refine Cg.out.mono ?_
 rintro e w1 ⟨A1, c1, rfl, ho, hb, cE⟩
 have zE := aa (uL w1 A1 c1 xs 155 #[] (fun x => x == 0) yO ho HR.out (by omega) (fun W hW x _ _ => Ai W x))
 have HB := aa hb
 have dv := aa cE
 clear ho hb cE Cg
 go_wp2_with fail
 refine zE.out.mono ?_
 rintro e w2 ⟨rfl, ho, hf⟩
 have hfl := List.length_filter_le (fun x : Int => !(x == 0)) xs
 have HS := aa (J8 w2 A1 c1 (xs.filter fun x => !(x == 0)) ho (by omega))
 have cJ : Hid (Fr [] w w2) := dv.out.trans hf (fun x hx => .inr (HB.out x hx))
 have zr : (jV (xs.filter fun x => !(x == 0))).length = (xs.filter fun x => !(x == 0)).length := List.length_mergeSort _
 have Jh := aa zr
 clear zE dv hf ho zr
 go_wp2_with fail
 refine HS.out.mono ?_
 rintro e w3 ⟨rfl, ho, hf⟩
 have XJ : Ra (jV (xs.filter fun x => !(x == 0))) := Ra.sub HR.out (fun y hy => (List.mem_filter.1 (List.mem_mergeSort.1 hy)).1)
 have HC := aa (BH w3 A1 c1 (jV (xs.filter fun x => !(x == 0))) ho XJ (by rw [Jh.out]; omega))
 rw [Jh.out] at HC
 have cR : Hid (Fr [] w w3) := cJ.out.trans hf (fun x hx => .inr (HB.out x hx))
 clear HS cJ hf ho XJ hfl
 go_wp2_with fail
 refine HC.out.mono ?_
 rintro e w4 ⟨rfl, ho, hf⟩
 have gS : Hid (Fr [] w w4) := cR.out.trans hf (fun x hx => .inr (HB.out x hx))
 obtain ⟨ys, Jt⟩ : ∃ ys, Qy (jV (xs.filter fun x => !(x == 0))) = ys := ⟨_, rfl⟩
 have hyn : nrm xs = ys := Jt
 have hyl : ys.length ≤ xs.length := by rw [← hyn]; exact yj xs
 have HRY : Hid (Ra ys) := Ra.sub HR.out (fun y hy => (sJ (by rw [hyn]; exact hy)).1)
 rw [Jt] at ho ⊢
 have HO := aa ho
 have rI : Hid (∀ q W, Fr [] w4 W → qR ys = q → M5 xs w (.returned (.tuple #[.slice A1 ys.length c1, .bool q])) W) := fun q W hW hq => by
  unfold M5
  rw [hyn]
  exact ⟨A1, c1, by rw [hq], HO.out.eE hW, HB.out, gS.out.ag hW⟩
 clear HC cR hf ho Jt hyn
 go_wp2_with fail
 go_loopg [16] ys.length (fun g i wr => ∃ k : Nat, k + g = ys.length ∧ i = .int .i64 k ∧ Hid (∀ j : Nat, j + 1 < k → la ys j = false) ∧ Fr [] w4 wr)
 case atStart => exact ⟨0, by omega, rfl, fun j hj => absurd hj (aG _), Fr.refl _ _⟩
 case round =>
  obtain ⟨k, hk, rfl, Jg, hf⟩ := hrel
  have HK := aa hk
  have HF := aa hf
  have j4 : k ≤ ys.length := by omega
  clear hk hf
  by_cases bM : k < ys.length
  ·obtain ⟨b, o, x, hA, he, cx, gP, iP⟩ := (HO.out.eE HF.out).rd.one HRY.out bM
   subst hA
   cases k with
   | zero =>
    rw [Nat.add_zero] at cx
    go_wp2_with fail
    go_roundg (gk - 1)
    case measure => have := HK.out; omega
    case rel => exact ⟨1, by have := HK.out; omega, by go_num, fun j hj => absurd hj (by omega), HF.out⟩
   | succ j =>
    obtain ⟨b', o', x', zx, eG, MJ, S8, Xq⟩ := (HO.out.eE HF.out).rd.one HRY.out (j := j) (by omega)
    simp only [Option.some.injEq, Addr.mk.injEq, and_true] at zx
    obtain ⟨rfl, rfl⟩ := zx
    obtain ⟨q, hq⟩ : ∃ q : Bool, (x' == wrap64 (-x)) = q := ⟨(x' == wrap64 (-x)), rfl⟩
    have N0 : la ys j = q := by
     unfold la
     rw [he.out, eG.out]
     exact hq
    have HTA := aa N0
    clear N0
    cases q with
    | true =>
     have YY := aa (rI.out true wr HF.out (by
      unfold qR
      rw [List.any_eq_true]
      exact ⟨j, gG.2 (by omega), HTA.out⟩))
     go_wp2_with fail
     go_ret2
     exact YY.out
    | false =>
     have agk : Hid (∀ i : Nat, i + 1 < j + 1 + 1 → la ys i = false) := fun i hi => by
      by_cases e : i = j
      ·rw [e]; exact HTA.out
      ·exact Jg.out i (by omega)
     go_wp2_with fail
     go_roundg (gk - 1)
     case measure => have := HK.out; omega
     case rel => exact ⟨j + 1 + 1, by have := HK.out; omega, by go_num, agk.out, HF.out⟩
  ·have YY := aa (rI.out false wr HF.out (by
    unfold qR
    rw [List.any_eq_false]
    intro j hj
    rw [gG] at hj
    rw [Jg.out j (by omega)]
    simp))
   clear HK
   go_wp2_with fail
   go_ret2
   exact YY.out
end Go.Proofs.YtpjbaobgnhjgoaaGreat
namespace Go.Proofs.YtpjbaobgnhjgoaaGreat
open Go.RowKit
namespace Sv
def gZ (S : Sv) (out : List Int) : Sv := if out.length = 0 then { S with bad := true } else if out.length = 1 then S.put out[0]! 0 else S.attach out false
def leftOf (S : Sv) (out : List Int) : List Int := out.filter fun x => !decide (S.val x < 0)
def wM (S : Sv) (out : List Int) : Bool := qR out || out.any fun x => decide (0 < S.val x)
def fM (S : Sv) (l : List Int) : Sv × Int :=
 if kK S.vars l = 0 then (if S.wM (nrm l) = true then S.bD else S.bD.gZ (S.leftOf (nrm l)), 0) else (S, kK S.vars l)
theorem yW {vars : Nat} {l : List Int} (hr : Ra l) (h : kK vars l = 0) : l.length ≤ 1024 ∧ ∀ x ∈ l, x ≠ 0 ∧ -(vars : Int) ≤ x ∧ x ≤ vars := by
 unfold kK at h
 split at h
 ·omega
 ·split at h
  ·omega
  ·rename_i h1 h2
   refine ⟨by omega, fun x hx => ?_⟩
   have h3 : fI vars x = false := by
    rw [List.any_eq_true] at h2
    cases h4 : fI vars x with
    | false => rfl
    | true => exact absurd ⟨x, hx, h4⟩ h2
   unfold fI at h3
   simp only [fc, decide_eq_false_iff_not] at h3
   have h5 := xK ((eN (p := dB)).1 hr x hx)
   refine ⟨tu (by omega), by omega, by omega⟩
theorem Ok.gZ {S : Sv} (ok : S.Ok 0) {out : List Int} (h1 : out.length ≤ 1048576) (hl : ∀ x ∈ out, x ≠ 0 ∧ -(S.vars : Int) ≤ x ∧ x ≤ S.vars) (hr : S.list.length < 2199023255552) : (S.gZ out).Ok 0 ∧ (S.gZ out).vars = S.vars := by
 unfold Sv.gZ
 split
 ·exact ⟨ok.xY true, rfl⟩
 ·split
  ·exact ⟨ok.put ⟨by omega, by omega⟩, rfl⟩
  ·exact ⟨ok.attach ⟨by omega, h1, hl⟩ false hr, (ed _ out false).2.1⟩
theorem tV {S : Sv} {l : List Int} (hr : Ra l) (h : kK S.vars l = 0) : (S.leftOf (nrm l)).length ≤ 1024 ∧ ∀ x ∈ S.leftOf (nrm l), x ≠ 0 ∧ -(S.vars : Int) ≤ x ∧ x ≤ S.vars := by
 obtain ⟨h1, h2⟩ := yW hr h
 have h3 := yj l
 have h4 := List.length_filter_le (fun x => !decide (S.val x < 0)) (nrm l)
 refine ⟨by unfold leftOf; omega, fun x hx => ?_⟩
 unfold leftOf at hx
 exact h2 x (sJ (List.mem_filter.1 hx).1).1
theorem Ok.fM {S : Sv} (ok : S.Ok 0) {l : List Int} (oP : Ra l) (hr : S.list.length < 2199023255552) : (S.fM l).1.Ok 0 ∧ (S.fM l).1.vars = S.vars := by
 unfold Sv.fM
 split
 ·rename_i h
  split
  ·exact ⟨ok.bD, rfl⟩
  ·obtain ⟨h1, h2⟩ := tV (S := S) oP h
   exact Ok.gZ (S := S.bD) ok.bD (by omega) h2 hr
 ·exact ⟨ok, rfl⟩
end Sv
theorem ES (W : World) (b : Nat) (L : aH) (S : Sv) (h : aK W L S) (ok : S.Ok 0) (hb : W.cell? ⟨b, 0, none⟩ = some (.pointer (some ⟨L.a, 0, none⟩))) (x : Int) (hx : dB x) :
  Calls Tryz.prog 125 #[.int .i64 x, .pointer (some ⟨b, 0, none⟩)] W fun e w' => e = .returned (.bool (decide (0 < S.val x))) ∧ Fr [] W w' := by
 have c0 := h.cells.1
 have KV := aa (dt W L.tL S.T h.tr x hx.1 hx.2 ok.small)
 obtain ⟨v, hv⟩ : ∃ v, S.T.km x = v := ⟨_, rfl⟩
 rw [hv] at KV
 have e : decide (0 < S.val x) = decide (0 < v) := by unfold Sv.val; rw [hv]
 rw [e]
 clear h ok hv e
 go_enter Tryz.func125, Tryz.ntmps125
 go_wp2_with fail
 refine KV.out.mono ?_
 rintro e w1 ⟨rfl, rfl⟩
 go_wp2_with fail
 go_ret
 exact ⟨rfl, Fr.refl _ _⟩
theorem ER (W : World) (b : Nat) (L : aH) (S : Sv) (h : aK W L S) (ok : S.Ok 0) (hb : W.cell? ⟨b, 0, none⟩ = some (.pointer (some ⟨L.a, 0, none⟩))) (x : Int) (hx : dB x) :
  Calls Tryz.prog 128 #[.int .i64 x, .pointer (some ⟨b, 0, none⟩)] W fun e w' => e = .returned (.bool (decide (S.val x < 0))) ∧ Fr [] W w' := by
 have c0 := h.cells.1
 have KV := aa (dt W L.tL S.T h.tr x hx.1 hx.2 ok.small)
 obtain ⟨v, hv⟩ : ∃ v, S.T.km x = v := ⟨_, rfl⟩
 rw [hv] at KV
 have e : decide (S.val x < 0) = decide (v < 0) := by unfold Sv.val; rw [hv]
 rw [e]
 clear h ok hv e
 go_enter Tryz.func128, Tryz.ntmps128
 go_wp2_with fail
 refine KV.out.mono ?_
 rintro e w1 ⟨rfl, rfl⟩
 go_wp2_with fail
 go_ret
 exact ⟨rfl, Fr.refl _ _⟩
theorem BC : ∀ args w, (callFunc 125 args).run Tryz.prog w = .ok (.enter 125 args) w := enters_of Tryz.func125 (by kernel_rfl) rfl
theorem BA : ∀ args w, (callFunc 128 args).run Tryz.prog w = .ok (.enter 128 args) w := enters_of Tryz.func128 (by kernel_rfl) rfl
theorem I2 (w : World) (L : aH) (S : Sv) (h : aK w L S) (ok : S.Ok 0) (A : Option Addr) (c : Nat) (l : List Int) (vN : B8 w L A l) (oP : Ra l) (hn : A = none → c = 0) (hr : S.list.length < 2199023255552) (hu : S.used ≤ 2199023255552) :
  Calls Tryz.prog 96 #[.pointer (some ⟨L.a, 0, none⟩), .slice A l.length c] w (me (.int .i64 (S.fM l).2) (S.fM l).1 L w) := by
 obtain ⟨RES, co⟩ : ∃ RES, S.fM l = RES := ⟨_, rfl⟩
 rw [co]
 have dC := aa co
 obtain ⟨w1, ep⟩ : ∃ w1, w.alloc (.cells #[.pointer (some ⟨L.a, 0, none⟩)] 78) = w1 := ⟨_, rfl⟩
 have gu : Hid (Fr [] w w1) := by rw [← ep]; exact aP _ _
 have nJ : w1.cell? ⟨w.heap.size, 0, none⟩ = some (.pointer (some ⟨L.a, 0, none⟩)) := by rw [← ep]; exact (At.new w _ _).cell 0
 have zo := aa nJ
 obtain ⟨L1, vx⟩ : ∃ L1, L.seal w = L1 := ⟨_, rfl⟩
 have H1 : Hid (aK w1 L1 S) := by rw [← vx]; exact h.seal.keep gu.out
 have dV : Hid (L.ext L1 w) := by rw [← vx]; exact L.kq w
 have QR : Hid (∀ k, w.heap.size ≤ k → (L1.cv k).1 ≠ L1.id) := fun k hk => by rw [← vx]; exact aH.gJ hk
 have dv : Hid (Fr (L.own w) w w1) := gu.out.mono (fun k hk => by cases hk)
 have oY : Hid (B8 w1 L1 A l) := ⟨vN.1.keep gu.out, fun h0 => yM dV.out (vN.2 h0) (fun k hk => vN.1.blk h0 k hk)⟩
 have kQ := aa ok
 have vz := aa oP
 have HN := aa hn
 have oM := aa hr
 have HU := aa hu
 have KM := aa (lp w1 L1 S H1.out)
 have KC := aa (il w1 (S.vars : Int) A c l oY.out.1 oP)
 have kj : L1.a = L.a := dV.out.1
 rw [kj] at KM
 obtain ⟨-, -, c2, -⟩ := H1.out.cells
 rw [kj] at c2
 obtain ⟨ck, Qj⟩ : ∃ ck, kK (S.vars : Int) l = ck := ⟨_, rfl⟩
 rw [Qj] at KC
 have Ss := aa Qj
 clear h ok vN oP hn hr hu vx co Qj
 go_enter Tryz.func96, Tryz.ntmps96
 go_upto_region 1 with fail
 clear ep
 go_wp2_with fail
 refine KM.out.mono ?_
 clear KM
 rintro e w2 ⟨rfl, rfl⟩
 go_wp2_with fail
 refine KC.out.mono ?_
 clear KC c2
 rintro e w2 ⟨rfl, cd⟩
 have cJ := aa cd
 have H2 := aa (H1.out.keep cd)
 have qi := aa (oY.out.keep cd)
 have nJ := cd.av zo.out
 have VE := aa nJ
 have Q0 : Hid (Fr (L.own w) w w2) := dv.out.ag (cd.mono (fun k hk => by cases hk))
 clear cd
 by_cases LN : ck = 0
 ·have hd : (ck == (0 : Int)) = true := by simp [LN]
  have Qi : kK (S.vars : Int) l = 0 := by rw [Ss.out]; exact LN
  have Zn := aa (Sv.yW vz.out Qi)
  have Sn := aa (Sv.tV (S := S) vz.out Qi)
  have qd : Hid (RES = (if S.wM (nrm l) = true then S.bD else S.bD.gZ (S.leftOf (nrm l)), 0)) := by
   rw [← dC.out]
   unfold Sv.fM
   rw [if_pos Qi]
   rfl
  have f14 := H2.out.obj.frozen 14
  have f7 := H2.out.obj.frozen 7
  obtain ⟨-, -, -, -, -, -, -, c7, -, -, -, -, -, -, JN⟩ := H2.out.cells
  rw [kj] at f14 f7 c7 JN
  obtain ⟨L3, h3, vu, cY⟩ := H2.out.bD
  rw [kj] at h3 cY
  have Of := aa h3
  have Q2 := aa vu
  have NC := aa cY
  clear h3 vu cY Qi
  go_wp2_with fail
  go_region
  obtain ⟨w3, kW⟩ : ∃ w3, ((w2.setCell ⟨L.a, 14, none⟩ (.bool false)).setCell ⟨L.a, 7, none⟩ (.slice none 0 0)).drew = w3 := ⟨_, rfl⟩
  rw [kW] at Of NC ⊢
  have H3 := Of
  have gF : Hid (L.ext L3 w) := aH.aM dV.out Q2.out Q0.out.size
  have cR : Hid (Fr (L.own w) w w3) := aH.aI dV.out Q0.out NC.out
  have oX : Hid (B8 w3 L3 A l) := qi.out.step Q2.out NC.out
  have vc : Hid (w.heap.size ∉ L1.own w2) := aH.lo (QR.out _ (ao _))
  have sj := NC.out.aZ vc.out VE.out
  have Fi := aa sj
  have Zu : Hid (∀ k, w.heap.size ≤ k → k < w2.heap.size → (L3.cv k).1 ≠ L3.id) := fun k hk LM e => QR.out k hk (Q2.out.2.2 k LM (e.trans Q2.out.2.1))
  have oK := aa kQ.out.bD
  have AA : w.heap.size < w2.heap.size := bt VE.out
  have afW := aa AA
  -- from here on ab3 is new is W4
  obtain ⟨L4, RX⟩ : ∃ L4, L3.seal w3 = L4 := ⟨_, rfl⟩
  have H4 : Hid (aK w3 L4 S.bD) := by rw [← RX]; exact H3.out.seal
  have tf : Hid (L.ext L4 w) := by rw [← RX]; exact aH.aM gF.out (L3.kq w3) cR.out.size
  have Zt : Hid (∀ k, w3.heap.size ≤ k → (L4.cv k).1 ≠ L4.id) := fun k hk => by rw [← RX]; exact aH.gJ hk
  have anC : Hid ((L4.cv w.heap.size).1 ≠ L4.id) := by
   show _ ≠ _
   rw [← RX, aH.tD (bt Fi.out)]
   exact Zu.out _ (ao _) afW.out
  have KN := aa (Dc w3 A c l oX.out.1 vz.out (by have := Zn.out.1; omega) HN.out)
  have T5 : L4.a = L.a := tf.out.1
  clear kW nJ c7 JN f7 f14 Of NC RX AA H2 qi VE Q0 vc sj
  go_wp2_with fail
  refine KN.out.mono ?_
  clear KN
  rintro e w4 ⟨A4, c4, rfl, yB, hA4, eF⟩
  obtain ⟨out, Pb⟩ : ∃ out, nrm l = out := ⟨_, rfl⟩
  rw [Pb] at yB
  rw [Pb]
  have QN := aa Pb
  have Sg : Hid (Ra out) := Ra.sub vz.out (fun y hy => (sJ (by rw [QN.out]; exact hy)).1)
  have HOL : Hid (out.length ≤ 1024) := by
   have h5 := yj l
   rw [QN.out] at h5
   have := Zn.out.1
   show _ ≤ _
   omega
  have ZJ := aa yB
  have HA4 := aa hA4
  have gS := aa eF
  have H5 := aa (H4.out.keep eF)
  have Z5 := aa (eF.av Fi.out)
  have ZP : Hid (Fr (L.own w) w w4) := cR.out.ag (eF.mono (fun k hk => by cases hk))
  obtain ⟨tb, htb⟩ : ∃ tb, qR out = tb := ⟨_, rfl⟩
  rw [htb]
  have HTB := aa htb
  have ja := qd.out
  unfold Sv.wM at ja
  rw [QN.out, htb] at ja
  have zk := aa (fT w4 A4 c4 out 125 #[.pointer (some ⟨w.heap.size, 0, none⟩)] (fun x => decide (0 < S.val x)) BC yB.rd Sg.out (by have := HOL.out; omega) (fun W hW x _ hx => ES W w.heap.size L4 S.bD (H5.out.keep hW) oK.out (by rw [T5]; exact hW.av Z5.out) x hx))
  clear yB hA4 eF Pb htb
  cases tb with
  | true =>
   rw [Bool.true_or, if_pos rfl] at ja
   have FF : Hid (me (.int .i64 RES.2) RES.1 L w (.returned (.int .i64 0)) w4) := by rw [ja]; exact ⟨rfl, L4, H5.out, tf.out, ZP.out⟩
   clear ja zk
   go_wp2_with fail
   go_ret
   exact FF.out
  | false =>
   rw [Bool.false_or] at ja
   obtain ⟨p, hp⟩ : ∃ p, (out.any fun x => decide (0 < S.val x)) = p := ⟨_, rfl⟩
   rw [hp] at zk ja
   have U9 := aa ja
   clear hp ja
   go_wp2_with fail
   refine zk.out.mono ?_
   clear zk
   rintro e w5 ⟨rfl, dK⟩
   have H6 := aa (H5.out.keep dK)
   have HI6 := aa (ZJ.out.eE dK)
   have Z4 := aa (dK.av Z5.out)
   have ZO : Hid (Fr (L.own w) w w5) := ZP.out.ag (dK.mono (fun k hk => by cases hk))
   have ank : Hid (w3.heap.size ≤ w5.heap.size) := aE gS.out.size dK.size
   clear dK
   cases p with
   | true =>
    have ja := U9.out
    rw [if_pos rfl] at ja
    have FF : Hid (me (.int .i64 RES.2) RES.1 L w (.returned (.int .i64 0)) w5) := by rw [ja]; exact ⟨rfl, L4, H6.out, tf.out, ZO.out⟩
    clear ja
    go_wp2_with fail
    go_ret
    exact FF.out
   | false =>
    have ja := U9.out
    rw [if_neg (by simp)] at ja
    have af2 := aa ja
    clear ja U9
    have HBA : Hid (w.heap.size ∉ ah A4) := fun hm => by
     have h5 := HA4.out _ hm
     have h6 : w.heap.size < w3.heap.size := bt Fi.out
     omega
    have NF : Hid (∀ k, k ∈ ah A4 → (L4.cv k).1 ≠ L4.id) := fun k hk => Zt.out k (HA4.out k hk)
    have Na := aa (uL w5 A4 c4 out 128 #[.pointer (some ⟨w.heap.size, 0, none⟩)] (fun x => decide (S.val x < 0)) BA HI6.out Sg.out (by have := HOL.out; omega) (fun W hW x _ hx => ER W w.heap.size L4 S.bD (H6.out.fr hW (fun k hk _ => NF.out k hk)) oK.out (by rw [T5]; exact hW.aZ HBA.out Z4.out) x hx))
    go_wp2_with fail
    refine Na.out.mono ?_
    clear Na
    rintro e w6 ⟨rfl, Ub, fZ⟩
    have X3 : S.leftOf out = out.filter fun x => !decide (S.val x < 0) := rfl
    rw [← X3] at Ub
    rw [← X3]
    obtain ⟨ys, Jt⟩ : ∃ ys, S.leftOf out = ys := ⟨_, rfl⟩
    have HLY : Hid (ys.length ≤ 1024 ∧ ∀ x ∈ ys, x ≠ 0 ∧ -(S.vars : Int) ≤ x ∧ x ≤ S.vars) := by
     have h5 := Sn.out
     rw [QN.out, Jt] at h5
     exact h5
    have ja := af2.out
    rw [Jt] at Ub ja ⊢
    have H7 := aa (H6.out.fr fZ (fun k hk _ => NF.out k hk))
    have Nz := aa Ub
    have Z3 := aa (fZ.aZ HBA.out Z4.out)
    have Zl : Hid (∀ k, k ∈ ah A4 → w.heap.size ≤ k) := fun k hk => aE cR.out.size (HA4.out k hk)
    have NB : Hid (Fr (L.own w) w w6) := ZO.out.trans fZ (fun k hk => .inr (Zl.out k hk))
    have qd := aa ja
    have nJ := Z3.out
    clear fZ Ub Jt X3 ja
    by_cases jJ : ys.length = 0
    ·have hd0 : ((ys.length : Int) == (0 : Int)) = true := by simp [jJ]
     have ja := qd.out
     unfold Sv.gZ at ja
     rw [if_pos jJ] at ja
     have f13 := H7.out.obj.frozen 13
     have BO := H7.out.cells.2.2.2.2.2.2.2.2.2.2.2.2.2.1
     rw [T5] at f13 BO
     obtain ⟨g8, f8⟩ := H7.out.nE 13 (.bool true) { S.bD with bad := true } (by simp [m7]) ⟨rfl, rfl, rfl, rfl, rfl, rfl, rfl⟩
     rw [T5] at g8 f8
     have FF : Hid (me (.int .i64 RES.2) RES.1 L w (.returned (.int .i64 0)) (w6.setCell ⟨L.a, 13, none⟩ (.bool true))) := by rw [ja]; exact ⟨rfl, L4, g8, tf.out, aH.aI tf.out NB.out f8⟩
     clear ja g8 f8
     go_wp2_with fail
     go_ret
     exact FF.out
    ·have hd0 : ((ys.length : Int) == (0 : Int)) = false := by rw [beq_eq_false_iff_ne]; omega
     by_cases gx : ys.length = 1
     ·have Ef : ((ys.length : Int) == (1 : Int)) = true := by simp [gx]
      have ja := qd.out
      unfold Sv.gZ at ja
      rw [if_neg jJ, if_pos gx] at ja
      obtain ⟨ga, np, ru⟩ := Nz.out.pos (i := 0) (by omega)
      subst np
      have s1 := Nz.out.cell (i := 0) (by omega)
      have s0 := H7.out.cells.1
      rw [T5] at s0
      obtain ⟨y, hy⟩ : ∃ y, ys[0]! = y := ⟨_, rfl⟩
      rw [hy] at s1 ja
      have NV := HLY.out.2 y (by rw [← hy]; exact get_mem (l := ys) (i := 0) (by omega))
      obtain ⟨-, O1, adj⟩ := NV
      have th := aa s0
      have mg := aa s1
      have KP := aa (fun W (hW : Fr [] w6 W) => ku W L4 S.bD (H7.out.keep hW) 0 oK.out y 0 O1 adj)
      have hly : 0 < ys.length := by omega
      have af1 := aa ja
      clear ja hy s0 s1
      go_wp2_with fail
      go_upto_region 16 with fail
      refine wp_region_noPanic ?_
      refine bj (fun w' : World => Fr [] w6 w') 7 (by kernel_rfl) ((Fr.refl [] w6).drew) (fun dd => ?_)
      apply TB 7 [(0, [0, 1, 2, 3, 7]), (1, []), (2, []), (3, [3, 7]), (4, []), (5, []), (6, [6, 7])]; kernel_rfl; rfl; · (repeat (apply ef; rfl; rfl; (· intro w aY; (try (have aY := aY.resolve_left (aF _ _); (have sb := aY.av Z3.out; have s0 := aY.av th.out; have s1 := aY.av mg.out))); go_simp <;> with_reducible rfl); try simp only [Act.put, q5, q6, q7])); exact ee
      exact dd; intro dd
      refine R2 7 (by kernel_rfl) (by rfl) dd fun K hK ap => ?_
      (go_simp; refine (KP.out _ ap).mono ?_; rintro e w8 ⟨⟨x8, rfl⟩, L8, h8, Qb, kh⟩; dsimp only)
      refine hK.out _ _ (.inl rfl) (fun Ml => ?_)
      clear hK K
      try simp only [Act.put, q5, q6, q7]
      refine az (by kernel_rfl) ?_ _
      refine NoPanic.normal ?_
      clear KP
      have FF : Hid (me (.int .i64 RES.2) RES.1 L w (.returned (.int .i64 0)) w8) := by rw [af1.out]; exact ⟨rfl, L8, h8, aH.aM tf.out Qb (aE NB.out.size ap.size), aH.aI tf.out (NB.out.ag (ap.mono (fun k hk => by cases hk))) kh⟩
      clear h8 Qb kh
      go_wp2_with fail
      go_ret
      exact FF.out
     ·have Ef : ((ys.length : Int) == (1 : Int)) = false := by rw [beq_eq_false_iff_ne]; omega
      have ja := qd.out
      unfold Sv.gZ at ja
      rw [if_neg jJ, if_neg gx] at ja
      have af0 := aa ja
      clear ja
      have Fd : Hid (S.bD.Fits ys) := ⟨by omega, by have := HLY.out.1; omega, HLY.out.2⟩
      have UU := aa (p9 w6 L4 S.bD H7.out 0 oK.out A4 c4 ys false Nz.out Fd.out NF.out oM.out HU.out)
      rw [T5] at UU
      clear jJ gx
      go_wp2_with fail
      refine UU.out.mono ?_
      clear UU
      rintro e w8 ⟨rfl, L8, h8, Cv, FZ, hk8, kh, -, -⟩
      have FF : Hid (me (.int .i64 RES.2) RES.1 L w (.returned (.int .i64 0)) w8) := by rw [af0.out]; exact ⟨rfl, L8, h8, aH.MC tf.out Cv FZ hk8 NB.out.size Zl.out, aH.yi tf.out NB.out kh Zl.out⟩
      clear h8 Cv FZ hk8 kh
      go_wp2_with fail
      go_ret
      exact FF.out
 ·have hd : (ck == (0 : Int)) = false := by simp [LN]
  have qd : Hid (RES = (S, ck)) := by
   rw [← dC.out]
   unfold Sv.fM
   rw [Ss.out, if_neg LN]
   rfl
  have FF : Hid (me (.int .i64 RES.2) RES.1 L w (.returned (.int .i64 ck)) w2) := by rw [qd.out]; exact ⟨rfl, L1, H2.out, dV.out, Q0.out⟩
  go_wp2_with fail
  go_ret
  exact FF.out
namespace Sv
def GJ (S : Sv) (v : Int) : Bool := S.has && decide (1 ≤ v) && decide (v ≤ S.vars) && S.model[v.toNat]!
end Sv
theorem zI (w : World) (L : aH) (S : Sv) (h : aK w L S) (hm : S.has = true → S.model.length = S.vars + 1) (v : Int) :
  Calls Tryz.prog 149 #[.pointer (some ⟨L.a, 0, none⟩), .int .i64 v] w fun e w' => e = .returned (.bool (S.GJ v)) ∧ w = w' := by
 have KM := aa (lp w L S h)
 obtain ⟨-, -, c2, -, -, -, c6, -, -, -, -, -, -, -, JN⟩ := h.cells
 obtain ⟨hs, RO⟩ : ∃ hs, S.has = hs := ⟨_, rfl⟩
 rw [RO] at JN
 have Tb : S.GJ v = (hs && decide (1 ≤ v) && decide (v ≤ S.vars) && S.model[v.toNat]!) := by unfold Sv.GJ; rw [RO]
 obtain ⟨VB, hVB⟩ : ∃ VB, S.GJ v = VB := ⟨_, rfl⟩
 rw [hVB] at Tb ⊢
 have QK := aa Tb
 have Vp := aa RO
 have HM := aa hm
 have HH := aa h
 clear h hm RO Tb hVB
 cases hs with
 | false =>
  have HF : Hid (VB = false) := by rw [QK.out]; rfl
  have hf := HF.out
  subst hf
  go_enter Tryz.func149, Tryz.ntmps149
  go_wp2_with fail
  refine KM.out.mono ?_
  rintro e w1 ⟨rfl, rfl⟩
  go_wp2_with fail
  go_ret
  exact ⟨rfl, rfl⟩
 | true =>
  by_cases h1 : 1 ≤ v
  ·by_cases h2 : v ≤ (S.vars : Int)
   ·obtain ⟨k, rfl⟩ : ∃ k : Nat, v = k := ⟨v.toNat, by omega⟩
    have zr := HM.out Vp.out
    have hk : k < S.model.length := by omega
    obtain ⟨gm, hgm, sm, -⟩ := HH.out.Rj hk false
    have LM : (k : Int) < (S.model.length : Int) := by omega
    have HF : Hid (VB = S.model[k]!) := by rw [QK.out, decide_eq_true h1, decide_eq_true h2, Int.toNat_natCast]; rfl
    obtain ⟨mb, vP⟩ : ∃ mb, S.model[k]! = mb := ⟨_, rfl⟩
    rw [vP] at sm HF
    have hf := HF.out
    subst hf
    rw [hgm] at c6
    clear vP zr
    go_enter Tryz.func149, Tryz.ntmps149
    go_wp2_with fail
    refine KM.out.mono ?_
    rintro e w1 ⟨rfl, rfl⟩
    go_wp2_with fail
    go_ret
    exact ⟨rfl, rfl⟩
   ·have HF : Hid (VB = false) := by rw [QK.out, decide_eq_false h2]; show _ = _; simp
    have hf := HF.out
    subst hf
    go_enter Tryz.func149, Tryz.ntmps149
    go_wp2_with fail
    refine KM.out.mono ?_
    rintro e w1 ⟨rfl, rfl⟩
    go_wp2_with fail
    go_ret
    exact ⟨rfl, rfl⟩
  ·have HF : Hid (VB = false) := by rw [QK.out, decide_eq_false h1]; show _ = _; simp
   have hf := HF.out
   subst hf
   go_enter Tryz.func149, Tryz.ntmps149
   go_wp2_with fail
   refine KM.out.mono ?_
   rintro e w1 ⟨rfl, rfl⟩
   go_wp2_with fail
   go_ret
   exact ⟨rfl, rfl⟩
end Go.Proofs.YtpjbaobgnhjgoaaGreat
namespace Go.Proofs.YtpjbaobgnhjgoaaGreat
open Go.RowKit Go.Sort
def Dt (x : Int) : List Int → List Int
 | [] => [x]
 | y :: r => if ltOf qw y x = true then y :: Dt x r else x :: y :: r
def isI (xs : List Int) : List Int := xs.foldr Dt []
theorem qD (x : Int) : ∀ l, (Dt x l).Perm (x :: l)
 | [] => cN _
 | y :: r => by
  rw [Dt]
  split
  ·exact ((qD x r).cons y).trans (List.Perm.swap x y r)
  ·exact cN _
theorem As : ∀ xs, (isI xs).Perm xs
 | [] => cN _
 | x :: r => (qD x _).trans ((As r).cons x)
def tZ (x y : Int) : Bool := !(ltOf qw) y x
theorem xb (x y : Int) : (tZ x y || tZ y x) = true := by
 unfold tZ
 rw [mM, mM]
 simp only [Bool.or_eq_true, Bool.not_eq_true', fc, Bool.and_eq_false_iff, decide_eq_false_iff_not]
 omega
theorem xa (x y z : Int) (h1 : tZ x y = true) (h2 : tZ y z = true) : tZ x z = true := by
 unfold tZ at *
 rw [mM] at *
 simp only [Bool.not_eq_true', fc, Bool.and_eq_false_iff, decide_eq_false_iff_not] at *
 omega
theorem KU (x y : Int) (h1 : tZ x y = true) (h2 : tZ y x = true) : x = y := by
 unfold tZ at *
 simp only [Bool.not_eq_true'] at *
 exact wT x y h2 h1
theorem rh (x : Int) : ∀ l : List Int, l.Pairwise (fun a b => tZ a b = true) → (Dt x l).Pairwise (fun a b => tZ a b = true)
 | [], _ => by simp [Dt]
 | y :: r, h => by
  rw [Dt]
  have hy := List.pairwise_cons.1 h
  split
  ·rename_i hl
   refine List.pairwise_cons.2 ⟨fun b hb => ?_, rh x r hy.2⟩
   rcases ay.1 ((qD x r).mem_iff.1 hb) with rfl | hb
   ·have := xb y b
    unfold tZ at this ⊢
    rw [hl] at this
    simpa using this
   ·exact hy.1 b hb
  ·rename_i hl
   have Ju : tZ x y = true := by unfold tZ; simpa using hl
   refine List.pairwise_cons.2 ⟨fun b hb => ?_, h⟩
   rcases ay.1 hb with rfl | hb
   ·exact Ju
   ·exact xa x y b Ju (hy.1 b hb)
theorem ov : ∀ xs, (isI xs).Pairwise (fun a b => tZ a b = true)
 | [] => List.Pairwise.nil
 | x :: r => rh x _ (ov r)
theorem wL : ∀ (a b : List Int), a.Perm b → a.Pairwise (fun a b => tZ a b = true) → b.Pairwise (fun a b => tZ a b = true) → a = b
 | [], b, h, _, _ => (List.nil_perm.1 h).symm ▸ rfl
 | x :: a, [], h, _, _ => absurd h.length_eq (by simp)
 | x :: a, y :: b, h, ha, hb => by
  have h1 := List.pairwise_cons.1 ha
  have h2 := List.pairwise_cons.1 hb
  have Ju : x = y := by
   rcases ay.1 (h.mem_iff.1 (bY)) with e | e
   ·exact e
   ·rcases ay.1 (h.mem_iff.2 (bY)) with e2 | e2
    ·exact e2.symm
    ·exact KU x y (h1.1 y e2) (h2.1 x e)
  subst Ju
  rw [wL a b (h.cons_inv) h1.2 h2.2]
theorem Al (xs : List Int) : jV xs = isI xs := by
 refine wL _ _ ((List.mergeSort_perm xs _).trans (As xs).symm) ?_ (ov xs)
 exact List.pairwise_mergeSort (le := fun x y => tZ x y) (fun a b c => xa a b c) (fun a b => xb a b) xs
def OM (xs : List Int) : List Int := Qy (isI (xs.filter fun x => !(x == 0)))
theorem SP (xs : List Int) : nrm xs = OM xs := by unfold nrm OM; rw [Al]
namespace Sv
def UK (S : Sv) (l : List Int) : Sv × Int :=
 if kK S.vars l = 0 then (if S.wM (OM l) = true then S.bD else S.bD.gZ (S.leftOf (OM l)), 0) else (S, kK S.vars l)
theorem QH (S : Sv) (l : List Int) : S.fM l = S.UK l := by unfold fM UK; rw [SP]
def UJ (budget : Int) (n : Nat) (K : Sv → Option (Sv × Int)) : Option (Sv × Bool) → Option (Sv × Int)
 | none => none
 | some (S2, false) => some (S2, 2)
 | some (S2, true) => if budget < (n + 1 : Nat) then some (S2, 0) else K S2
end Sv
structure Own (w0 w : World) (L : aH) (S : Sv) : Prop where
 sv : aK w L S
 nw : ∀ k, k < w0.heap.size → (L.cv k).1 ≠ L.id
 fr : Fr [] w0 w
theorem Own.keep {w0 w w' : World} {L : aH} {S : Sv} (h : Own w0 w L S) (hf : Fr [] w w') : Own w0 w' L S := ⟨h.sv.keep hf, h.nw, h.fr.ag hf⟩
theorem Own.seal {w0 w : World} {L : aH} {S : Sv} (h : Own w0 w L S) : Own w0 w (L.seal w) S :=
 ⟨h.sv.seal, fun k hk => by
  simp only [aH.seal]
  rw [if_pos (aQ hk h.fr.size)]
  exact h.nw k hk, h.fr⟩
theorem Own.next {w0 w w' : World} {L L' : aH} {S S' : Sv} (h : Own w0 w L S) (h' : aK w' L' S') (he : L.ext L' w) (hf : Fr (L.own w) w w') : Own w0 w' L' S' :=
 ⟨h', fun k hk e => h.nw k hk (he.2.2 k (aQ hk h.fr.size) (e.trans he.2.1)), h.fr.trans hf (fun k hk => by
  rcases bl k w0.heap.size with h1 | h1
  ·exact absurd (aH.bI.1 hk).2 (h.nw k h1)
  ·exact .inr h1)⟩
def OwP (v : Value) (S' : Sv) (a : Nat) (w0 : World) (e : Ending) (w' : World) : Prop := e = .returned v ∧ ∃ L', L'.a = a ∧ Own w0 w' L' S'
theorem Own.of {w0 w : World} {L : aH} {S S' : Sv} {v : Value} {e : Ending} {w' : World} (h : Own w0 w L S) (k : me v S' L w e w') : OwP v S' L.a w0 e w' := by
 obtain ⟨rfl, L', h1, h2, h3⟩ := k
 exact ⟨rfl, L', h2.1, h.next h1 h2 h3⟩
theorem OI (w : World) (vars : Int) (h0 : -9223372036854775808 ≤ vars) (h1 : vars ≤ 9223372036854775807) :
  Calls Tryz.prog 69 #[.int .i64 vars] w fun e w' => ∃ L : aH, e = .returned (.pointer (some ⟨L.a, 0, none⟩)) ∧ Own w w' L (Sv.new vars) :=
 (GY w vars h0 h1).mono fun e w' ⟨L, he, h2, h3, h4⟩ => ⟨L, he, h2, h3, h4⟩
theorem Sv.Ok.new (vars : Int) : (Sv.new vars).Ok 0 ∧ (Sv.new vars).vars = (min (max vars 0) 262143).toNat := by
 refine ⟨Sv.Ok.grow Sv.Ok.bare _ (by show 0 + _ ≤ 262143; omega), ?_⟩
 show 0 + _ = _
 omega
end Go.Proofs.YtpjbaobgnhjgoaaGreat
namespace Go.Proofs.YtpjbaobgnhjgoaaGreat
open Go.RowKit
theorem gM (w : World) (xs : List Int) (h : xs.length ≤ maxLen) : Ints (w.alloc (.cells (xs.map (Value.int .i64)).toArray 3)) (some ⟨w.heap.size, 0, none⟩) xs.length xs := by
 have := World.ownsRow_lit (base := 0) (e := 3) (size := 1) w (xs.map (Value.int .i64)).toArray xs.length (bV _) h (by simp)
 unfold Ints
 simpa using this
def OsP (Q : Sv → Int → Prop) (a : Nat) (w0 : World) (e : Ending) (w' : World) : Prop := ∃ (S' : Sv) (r : Int), Q S' r ∧ S'.Ok 0 ∧ OwP (.int .i64 r) S' a w0 e w'
theorem Own.solve {w0 w : World} {L : aH} {S : Sv} (h : Own w0 w L S) (red : Bool) (EV : red = true → QI) (ok : S.Ok 0) (A : Option Addr) (c : Nat) (us : List Int) (vN : B8 w L A us) (oP : Ra us) (sl : us.length ≤ c) (vo : us.length ≤ 1099511627776) (budget : Int) (D C : Nat) (Q : Sv → Int → Prop) (zq : S.used < 4611686018427387904) (hW : S.tC red budget us D C Q) :
  Calls Tryz.prog 39 #[.pointer (some ⟨L.a, 0, none⟩), .int .i64 budget, .slice A us.length c] w (OsP Q L.a w0) :=
 (zZ red EV w L S h.sv ok A c us vN oP sl vo budget D C Q zq hW).mono fun _ _ ⟨S', r, hq, ho, k⟩ => ⟨S', r, hq, ho, h.of k⟩
def I9 (x y : Int) : Prop := fN x < fN y ∨ (fN x = fN y ∧ x < y)
theorem I9.trans {x y z : Int} (h : I9 x y) (k : I9 y z) : I9 x z := by unfold I9 at *; omega
theorem SX {x y : Int} (h : tZ x y = true) (hn : x ≠ y) : I9 x y := by
 unfold tZ at h
 rw [mM] at h
 simp only [Bool.not_eq_true', fc, Bool.and_eq_false_iff, decide_eq_false_iff_not] at h
 unfold I9
 omega
theorem rE {xs : List Int} (hs : xs.Pairwise (fun a b => tZ a b = true)) : ∀ k, k ≤ xs.length → (fL xs k).Pairwise I9 ∧ ∀ y ∈ fL xs k, y = xs[k - 1]! ∨ I9 y xs[k - 1]!
 | 0, _ => ⟨List.Pairwise.nil, fun y hy => by cases hy⟩
 | k + 1, hk => by
  obtain ⟨h1, h2⟩ := rE hs k (by omega)
  rw [fL, eo]
  by_cases h0 : k = 0
  ·subst h0
   rw [if_pos (.inl rfl)]
   exact ⟨by simp [fL], fun y hy => .inl (by simpa [fL] using hy)⟩
  ·have hle : tZ xs[k - 1]! xs[k]! = true := by
    rw [pK (by omega), pK (by omega)]
    exact List.pairwise_iff_getElem.1 hs (k - 1) k (by omega) (by omega) (by omega)
   by_cases he : xs[k]! ≠ xs[k - 1]!
   ·rw [if_pos (.inr he)]
    have bM := SX hle (fun e => he e.symm)
    have jd : ∀ y ∈ fL xs k, I9 y xs[k]! := fun y hy => by
     rcases h2 y hy with h3 | h3
     ·rw [h3]; exact bM
     ·exact h3.trans bM
    refine ⟨?_, fun y hy => ?_⟩
    ·rw [List.pairwise_append]
     exact ⟨h1, List.pairwise_singleton _ _, fun y hy z hz => by rw [an.1 hz]; exact jd y hy⟩
    ·rcases aj.1 hy with h3 | h3
     ·exact .inr (jd y h3)
     ·exact .inl (an.1 h3)
   ·rw [if_neg (fun h => h.elim h0 he)]
    have he : xs[k]! = xs[k - 1]! := Classical.byContradiction he
    rw [he]
    exact ⟨h1, h2⟩
theorem Gq {x : Int} {v : Nat} (h1 : -(v : Int) ≤ x) (h2 : x ≤ v) (hv : v ≤ 262143) : fN x = tv x ∧ tv x = if x < 0 then -x else x := by
 have : wrap64 (-x) = -x := by unfold wrap64; omega
 unfold fN tv
 rw [this, if_neg (by omega : ¬ x = -9223372036854775808)]
 constructor
 ·split <;> split <;> omega
 ·rfl
theorem Km {l : List Int} {v : Nat} (hr : ∀ x ∈ nrm l, -(v : Int) ≤ x ∧ x ≤ v) (hv : v ≤ 262143) (ht : qR (nrm l) = false) : ((nrm l).map tv).Nodup := by
 have hs : (nrm l).Pairwise I9 := (rE (by rw [Al]; exact ov _) _ (ao _)).1
 generalize nrm l = ys at *
 have YI : ∀ i, i + 1 < ys.length → tv ys[i]! < tv ys[i + 1]! := fun i hi => by
  have h1 : I9 ys[i]! ys[i + 1]! := by
   rw [pK (by omega), pK (by omega)]
   exact List.pairwise_iff_getElem.1 hs i (i + 1) (by omega) (by omega) (by omega)
  have hx := hr _ (get_mem (l := ys) (i := i) (by omega))
  have hy := hr _ (get_mem (l := ys) (i := i + 1) (by omega))
  have N0 : la ys i = false := by
   unfold qR at ht
   cases hq : la ys i with
   | false => rfl
   | true =>
    exfalso
    have : (List.range (ys.length - 1)).any (la ys) = true := List.any_eq_true.2 ⟨i, gG.2 (by omega), hq⟩
    rw [this] at ht
    cases ht
  unfold la at N0
  generalize ys[i]! = x at *
  generalize ys[i + 1]! = y at *
  have hax := Gq hx.1 hx.2 hv
  have hay := Gq hy.1 hy.2 hv
  have hw : wrap64 (-y) = -y := by unfold wrap64; omega
  rw [hw] at N0
  have dN : x ≠ -y := by simpa using N0
  unfold I9 at h1
  rw [hax.1, hay.1] at h1
  rw [hax.2, hay.2] at h1 ⊢
  split at h1 <;> split at h1 <;> omega
 have FW : ∀ d i, i + d + 1 < ys.length → tv ys[i]! < tv ys[i + d + 1]! := by
  intro d
  induction d with
  | zero => exact YI
  | succ d ih =>
   intro i hi
   have h1 := ih i (by omega)
   have h2 := YI (i + d + 1) (by omega)
   have : i + (d + 1) + 1 = i + d + 1 + 1 := by omega
   rw [this]
   omega
 unfold List.Nodup
 rw [List.pairwise_map, List.pairwise_iff_getElem]
 intro i j hi hj rt
 have := FW (j - i - 1) i (by omega)
 rw [show i + (j - i - 1) + 1 = j by omega, pK hi, pK hj] at this
 omega
namespace Sv
theorem Inv.bD {S : Sv} (h : S.Inv) : S.bD.Inv := h.congr h.ok.bD rfl rfl (fun _ => rfl) rfl
theorem Inv.cw {S : Sv} (h : S.Inv) : S.cw.Inv := h.congr h.ok.cw rfl rfl (fun _ => rfl) rfl
theorem Inv.gZ {S : Sv} (h : S.Inv) (h0 : S.T.levels.length = 0) {out : List Int} (h1 : out.length ≤ 1048576) (hl : ∀ x ∈ out, x ≠ 0 ∧ -(S.vars : Int) ≤ x ∧ x ≤ S.vars) (hd : (out.map tv).Nodup) (hv : ∀ x ∈ out, S.val x = 0) (hr : S.list.length < 2199023255552) :
  (S.gZ out).Inv ∧ (S.gZ out).T.levels.length = 0 := by
 unfold Sv.gZ
 by_cases e0 : out.length = 0
 ·rw [if_pos e0]
  exact ⟨h.congr (h.ok.xY true) rfl rfl (fun _ => rfl) rfl, h0⟩
 ·rw [if_neg e0]
  have hm := get_mem (l := out) (i := 0) (by omega)
  by_cases e1 : out.length = 1
  ·rw [if_pos e1]
   have ht := Fs (hl _ hm).1 (hl _ hm).2.1 (hl _ hm).2.2 h.ok.vl
   exact ⟨(h.put (r := 0) (pr h.ok ht.1 ht.2 (hv _ hm)) (by omega) (fun h => absurd rfl h) (fun _ => .inl h0)).1, by rw [dz]; exact h0⟩
  ·rw [if_neg e1]
   have lX := get_mem (l := out) (i := 1) (by omega)
   obtain ⟨k1, k2, k3⟩ := h.attach ⟨by omega, h1, hl⟩ hd false hr
   have hs := ed S out false
   refine ⟨k1.whole ?_, by rw [hs.1]; exact h0⟩
   intro dN e he
   rw [k2]
   have Um : e ∈ S.R := by
    have := List.mem_of_mem_take he
    rw [nv hs.1] at this
    exact this
   exact ⟨fun hx => absurd hx (o5 h.ok (hv _ hm) e Um).2, fun hx => absurd hx (o5 h.ok (hv _ lX) e Um).2⟩
theorem Inv.fM {S : Sv} (h : S.Inv) (h0 : S.T.levels.length = 0) {l : List Int} (oP : Ra l) (hr : S.list.length < 2199023255552) : (S.fM l).1.Inv ∧ (S.fM l).1.T.levels.length = 0 := by
 unfold Sv.fM
 split
 ·rename_i hc
  split
  ·exact ⟨h.bD, h0⟩
  ·rename_i hs
   obtain ⟨h1, h2⟩ := tV (S := S) oP hc
   have hs : S.wM (nrm l) = false := by simpa using hs
   unfold wM at hs
   rw [fc] at hs
   have Bk := yW oP hc
   have hd := Km (l := l) (v := S.vars) (fun x hx => (Bk.2 x (sJ hx).1).2) h.ok.vl hs.1
   refine h.bD.gZ h0 (by omega) h2 ?_ (fun x hx => ?_) hr
   ·unfold leftOf
    exact hd.sublist (List.Sublist.map tv (List.filter_sublist))
   ·unfold leftOf at hx
    rw [List.mem_filter] at hx
    have h3 : ¬ S.val x < 0 := by simpa using hx.2
    have h4 : ¬ 0 < S.val x := fun h5 => by
     have : (nrm l).any (fun x => decide (0 < S.val x)) = true := List.any_eq_true.2 ⟨x, hx.1, by simpa using h5⟩
     rw [this] at hs
     cases hs.2
    show S.val x = 0
    omega
 ·exact ⟨h, h0⟩
theorem I4 (S : Sv) (l : List Int) : (S.fM l).1.used = S.used ∧ (S.fM l).1.bump = S.bump ∧ (S.fM l).1.many = S.many ∧ (S.fM l).1.bU = S.bU ∧ (S.fM l).1.list.length ≤ S.list.length + 1 := by
 unfold fM
 split
 ·split
  ·exact ⟨rfl, rfl, rfl, rfl, by show S.list.length ≤ _; omega⟩
  ·unfold gZ
   split
   ·exact ⟨rfl, rfl, rfl, rfl, by show S.list.length ≤ _; omega⟩
   ·split
    ·exact ⟨rfl, rfl, rfl, rfl, by show S.list.length ≤ _; omega⟩
    ·refine ⟨rfl, rfl, rfl, rfl, ?_⟩
     have := (ed S.bD (S.leftOf (nrm l)) false).2.2.1
     rw [this]
     show S.list.length + 1 ≤ _
     omega
 ·exact ⟨rfl, rfl, rfl, rfl, by show S.list.length ≤ _; omega⟩
theorem Inv.new (vars : Int) : (Sv.new vars).Inv ∧ (Sv.new vars).T.levels.length = 0 ∧ (Sv.new vars).many = 0 ∧ (Sv.new vars).bU = 400 ∧ (Sv.new vars).list = [] ∧ (Sv.new vars).used = 0 ∧ (Sv.new vars).bump = 1 := by
 have ok := (Sv.Ok.new vars).1
 have hR : (Sv.new vars).R = [] := rfl
 have fm : ∀ n, (Sv.new vars).rc n = ⟨[], false, 0⟩ := fun n => oh (bV _)
 have hw : ∀ c, (Sv.new vars).eX c = [] := fun c => by
  have : (Sv.new vars).watch = List.replicate 2 [] ++ List.replicate (2 * (min (max vars 0) 262143).toNat) [] := rfl
  unfold eX
  rw [this, List.replicate_append_replicate, ae, List.getElem?_replicate]
  split <;> rfl
 refine ⟨⟨ok, fun n => by rw [fm]; exact List.nodup_nil, fun A e B h1 h2 => ?_, fun A e B h1 h2 => ?_, fun e he => ?_, ⟨fun c => by rw [hw]; exact List.nodup_nil, fun c n hn => ?_, fun n hl => ?_⟩, fun n hl => ?_⟩, rfl, rfl, rfl, rfl, rfl, rfl⟩
 ·rw [hR] at h1; simp at h1
 ·rw [hR] at h1; simp at h1
 ·rw [hR] at he; simp at he
 ·rw [hw] at hn; cases hn
 ·rw [fm] at hl; exact absurd rfl hl
 ·rw [fm] at hl; exact absurd rfl hl
end Sv
theorem xt (met : List Int) : ∀ (us core : List Int), (Sv.jF met us core).length ≤ core.length + us.length
 | [], core => by simp [Sv.jF]
 | x :: r, core => by
  rw [Sv.jF]
  have := xt met r (if x ∈ met ∧ x ∉ core then core ++ [x] else core)
  split at this
  ·simp at this ⊢; split <;> simp_all <;> omega
  ·simp at this ⊢; split <;> simp_all <;> omega
namespace Sv
theorem xv (level : Int) : ∀ (r : List Int) (S : Sv), (dy level r S).has = S.has ∧ (dy level r S).model = S.model
 | [], S => ⟨rfl, rfl⟩
 | l :: r, S => by
  rw [dy]
  split
  ·exact ⟨rfl, rfl⟩
  ·exact xv level r _
theorem uW (S : Sv) (level : Nat) : (S.back level).has = S.has ∧ (S.back level).model = S.model := by
 unfold back
 split
 ·exact ⟨rfl, rfl⟩
 ·exact xv _ _ _
theorem Dq (S : Sv) (l : List Int) : (S.bW l).cX.has = S.has := by
 unfold bW
 split
 ·rfl
 ·rfl
structure Fin (us : List Int) (S : Sv) : Prop where
 inv : S.Inv
 model : S.has = true → S.model.length = S.vars + 1
 core : S.core.length ≤ us.length
theorem uT {S : Sv} {us : List Int} (h : S.Inv) (hf : S.head = S.T.lits.length) (hh : S.has = false) (hc : S.core = []) : Fin us S.choose.1 ∧ (S.choose.2 = 0 → S.choose.1.has = false) := by
 have hI := (choose_spec h hf).1
 have Bj := (iy S).1
 have iX : S.choose.1.core.length ≤ us.length := by rw [Bj, hc]; exact bV _
 have hph : ∀ (f : Nat) (S : Sv), (cW f S).1.has = S.has := by
  intro f
  induction f with
  | zero => intro S; rfl
  | succ f ih =>
   intro S
   rw [cW]
   split
   ·rfl
   ·simp only
    split
    ·exact ih _
    ·rfl
 have hp : S.pick.1.has = false := (hph _ S).trans hh
 unfold choose at hI iX ⊢
 by_cases h0 : S.pick.2 = 0
 ·rw [if_pos h0] at hI iX ⊢
  exact ⟨⟨hI, fun _ => by simp [Sv.keep], iX⟩, fun h => by cases h⟩
 ·rw [if_neg h0] at hI iX ⊢
  have e : (S.pick.1.deep.put S.pick.2 0).has = false := hp
  exact ⟨⟨hI, fun h => by
   have h : (S.pick.1.deep.put S.pick.2 0).has = true := h
   rw [e] at h; exact Bool.noConfusion h, iX⟩, fun _ => e⟩
theorem rD {us : List Int} : ∀ (f : Nat) (S : Sv), S.Inv → S.head = S.T.lits.length → (∀ x ∈ us, x ≠ 0 ∧ -(S.vars : Int) ≤ x ∧ x ≤ S.vars) → S.has = false → S.core = [] → Fin us (bQ us f S).1 ∧ ((bQ us f S).2 = 0 → (bQ us f S).1.has = false)
 | 0, S, h, hf, hu, hh, hc => uT h hf hh hc
 | f + 1, S, h, hf, hu, hh, hc => by
  rw [bQ]
  split
  ·rename_i hd
   have ha := hu _ (get_mem (l := us) hd)
   simp only
   split
   ·refine ⟨⟨h.congr (h.ok.mY _) rfl rfl (fun _ => rfl) rfl, fun h => ?_, ?_⟩, fun h => by cases h⟩
    ·have h : S.has = true := h
     rw [hh] at h; cases h
    ·show (jF _ us S.core).length ≤ us.length
     have := xt (S.dP S.T.lits.reverse [tv us[S.T.levels.length]!] [us[S.T.levels.length]!]) us S.core
     rw [hc] at this ⊢
     simpa using this
   ·split
    ·rename_i h1 h2
     obtain ⟨k1, k2⟩ := h.choice hf ha.1 ha.2.1 ha.2.2 h2
     exact ⟨⟨k1, fun h => by
      have h : S.has = true := h
      rw [hh] at h; exact Bool.noConfusion h, by show S.core.length ≤ _; rw [hc]; exact bV _⟩, fun _ => hh⟩
    ·exact rD f S.deep (h.deep hf) hf hu hh hc
  ·exact uT h hf hh hc
theorem Aa {S : Sv} (h : S.Inv) (hf : S.head = S.T.lits.length) (n next : Nat) : (S.cH n next).Inv ∧ (S.cH n next).head = (S.cH n next).T.lits.length := by
 unfold Sv.cH
 split
 ·refine ⟨h.back 0, ?_⟩
  by_cases hl : 0 < S.T.levels.length
  ·obtain ⟨b1, b2, b3, b4, B, b5, b6, b7⟩ := uX h.ok hl
   have h1 : (S.back 0).R.length ≤ S.R.length := by rw [b5]; simp
   have h2 := iD S
   have h3 := iD (S.back 0)
   rw [b4]
   omega
  ·have : S.back 0 = S := by
    unfold Sv.back
    rw [if_pos (by omega)]
   rw [this]
   exact hf
 ·exact ⟨h, hf⟩
def mu (S : Sv) (next n : Nat) : Nat := S.vars - S.T.lits.length + (if next ≤ n then S.vars + 2 else 0)
end Sv
namespace Sv
theorem SE {vars : Nat} {us : List Int} (hr : Ra us) (h : us.any (fI vars) = false) : ∀ x ∈ us, x ≠ 0 ∧ -(vars : Int) ≤ x ∧ x ≤ vars := fun x hx => by
 have h3 : fI vars x = false := by
  cases h4 : fI vars x with
  | false => rfl
  | true =>
   have : us.any (fI vars) = true := List.any_eq_true.2 ⟨x, hx, h4⟩
   rw [this] at h
   cases h
 unfold fI at h3
 simp only [fc, decide_eq_false_iff_not] at h3
 have h5 := xK ((eN (p := dB)).1 hr x hx)
 exact ⟨tu (by omega), by omega, by omega⟩
end Sv
structure Ls where
 A : Option Addr
 c : Nat
 l : List Int
instance : Inhabited Ls := ⟨⟨none, 0, []⟩⟩
def Ls.val (h : Ls) : Value := .slice h.A h.l.length h.c
def N6 (w : World) (h : Ls) : Prop := Rd w h.A h.l ∧ Ra h.l ∧ h.l.length ≤ 17592186044416 ∧ (h.A = none → h.l.length = 0 ∧ h.c = 0)
theorem N6.keep {w w' : World} {h : Ls} (k : N6 w h) (hf : Fr [] w w') : N6 w' h := ⟨k.1.keep hf, k.2⟩
def CC (w : World) (A : Option Addr) (hs : List Ls) : Prop := (0 < hs.length → ∃ b o, A = some ⟨b, o, none⟩ ∧ ∀ j : Nat, j < hs.length → w.cell? ⟨b, o + j, none⟩ = some (hs[j]!).val) ∧ ∀ j : Nat, j < hs.length → N6 w hs[j]!
theorem CC.keep {w w' : World} {A : Option Addr} {hs : List Ls} (k : CC w A hs) (hf : Fr [] w w') : CC w' A hs := by
 refine ⟨fun h0 => ?_, fun j hj => (k.2 j hj).keep hf⟩
 obtain ⟨b, o, hA, hx⟩ := k.1 h0
 exact ⟨b, o, hA, fun j hj => hf.av (hx j hj)⟩
theorem CC.one {w : World} {A : Option Addr} {hs : List Ls} (k : CC w A hs) {j : Nat} (hj : j < hs.length) : ∃ b o B d l, A = some ⟨b, o, none⟩ ∧ Hid (hs[j]! = ⟨B, d, l⟩) ∧ w.cell? ⟨b, o + j, none⟩ = some (.slice B l.length d) ∧ N6 w ⟨B, d, l⟩ := by
 obtain ⟨b, o, hA, hx⟩ := k.1 (by omega)
 exact ⟨b, o, _, _, _, hA, rfl, hx j hj, k.2 j hj⟩
theorem Dm {hs : List Ls} {k : Nat} (h : k < hs.length) : (hs.map (·.l)).drop k = (hs[k]!).l :: (hs.map (·.l)).drop (k + 1) := by
 rw [List.drop_eq_getElem_cons (by simpa using h), List.getElem_map]
 simp only [ae, af h, aq]
theorem I3 (S : Sv) (l : List Int) : (S.fM l).2 = kK S.vars l := by
 unfold Sv.fM
 split
 ·rename_i h; exact h.symm
 ·rfl
theorem Own.old {w w1 w2 : World} {L : aH} {S : Sv} (h : Own w1 w2 L S) (hf : Fr [] w w1) : Own w w2 L S :=
 ⟨h.sv, fun k hk => h.nw k (aQ hk hf.size), hf.ag h.fr⟩
structure OwnX (X : List Nat) (w0 w : World) (L : aH) (S : Sv) : Prop where
 own : Own w0 w L S
 fx : ∀ k ∈ X, k < w.heap.size ∧ (L.cv k).1 ≠ L.id
def Stay (X : List Nat) (w w' : World) : Prop := ∃ T, Fr T w w' ∧ ∀ k ∈ X, k ∉ T
namespace Stay
variable {X : List Nat} {w w' w2 : World}
theorem of (h : Fr [] w w') : Stay X w w' := ⟨[], h, fun _ _ hm => by cases hm⟩
theorem rd (h : Stay X w w') {A : Option Addr} {xs : List Int} (hr : Rd w A xs) (hx : ∀ k, k ∈ ah A → k ∈ X) : Rd w' A xs := by
 obtain ⟨T, h1, h2⟩ := h
 intro h0
 obtain ⟨b, o, rfl, h3⟩ := hr h0
 refine ⟨b, o, rfl, fun j hj => ?_⟩
 have h4 := h3 j hj
 rw [World.cell?_of_block (h1.block b (bt h4) (h2 b (hx b (by simp [ah]))))]
 exact h4
theorem ag (h : Stay X w w') (h' : Stay X w' w2) (hX : ∀ k ∈ X, k < w.heap.size) : Stay X w w2 := by
 obtain ⟨T, h1, h2⟩ := h
 obtain ⟨T', h3, h4⟩ := h'
 refine ⟨T ++ T', ⟨h3.os.trans h1.os, h3.tape.trans h1.tape, h3.output.trans h1.output, aE h1.size h3.size, fun k hk hm => ?_⟩, fun k hk hm => ?_⟩
 ·simp only [aj, not_or] at hm
  exact (h3.block k (aQ hk h1.size) hm.2).trans (h1.block k hk hm.1)
 ·rcases aj.1 hm with h5 | h5
  ·exact h2 k hk h5
  ·exact h4 k hk h5
end Stay
def OxP (X : List Nat) (v : Value) (S' : Sv) (a : Nat) (w0 w : World) (e : Ending) (w' : World) : Prop := e = .returned v ∧ ∃ L', L'.a = a ∧ OwnX X w0 w' L' S' ∧ Stay X w w'
namespace OwnX
variable {X : List Nat} {w0 w w' : World} {L L' : aH} {S S' : Sv}
theorem next (h : OwnX X w0 w L S) (h' : aK w' L' S') (he : L.ext L' w) (hf : Fr (L.own w) w w') : OwnX X w0 w' L' S' ∧ Stay X w w' :=
 ⟨⟨h.own.next h' he hf, fun k hk => ⟨aQ (h.fx k hk).1 hf.size, fun e => (h.fx k hk).2 (he.2.2 k (h.fx k hk).1 (e.trans he.2.1))⟩⟩,
  ⟨L.own w, hf, fun k hk hm => (h.fx k hk).2 (aH.bI.1 hm).2⟩⟩
theorem of {v : Value} {e : Ending} (h : OwnX X w0 w L S) (k : me v S' L w e w') : OxP X v S' L.a w0 w e w' := by
 obtain ⟨rfl, L', h1, h2, h3⟩ := k
 obtain ⟨h4, h5⟩ := h.next h1 h2 h3
 exact ⟨rfl, L', h2.1, h4, h5⟩
theorem more (h : OwnX X w0 w L S) (hf : Fr [] w w') {Y : List Nat} (hY : ∀ k ∈ Y, w.heap.size ≤ k ∧ k < w'.heap.size) : OwnX (X ++ Y) w0 w' (L.seal w) S :=
 ⟨h.own.seal.keep hf, fun k hk => by
  rcases aj.1 hk with h1 | h1
  ·exact ⟨aQ (h.fx k h1).1 hf.size, by rw [aH.tD (h.fx k h1).1]; exact (h.fx k h1).2⟩
  ·exact ⟨(hY k h1).2, aH.gJ (hY k h1).1⟩⟩
theorem Qs (h : OwnX X w0 w L S) {A : Option Addr} {xs : List Int} (hr : Rd w A xs) (hx : ∀ k, k ∈ ah A → k ∈ X) : B8 w L A xs := ⟨hr, fun _ k hk => (h.fx k (hx k hk)).2⟩
theorem add (h : OwnX X w0 w L S) (ok : S.Ok 0) (A : Option Addr) (c : Nat) (l : List Int) (vN : B8 w L A l) (oP : Ra l) (hn : A = none → c = 0) (hr : S.list.length < 2199023255552) (hu : S.used ≤ 2199023255552) :
  Calls Tryz.prog 96 #[.pointer (some ⟨L.a, 0, none⟩), .slice A l.length c] w (OxP X (.int .i64 (S.fM l).2) (S.fM l).1 L.a w0 w) :=
 (I2 w L S h.own.sv ok A c l vN oP hn hr hu).mono fun _ _ k => h.of k
end OwnX
theorem Own.mark {w0 w w' : World} {L : aH} {S : Sv} (h : Own w0 w L S) (hf : Fr [] w w') {Y : List Nat} (hY : ∀ k ∈ Y, w.heap.size ≤ k ∧ k < w'.heap.size) : OwnX Y w0 w' (L.seal w) S :=
 (OwnX.mk (X := []) h (fun k hk => by cases hk)).more hf hY
namespace Sv
def Di (r : Rc) : Bool := r.jI && !r.lits.isEmpty
def rX (S : Sv) : Nat := S.list.countP Di
theorem Kp (S : Sv) : S.rX ≤ S.list.length := List.countP_le_length
theorem Kq {S S' : Sv} (hl : S'.list.length = S.list.length) (h : ∀ n, (S'.rc n).lits.isEmpty = (S.rc n).lits.isEmpty ∧ (S'.rc n).jI = (S.rc n).jI) : S'.rX = S.rX := by
 have e : S'.list.map Di = S.list.map Di := by
  refine List.ext_getElem (by simpa using hl) fun n h1 h2 => ?_
  simp only [ax] at h1 h2
  simp only [List.getElem_map]
  have k := h n
  simp only [rc, ae, af h1, af h2, aq] at k
  unfold Di
  rw [k.1, k.2]
 have c : ∀ l : List Rc, l.countP Di = (l.map Di).countP id := fun l => by rw [List.countP_map]; rfl
 unfold rX
 rw [c, c, e]
theorem tP {S S' : Sv} (h : S'.list = S.list) : S'.rX = S.rX := by unfold rX; rw [h]
theorem SQ {S S' : Sv} (hm : Mo S S') (hl : S'.list.length = S.list.length) : S'.rX = S.rX :=
 Kq hl fun n => ⟨by
  have h := (hm.lits n).length_eq
  cases h1 : (S'.rc n).lits <;> cases h2 : (S.rc n).lits <;> simp_all, hm.jI n⟩
theorem Ko {S S' : Sv} (h : S'.li = S.li) : S'.rX = S.rX := by
 have hl : S'.list.map (fun c => (c.lits, c.jI)) = S.list.map fun c => (c.lits, c.jI) := congrArg (fun x => x.2.2.2.2.2.2.2.2.2.2.2.2.2) h
 exact Kq (by have := congrArg List.length hl; simpa using this) fun n => by rw [(xX h n).1, (xX h n).2]; exact ⟨rfl, rfl⟩
theorem Dd (B : Sv) {l : List Int} (h0 : 0 < l.length) (hm : B.many = B.rX) : (B.bW l).cX.many = (B.bW l).cX.rX := by
 unfold bW
 split
 ·exact hm
 ·have hl : Di (⟨l, true, B.used⟩ : Rc) = true := by
   cases l with
   | nil => cases h0
   | cons a r => rfl
  have e : (({ ((B.attach l true).put l[0]! (B.list.length + 1)) with many := B.many + 1 } : Sv).cX).rX = B.rX + 1 := by
   show (B.list ++ [(⟨l, true, B.used⟩ : Rc)]).countP Di = _
   rw [List.countP_append, List.countP_singleton, hl]
   rfl
  rw [e]
  show B.many + 1 = _
  rw [hm]
  omega
theorem GX {S : Sv} {n : Nat} (hn : n < S.list.length) (hl : (S.rc n).jI = true ∧ (S.rc n).lits ≠ []) (hm : S.many = S.rX) : (S.cu n).many = (S.cu n).rX := by
 have he : S.list[n] = S.rc n := by simp only [rc, ae, af hn, aq]
 have hb : Di S.list[n] = true := by
  rw [he]
  unfold Di
  rw [hl.1]
  cases h : (S.rc n).lits with
  | nil => exact absurd h hl.2
  | cons a r => rfl
 have hp : 0 < S.list.countP Di := List.countP_pos_iff.2 ⟨_, List.getElem_mem hn, hb⟩
 show S.many - 1 = (((S.list.set n (⟨[], false, (S.rc n).act⟩ : Rc)).countP Di : Nat) : Int)
 rw [hm, List.countP_set hn, hb]
 show ((S.list.countP Di : Nat) : Int) - 1 = ((S.list.countP Di - 1 + 0 : Nat) : Int)
 omega
theorem Inv.cu {S : Sv} (h : S.Inv) {n : Nat} (hr : ∀ e ∈ S.R, e.r ≠ (n : Int) + 1) : (S.cu n).Inv := by
 have ok := h.ok.cu n
 have fm : ∀ j, j ≠ n → (S.cu n).rc j = S.rc j := fun j hj => by rw [kt, if_neg (fun e => hj e.1.symm)]
 have dN : ∀ j, ((S.cu n).rc j).lits ≠ [] → j ≠ n := fun j hj e => by
  subst e
  rw [kt] at hj
  split at hj
  ·exact hj rfl
  ·rename_i hh
   have : ¬ j < S.list.length := fun e => hh ⟨rfl, e⟩
   exact hj (by rw [oh (by omega)])
 refine ⟨ok, fun j => ?_, fun A e B h1 h2 => ?_, h.dec, h.hd, ⟨h.wi.nd, fun c j hj hl => ?_, fun j hl => ?_⟩, fun j hl e he => ?_⟩
 ·by_cases e : j = n
  ·by_cases hl : ((S.cu n).rc j).lits = []
   ·rw [hl]; exact List.nodup_nil
   ·exact absurd e (dN j hl)
  ·rw [fm j e]; exact h.jE j
 ·obtain ⟨k, hk, ls, oR, jd⟩ := h.wN A e B h1 h2
  have j4 : k ≠ n := fun ek => by
   have := hr e (by rw [show S.R = A ++ e :: B from h1]; simp)
   rw [hk, ek] at this
   exact this rfl
  exact ⟨k, hk, ls, by rw [fm k j4]; exact oR, jd⟩
 ·have := dN j hl
  rw [fm j this] at hl ⊢
  exact h.wi.wd c j hj hl
 ·have := dN j hl
  rw [fm j this] at hl ⊢
  exact h.wi.wc j hl
 ·have := dN j hl
  rw [fm j this] at hl ⊢
  exact h.wt j hl e he
theorem Db {S : Sv} (h : S.Inv) {n : Nat} (hl : S.locked n = false) : ∀ e ∈ S.R, e.r ≠ (n : Int) + 1 := fun e he hr => by
 obtain ⟨A, B, hR⟩ := List.append_of_mem he
 obtain ⟨k, hk, ls, oR, _⟩ := h.wN A e B hR (by omega)
 have j4 : k = n := by omega
 subst j4
 have h0 : (S.rc k).lits[0]! = e.x := by rw [oR]; rfl
 have : S.locked k = true := by
  unfold locked
  rw [h0, (lx h.ok he).2, hr]
  simp only [decide_true, Bool.and_true, decide_eq_true_eq]
  exact (mW h.ok _).2 ⟨e, he, rfl⟩
 rw [this] at hl
 cases hl
theorem uH : ∀ (D : List Nat) (S : Sv), S.Inv → S.many = S.rX → D.Nodup → (∀ n ∈ D, (∀ e ∈ S.R, e.r ≠ (n : Int) + 1) ∧ n < S.list.length ∧ (S.rc n).jI = true ∧ (S.rc n).lits ≠ []) →
  (D.foldl cu S).Inv ∧ (D.foldl cu S).head = S.head ∧ (D.foldl cu S).many = (D.foldl cu S).rX ∧ (D.foldl cu S).used = S.used ∧ (D.foldl cu S).bump = S.bump ∧ (D.foldl cu S).has = S.has ∧ (D.foldl cu S).bad = S.bad
 | [], S, h, hm, _, _ => ⟨h, rfl, hm, rfl, rfl, rfl, rfl⟩
 | n :: r, S, h, hm, hn, hd => by
  rw [gW] at hn
  obtain ⟨h1, h2, h3⟩ := hd n bY
  exact uH r (S.cu n) (h.cu h1) (GX h2 h3 hm) hn.2 (fun m hm => by
   obtain ⟨g1, g2, g3⟩ := hd m (bR _ hm)
   refine ⟨g1, by simpa [Sv.cu] using g2, ?_⟩
   have hnm : ¬ (n = m ∧ n < S.list.length) := fun e => hn.1 (e.1 ▸ hm)
   rw [kt, if_neg hnm]
   exact g3)
theorem tN : ∀ (f : Nat) (S : Sv), (cW f S).1.bump = S.bump
 | 0, S => rfl
 | f + 1, S => by
  rw [cW]
  split
  ·rfl
  ·simp only
   split
   ·exact tN f _
   ·rfl
theorem rF (S : Sv) : S.choose.1.bump = S.bump := by
 have hp : S.pick.1.bump = S.bump := tN _ S
 unfold choose
 split
 ·exact hp
 ·exact hp
theorem pR (us : List Int) : ∀ (f : Nat) (S : Sv), (bQ us f S).1.bump = S.bump
 | 0, S => rF S
 | f + 1, S => by
  rw [bQ]
  split
  ·simp only
   split
   ·rfl
   ·split
    ·rfl
    ·exact pR us f S.deep
  ·exact rF S
def wJ (S : Sv) : Sv := if (S.bU : Int) < S.many then S.WJ.fl else S
def yd (budget : Int) (us : List Int) (K : Nat → Nat → Sv → Option (Sv × Int)) : Nat → Nat → Nat → Sv → Option (Sv × Int)
 | 0, _, _, _ => none
 | d + 1, next, n, S =>
  match S.follow.2 with
  | some c => UJ budget n (K next (n + 1)) (S.follow.1.cw.conflict c)
  | none =>
   if ((S.follow.1.cH n next).wJ.aS us).2 = 0 then yd budget us K d (if next ≤ n then n + 64 else next) n ((S.follow.1.cH n next).wJ.aS us).1
   else some ((S.follow.1.cH n next).wJ.aS us)
def pg (budget : Int) (us : List Int) (D : Nat) : Nat → Nat → Nat → Sv → Option (Sv × Int)
 | 0, _, _, _ => none
 | c + 1, next, n, S => yd budget us (pg budget us D c) D next n S
def lf (budget : Int) (us : List Int) (S : Sv) : Option (Sv × Int) :=
 if (decide (budget < 1) || us.any (fI S.vars)) = true then some (S.bD, 0)
 else if S.bad = true then some (S.bD.cw, 2)
 else (pg budget us (2 * S.vars + 3) (budget.toNat + 2) 64 0 S.bD.cw).map fun q => (q.1.back 0, q.2)
def Lw (u : Nat) (T : Tr) : Prop := (∀ i : Nat, i < T.levels.length → (i : Int) ≤ u + T.levels[i]!) ∧ (T.levels.length : Int) ≤ u + T.lits.length
theorem Lw.mono {u : Nat} {T T' : Tr} (h : Lw u T) (h1 : T'.levels = T.levels) (h2 : T.lits.length ≤ T'.lits.length) : Lw u T' := ⟨by rw [h1]; exact h.1, by rw [h1]; have := h.2; omega⟩
theorem Lw.cD {u : Nat} {T : Tr} (h : Lw u T) (m : Nat) : Lw u (T.cD m) := by
 unfold Tr.cD
 split
 ·rename_i hm
  have hl : (T.levels.take m).length = m := by rw [bk]; omega
  refine ⟨fun i hi => ?_, ?_⟩
  ·have hi : i < (T.levels.take m).length := hi
   rw [hl] at hi
   have := h.1 i (by omega)
   have e : (T.levels.take m)[i]! = T.levels[i]! := by
    simp only [ae, List.getElem?_take]
    rw [if_pos hi]
   show (i : Int) ≤ u + (T.levels.take m)[i]!
   rw [e]
   exact this
  ·show ((T.levels.take m).length : Int) ≤ u + ((T.lits.take (T.levels[m]!).toNat).length : Nat)
   rw [hl, bk]
   have h1 := h.1 m hm
   have h2 := h.2
   omega
 ·exact h
theorem Lw.back {u : Nat} {S : Sv} (h : Lw u S.T) {m : Nat} (ok : S.Ok m) (level : Nat) : Lw u (S.back level).T := by
 unfold Sv.back
 split
 ·exact h
 ·show Lw u ((dy level S.T.lits.reverse S).T.cD level)
  rw [(ic (level : Int) S.T.lits.reverse S m ok).2.1]
  exact h.cD level
theorem u0 (level : Int) : ∀ (r : List Int) (S : Sv), (dy level r S).list = S.list
 | [], S => rfl
 | l :: r, S => by
  rw [dy]
  split
  ·rfl
  ·exact u0 level r _
theorem IZ (S : Sv) (level : Nat) : (S.back level).list = S.list := by
 unfold Sv.back
 split
 ·rfl
 ·exact u0 _ _ _
theorem Gi (level : Int) : ∀ (r : List Int) (S : Sv), (dy level r S).T = S.T
 | [], S => rfl
 | l :: r, S => by
  rw [dy]
  split
  ·rfl
  ·exact Gi level r _
theorem He {u : Nat} {B : Sv} (h : Lw u B.T) (l : List Int) : Lw u (B.bW l).cX.T := by
 have key : (B.bW l).cX.T.levels = B.T.levels ∧ B.T.lits.length ≤ (B.bW l).cX.T.lits.length := by
  unfold bW
  split
  ·exact ⟨dz B _ _, tK B _ _⟩
  ·have hs := (ed B l true).1
   refine ⟨(dz (B.attach l true) _ _).trans (congrArg (fun T : Tr => T.levels) hs), ?_⟩
   have := tK (B.attach l true) l[0]! ((B.list.length : Int) + 1)
   have e : (B.attach l true).T.lits = B.T.lits := congrArg (fun T : Tr => T.lits) hs
   rw [e] at this
   exact this
 exact h.mono key.1 key.2
theorem FJ : ∀ (f : Nat) (S : Sv), (cW f S).1.T = S.T
 | 0, S => rfl
 | f + 1, S => by
  rw [cW]
  split
  ·rfl
  ·simp only
   split
   ·exact FJ f _
   ·rfl
theorem uS (S : Sv) (h : S.choose.2 = 0) : S.choose.1.T.levels = S.T.levels ++ [(S.T.lits.length : Int)] := by
 have hp : S.pick.1.T = S.T := FJ _ S
 unfold choose at h ⊢
 by_cases h0 : S.pick.2 = 0
 ·rw [if_pos h0] at h
  cases h
 ·rw [if_neg h0]
  show (S.pick.1.deep.put S.pick.2 0).T.levels = _
  rw [dz]
  show S.pick.1.T.levels ++ [(S.pick.1.T.lits.length : Int)] = _
  rw [hp]
theorem rC (us : List Int) : ∀ (f : Nat) (S : Sv), (bQ us f S).2 = 0 → ∃ k : Nat, (bQ us f S).1.T.levels = S.T.levels ++ List.replicate k (S.T.lits.length : Int) ∧ S.T.levels.length + k ≤ max us.length S.T.levels.length + 1
 | 0, S, h => ⟨1, uS S h, by omega⟩
 | f + 1, S, h => by
  rw [bQ] at h ⊢
  split at h
  ·rename_i hd
   rw [if_pos hd]
   simp only at h ⊢
   split at h
   ·cases h
   ·rename_i h1
    rw [if_neg h1]
    split at h
    ·rename_i h2
     rw [if_pos h2]
     refine ⟨1, ?_, by omega⟩
     show (S.deep.put _ 0).T.levels = _
     rw [dz]
     rfl
    ·rename_i h2
     rw [if_neg h2]
     obtain ⟨k, k1, k2⟩ := rC us f S.deep h
     refine ⟨k + 1, ?_, ?_⟩
     ·rw [k1]
      show (S.T.levels ++ [(S.T.lits.length : Int)]) ++ List.replicate k (S.T.lits.length : Int) = _
      rw [List.append_assoc]
      rfl
     ·rw [eK] at k2
      omega
  ·rename_i hd
   rw [if_neg hd]
   exact ⟨1, uS S h, by omega⟩
theorem IQ {us : List Int} {S : Sv} (h : Lw us.length S.T) (hq : (S.aS us).2 = 0) (hl : (S.aS us).1.T.lits.length = S.T.lits.length + 1) : Lw us.length (S.aS us).1.T := by
 obtain ⟨k, k1, k2⟩ := rC us (us.length + 1) S hq
 change (S.aS us).1.T.levels = _ at k1
 have h2 := h.2
 refine ⟨fun i hi => ?_, ?_⟩
 ·rw [k1] at hi ⊢
  rw [ai, a7] at hi
  by_cases qg : i < S.T.levels.length
  ·have e : (S.T.levels ++ List.replicate k (S.T.lits.length : Int))[i]! = S.T.levels[i]! := by
    simp only [ae, eS qg]
   rw [e]
   exact h.1 i qg
  ·have e : (S.T.levels ++ List.replicate k (S.T.lits.length : Int))[i]! = (S.T.lits.length : Int) := by
    simp only [ae, List.getElem?_append_right (by omega : S.T.levels.length ≤ i), List.getElem?_replicate]
    rw [if_pos (by omega)]
    rfl
   rw [e]
   omega
 ·rw [k1, ai, a7, hl]
  omega
structure Gx (us : List Int) (vars U V c : Nat) (S : Sv) : Prop where
 inv : S.Inv
 many : S.many = S.rX
 vars : S.vars = vars
 core : S.core = []
 has : S.has = false
 used : S.used + c ≤ U
 list : S.list.length + c ≤ V
 bump : S.bump ≤ 1073741824
 lim : S.bU ≤ 401 + V + V / 16
 lw : Lw us.length S.T
structure Tx (us : List Int) (vars : Nat) (S : Sv) : Prop where
 inv : S.Inv
 vars : S.vars = vars
 core : S.core.length ≤ us.length
 model : S.has = true → S.model.length = S.vars + 1
 used : S.used < 4611686018427387904
theorem Gx.small {us : List Int} {vars U V c : Nat} {S : Sv} (h : Gx us vars U V c S) (hU : U ≤ 2199023255000) (hV : V ≤ 1200000000000) (vo : us.length ≤ 1099511627776) : S.Small := by
 have h1 := h.used
 have h2 := h.list
 have h3 := h.many
 have h4 := Kp S
 have h5 := h.lim
 have h6 := h.lw.2
 have h7 := yr h.inv.ok
 have h8 := h.inv.ok.vl
 exact ⟨by omega, by omega, h.bump, by omega, by omega, by omega, by omega, h.core⟩
theorem Gx.cw {us : List Int} {vars U V c : Nat} {S : Sv} (h : Gx us vars U V (c + 1) S) : Gx us vars U V c S.cw :=
 ⟨h.inv.cw, h.many, h.vars, h.core, h.has, by have := h.used; show S.used + 1 + c ≤ _; omega, by have := h.list; show S.list.length + c ≤ _; omega, h.bump, h.lim, h.lw⟩
theorem Gx.back {us : List Int} {vars U V c : Nat} {S : Sv} (h : Gx us vars U V c S) (level : Nat) : Gx us vars U V c (S.back level) := by
 have ok := h.inv.ok
 have hb := jo S level
 have hk := ok.back level
 exact ⟨h.inv.back level, by rw [hb.2.2.1, tP hk.2.2]; exact h.many, hk.2.1.trans h.vars, hb.1.trans h.core, (uW S level).1.trans h.has, by rw [hb.2.1]; exact h.used, by rw [hk.2.2]; exact h.list, by rw [hb.2.2.2.2.2.2]; exact h.bump, by rw [hb.2.2.2.1]; exact h.lim, h.lw.back ok level⟩
theorem Gx.follow {us : List Int} {vars U V c : Nat} {S : Sv} (h : Gx us vars U V c S) : Gx us vars U V c S.follow.1 := by
 obtain ⟨f1, f2, f3, f4⟩ := rB h.inv
 have lW := (Ok.follow h.inv.ok).2.1
 unfold Sv.rest at lW
 simp only [Prod.mk.injEq] at lW
 obtain ⟨r1, r2, r3, r4, r5, r6, r7, r8, r9, r10, r11, r12, r13⟩ := lW
 obtain ⟨Z, hZ, _⟩ := f2.pre
 have xk : S.T.lits.length ≤ S.follow.1.T.lits.length := by
  rw [← iD, ← iD, hZ]
  simp
 exact ⟨f1, by rw [r8, SQ f2 r13]; exact h.many, r2.trans h.vars, r5.trans h.core, r11.trans h.has, by rw [r6]; exact h.used, by rw [r13]; exact h.list, by rw [r7]; exact h.bump, by rw [r9]; exact h.lim, h.lw.mono r12 xk⟩
theorem Gx.conflict {us : List Int} {vars U V c : Nat} {S : Sv} (h : Gx us vars U V (c + 1) S) (hV : V ≤ 1200000000000) {n : Nat} (hc : S.Sz n) (hn : (S.rc n).lits ≠ []) (hd : 0 < S.T.levels.length) :
  ∃ S2, S.cw.conflict n = some (S2, true) ∧ Gx us vars U V c S2 := by
 have h1 := h.cw
 have hl : S.cw.list.length < 2199023255552 := by have := h1.list; omega
 obtain ⟨S2, l, cO, c1, c2, c3, c4, S1, c5, c6⟩ := vW h1.inv (n := n) hc hn hl hd
 have IA := jo S1 cO.toNat
 have j3 : S2.many = S2.rX := by
  rw [c6]
  refine Dd _ c1.l0 ?_
  rw [IA.2.2.1, tP (IZ S1 cO.toNat), Ko c5]
  have : S1.many = S.cw.many := congrArg (fun x => x.2.2.2.2.2.2.2.2.2.1) c5
  rw [this]
  exact h1.many
 have aed : S2.has = false := by
  rw [c6, Dq, (uW S1 cO.toNat).1]
  have : S1.has = S.cw.has := congrArg (fun x => x.2.2.2.2.2.2.2.2.2.2.2.2.1) c5
  rw [this]
  exact h.has
 have RW : S1.T = S.T := congrArg (fun x => x.1) c5
 have hlw : Lw us.length S2.T := by
  rw [c6]
  refine He ?_ l
  unfold Sv.back
  split
  ·rw [RW]; exact h.lw
  ·show Lw us.length ((dy cO.toNat S1.T.lits.reverse S1).T.cD cO.toNat)
   rw [Gi, RW]
   exact h.lw.cD _
 refine ⟨S2, c2, ⟨c3, j3, c4.vars.trans h.vars, c4.core.trans h.core, aed, ?_, ?_, c4.bump, by rw [c4.bU]; exact h.lim, hlw⟩⟩
 ·have := h.used
  rw [c4.used]
  show S.used + 1 + c ≤ U
  omega
 ·have := h.list
  have := c4.Rn
  have e : S.cw.list.length = S.list.length := rfl
  omega
theorem Gx.stop {us : List Int} {vars U V c : Nat} {S : Sv} (h : Gx us vars U V c S) (hU : U ≤ 2199023255000) : Tx us vars S :=
 ⟨h.inv, h.vars, by rw [h.core]; exact bV _, fun e => (by rw [h.has] at e; cases e), by have := h.used; omega⟩
theorem Gx.red {us : List Int} {vars U V c : Nat} {S : Sv} (h : Gx us vars U V c S) (oE : (S.bU : Int) < S.many) {S' : Sv} (hr : EU S S') : Gx us vars U V c S'.fl ∧ S'.fl.T = S.T ∧ S'.fl.head = S.head := by
 obtain ⟨D, d1, d2, d3, rfl⟩ := hr
 obtain ⟨k1, k2, k3, k4, k5, k6, k7⟩ := uH D S h.inv h.many d1 (fun n hn => by
  obtain ⟨w1, w2, w3, w4⟩ := Fp (d2 n hn)
  exact ⟨Db h.inv w4, w1, w2, fun e => by rw [e] at w3; simp at w3⟩)
 have hs := jD D S
 have j3 := h.many
 have vq := Kp S
 have aih := h.list
 refine ⟨⟨k1.congr k1.ok.fl rfl rfl (fun _ => rfl) rfl, k3, hs.2.1.trans h.vars, hs.2.2.2.1.trans h.core, k6.trans h.has, ?_, ?_, ?_, ?_, by show Lw us.length (D.foldl cu S).T; rw [hs.1]; exact h.lw⟩, hs.1, k2⟩
 ·show (D.foldl cu S).used + _ ≤ U
  rw [k4]
  exact h.used
 ·show (D.foldl cu S).list.length + _ ≤ V
  rw [hs.2.2.1]
  exact h.list
 ·show (D.foldl cu S).bump ≤ _
  rw [k5]; exact h.bump
 ·show (D.foldl cu S).bU + ((D.foldl cu S).bU / 16 + 1) ≤ _
  rw [hs.2.2.2.2.1]
  omega
theorem Gx.decide {us : List Int} {vars U V c : Nat} {S : Sv} (h : Gx us vars U V c S) (hU : U ≤ 2199023255000) (hf : S.head = S.T.lits.length) (hu : ∀ y ∈ us, y ≠ 0 ∧ -(vars : Int) ≤ y ∧ y ≤ vars) :
  ((S.aS us).2 = 0 → Gx us vars U V c (S.aS us).1 ∧ (S.aS us).1.T.lits.length = S.T.lits.length + 1) ∧
  ((S.aS us).2 ≠ 0 → Tx us vars (S.aS us).1) := by
 have zq : ∀ y ∈ us, y ≠ 0 ∧ -(S.vars : Int) ≤ y ∧ y ≤ S.vars := by rw [h.vars]; exact hu
 obtain ⟨d1, d2⟩ := BF h.inv hf zq
 obtain ⟨e1, e2⟩ := rD (us.length + 1) S h.inv hf zq h.has h.core
 have dk := Ok.aS h.inv.ok us
 have dm := pQ us (us.length + 1) S
 have db := pR us (us.length + 1) S
 have dl : (S.aS us).2 = 0 → Lw us.length (S.aS us).1.T := fun hq => IQ h.lw hq (d2 hq)
 change Fin us (S.aS us).1 at e1
 change (S.aS us).2 = 0 → (S.aS us).1.has = false at e2
 change ((S.aS us).2 = 0 → (S.aS us).1.core = S.core) ∧ (S.aS us).1.used = S.used ∧ (S.aS us).1.many = S.many ∧ (S.aS us).1.bU = S.bU ∧ (S.aS us).1.bad = S.bad at dm
 change (S.aS us).1.bump = S.bump at db
 generalize S.aS us = q at *
 have bJ := h.used
 refine ⟨fun hq => ⟨⟨d1, by rw [dm.2.2.1, tP dk.2.2.1]; exact h.many, dk.2.1.trans h.vars, (dm.1 hq).trans h.core, e2 hq, by rw [dm.2.1]; exact h.used, by rw [dk.2.2.1]; exact h.list, by rw [db]; exact h.bump, by rw [dm.2.2.2.1]; exact h.lim, dl hq⟩, d2 hq⟩, fun hq => ⟨d1, dk.2.1.trans h.vars, e1.core, e1.model, by rw [dm.2.1]; omega⟩⟩
theorem ya {red : Bool} {budget : Int} {us : List Int} {D : Nat} : ∀ (Q Q' : Sv → Int → Prop), (∀ S r, Q S r → Q' S r) → ∀ c next n S, eB red budget us Q D c next n S → eB red budget us Q' D c next n S := by
 intro Q Q' hQ c
 induction c with
 | zero => intro next n S h; exact h
 | succ c ih =>
  intro next n S hh
  rw [eB] at hh ⊢
  revert hh
  generalize hK : eB red budget us Q D c = K
  generalize hK' : eB red budget us Q' D c = K'
  rw [hK, hK'] at ih
  clear hK hK'
  generalize D = d
  induction d generalizing next n S with
  | zero => exact fun h => h
  | succ d ihd =>
   intro hh
   rw [hJ] at hh ⊢
   obtain ⟨m1, m2, m3, m4⟩ := hh
   refine ⟨m1, m2, m3, ?_⟩
   cases hf : S.follow.2 with
   | some cc =>
    rw [hf] at m4
    simp only at m4 ⊢
    revert m4
    cases S.follow.1.cw.conflict cc with
    | none => exact fun h => h
    | some q =>
     obtain ⟨S2, b⟩ := q
     cases b with
     | false => exact hQ _ _
     | true =>
      show (if _ then _ else _) → (if _ then _ else _)
      split
      ·exact hQ _ _
      ·exact ih _ _ _
   | none =>
    rw [hf] at m4
    simp only at m4 ⊢
    unfold zR at m4 ⊢
    have Ry : ∀ S3 : Sv, (if (S3.aS us).2 = 0 then hJ red budget us Q K d (if next ≤ n then n + 64 else next) n (S3.aS us).1 else Q (S3.aS us).1 (S3.aS us).2) → (if (S3.aS us).2 = 0 then hJ red budget us Q' K' d (if next ≤ n then n + 64 else next) n (S3.aS us).1 else Q' (S3.aS us).1 (S3.aS us).2) := by
     intro S3
     split
     ·exact ihd _ _ _
     ·exact hQ _ _
    by_cases oE : ((S.follow.1.cH n next).bU : Int) < (S.follow.1.cH n next).many
    ·rw [if_pos oE] at m4 ⊢
     by_cases AN : red = true
     ·rw [if_pos AN] at m4 ⊢
      exact fun S' Mm => Ry _ (m4 S' Mm)
     ·rw [if_neg AN] at m4
      exact absurd m4 id
    ·rw [if_neg oE] at m4
     rw [if_neg oE]
     exact Ry _ m4
def Qx (us : List Int) (vars : Nat) (RES : Option (Sv × Int)) (S : Sv) (r : Int) : Prop := RES = some (S, r) ∧ Tx us vars S
theorem Oz {us : List Int} {vars U V c n : Nat} {budget : Int} {RES : Option (Sv × Int)} {KX : Nat → Nat → Sv → Option (Sv × Int)} {K : Nat → Nat → Sv → Prop} (hu : ∀ y ∈ us, y ≠ 0 ∧ -(vars : Int) ≤ y ∧ y ≤ vars) (hU : U ≤ 2199023255000) (hV : V ≤ 1200000000000) (vo : us.length ≤ 1099511627776) (hn : n < 2199023255000)
  (hK : ∀ next S, Gx us vars U V c S → next ≤ n + 64 → ¬ budget < ((n + 1 : Nat) : Int) → KX next (n + 1) S = RES → K next (n + 1) S) :
  ∀ (d next : Nat) (S : Sv), Gx us vars U V (c + 1) S → next ≤ n + 64 → mu S next n < d → yd budget us KX d next n S = RES → hJ true budget us (Qx us vars RES) K d next n S := by
 intro d
 induction d with
 | zero =>
  intro next S h hx hm hr
  exact absurd hm (aG _)
 | succ d ih =>
  intro next S h hx hm hr
  rw [hJ]
  rw [yd] at hr
  refine ⟨h.small hU hV vo, by omega, by omega, ?_⟩
  obtain ⟨f1, f2, f3, f4⟩ := rB h.inv
  have g := h.follow
  have xk : S.T.lits.length ≤ S.follow.1.T.lits.length := by
   obtain ⟨Z, hZ, _⟩ := f2.pre
   rw [← iD, ← iD, hZ]
   simp
  generalize S.follow = q at *
  obtain ⟨SF, o⟩ := q
  simp only at f1 f2 f3 f4 g xk hr ⊢
  have hSv := h.vars
  have hgv := g.vars
  cases o with
  | some m =>
   simp only at hr ⊢
   obtain ⟨k1, k2⟩ := f4 m rfl
   by_cases hd : SF.T.levels.length = 0
   ·have z1 : SF.cw.conflict m = some ({ SF.cw with bad := true }, false) := by unfold Sv.conflict; rw [if_pos (show SF.cw.T.levels.length = 0 from hd)]
    have z2 : Tx us vars ({ SF.cw with bad := true } : Sv) := by
     have g1 := g.cw.stop hU
     exact ⟨g1.inv.congr (g1.inv.ok.xY true) rfl rfl (fun _ => rfl) rfl, g1.vars, g1.core, g1.model, g1.used⟩
    rw [z1] at hr ⊢
    exact ⟨hr.symm, z2⟩
   ·obtain ⟨S2, c1, c2⟩ := g.conflict hV k1 k2 (by omega)
    rw [c1] at hr ⊢
    have hr : (if budget < ((n + 1 : Nat) : Int) then some (S2, 0) else KX next (n + 1) S2) = RES := hr
    show if budget < ((n + 1 : Nat) : Int) then _ else K next (n + 1) S2
    by_cases hb : budget < ((n + 1 : Nat) : Int)
    ·rw [if_pos hb] at hr ⊢
     exact ⟨hr.symm, c2.stop hU⟩
    ·rw [if_neg hb] at hr ⊢
     exact hK next S2 c2 hx hb hr
  | none =>
   simp only at hr ⊢
   obtain ⟨r1, r2⟩ := Aa f1 (f3 rfl) n next
   have JG : Gx us vars U V (c + 1) (SF.cH n next) := by
    unfold Sv.cH
    split
    ·exact g.back 0
    ·exact g
   have AU : ¬ next ≤ n → (SF.cH n next).T.lits.length = SF.T.lits.length := fun Jz => by
    unfold Sv.cH
    rw [if_neg Jz]
   generalize SF.cH n next = SR at *
   have fin : ∀ S3 : Sv, SR.wJ = S3 → Gx us vars U V (c + 1) S3 → S3.T = SR.T → S3.head = SR.head → (if (S3.aS us).2 = 0 then hJ true budget us (Qx us vars RES) K d (if next ≤ n then n + 64 else next) n (S3.aS us).1 else Qx us vars RES (S3.aS us).1 (S3.aS us).2) := by
    intro S3 t0 t1 t4 t5
    rw [t0] at hr
    obtain ⟨e1, e2⟩ := t1.decide hU (by rw [t5, r2, t4]) hu
    generalize S3.aS us = p at *
    by_cases hq : p.2 = 0
    ·rw [if_pos hq] at hr ⊢
     obtain ⟨e3, e5⟩ := e1 hq
     have oS := yr e3.inv.ok
     have oy := e3.vars
     refine ih _ p.1 e3 (by split <;> omega) ?_ hr
     rw [t4] at e5
     unfold mu at hm ⊢
     by_cases yx : next ≤ n
     ·rw [if_pos yx] at hm ⊢
      rw [if_neg (by omega)]
      omega
     ·rw [if_neg yx] at hm ⊢
      rw [if_neg yx]
      have := AU yx
      omega
    ·rw [if_neg hq] at hr ⊢
     exact ⟨hr.symm, e2 hq⟩
   unfold zR
   by_cases oE : (SR.bU : Int) < SR.many
   ·rw [if_pos oE, if_pos rfl]
    intro S' TD
    obtain ⟨w1, w3, w4⟩ := JG.red oE TD
    exact fin S'.fl (by unfold wJ; rw [if_pos oE, TD.eq]) w1 w3 w4
   ·rw [if_neg oE]
    exact fin SR (by unfold wJ; rw [if_neg oE]) JG rfl rfl
theorem Kb {us : List Int} {vars U V D : Nat} {budget : Int} {RES : Option (Sv × Int)} (hD : 2 * vars + 3 ≤ D) (hu : ∀ y ∈ us, y ≠ 0 ∧ -(vars : Int) ≤ y ∧ y ≤ vars) (hU : U ≤ 2199023255000) (hV : V ≤ 1200000000000) (vo : us.length ≤ 1099511627776) :
  ∀ (c next n : Nat) (S : Sv), Gx us vars U V c S → next ≤ n + 64 → n + c < 2199023255000 → (n : Int) ≤ budget → budget < ((n + c : Nat) : Int) → pg budget us D c next n S = RES → eB true budget us (Qx us vars RES) D c next n S := by
 intro c
 induction c with
 | zero =>
  intro next n S h hx hc h1 h2 hr
  omega
 | succ c ih =>
  intro next n S h hx hc h1 h2 hr
  rw [eB]
  rw [pg] at hr
  refine Oz (c := c) hu hU hV vo (by omega) (fun nx S2 k1 k2 k3 k4 => ih nx (n + 1) S2 k1 (by omega) (by omega) (by omega) (by omega) k4) D next S h hx ?_ hr
  have := h.vars
  unfold mu
  split <;> omega
structure gE (vars U V : Nat) (S : Sv) : Prop where
 inv : S.Inv
 cO : S.T.levels.length = 0
 many : S.many = S.rX
 vars : S.vars = vars
 used : S.used ≤ U
 list : S.list.length ≤ V
 bump : S.bump ≤ 1073741824
 lim : S.bU ≤ 401 + V + V / 16
theorem gE.go {vars U V : Nat} {S : Sv} (h : gE vars U V S) (us : List Int) (c : Nat) : Gx us vars (U + 1 + c) (V + c) c S.bD.cw :=
 ⟨h.inv.bD.cw, h.many, h.vars, rfl, rfl, by have := h.used; show S.used + 1 + c ≤ _; omega, by have := h.list; show S.list.length + c ≤ _; omega, h.bump, by have := h.lim; show S.bU ≤ _; omega,
   ⟨fun i hi => by
    have hi : i < S.T.levels.length := hi
    have := h.cO; omega, by show ((S.T.levels.length : Nat) : Int) ≤ _; rw [h.cO]; omega⟩⟩
theorem Tx.done {us : List Int} {vars : Nat} {S : Sv} (h : Tx us vars S) : Tx us vars (S.back 0) := by
 have hb := jo S 0
 have hh := uW S 0
 have hk := (h.inv.ok.back 0).2.1
 exact ⟨h.inv.back 0, hk.trans h.vars, by rw [hb.1]; exact h.core, by rw [hh.1, hh.2, hk]; exact h.model, by rw [hb.2.1]; exact h.used⟩
def ahb (us : List Int) (vars : Nat) (RES : Option (Sv × Int)) (S : Sv) (r : Int) : Prop := RES = some (S, r) ∧ Tx us vars S
theorem Ow {us : List Int} {vars U V : Nat} {S : Sv} {budget : Int} (h : gE vars U V S) (sT : budget ≤ 1099511627776) (hU : U ≤ 1000000000000) (hV : V ≤ 8388608) (hr : Ra us) (vo : us.length ≤ 1099511627776) :
  S.tC true budget us (2 * S.vars + 3) (budget.toNat + 2) (ahb us vars (lf budget us S)) := by
 have nT := h.inv.ok.vl
 have Tc := h.vars
 unfold tC lf
 by_cases h1 : (decide (budget < 1) || us.any (fI S.vars)) = true
 ·rw [if_pos h1, if_pos h1]
  exact ⟨rfl, ⟨h.inv.bD, h.vars, bV _, fun h => (by cases h), by have := h.used; show S.used < _; omega⟩⟩
 ·rw [if_neg h1, if_neg h1]
  by_cases hb : S.bad = true
  ·rw [if_pos hb, if_pos hb]
   exact ⟨rfl, ⟨h.inv.bD.cw, h.vars, bV _, fun h => (by cases h), by have := h.used; show S.used + 1 < _; omega⟩⟩
  ·rw [if_neg hb, if_neg hb]
   have V6 : ¬ budget < 1 := fun e => h1 (by rw [decide_eq_true e]; rfl)
   have ho : us.any (fI S.vars) = false := by
    cases h4 : us.any (fI S.vars) with
    | false => rfl
    | true => exact absurd (by rw [h4, Bool.or_true]) h1
   have zq := SE (vars := S.vars) hr ho
   rw [Tc] at zq
   have hg := h.go us (budget.toNat + 2)
   have hs := Kb (budget := budget) (D := 2 * S.vars + 3) (RES := pg budget us (2 * S.vars + 3) (budget.toNat + 2) 64 0 S.bD.cw) (by omega) zq (by omega : U + 1 + (budget.toNat + 2) ≤ 2199023255000) (by omega : V + (budget.toNat + 2) ≤ 1200000000000) vo (budget.toNat + 2) 64 0 S.bD.cw hg (by omega) (by omega) (by omega) (by omega) rfl
   exact ya _ _ (fun S' r ⟨k1, k2⟩ => ⟨by rw [k1]; rfl, k2.done⟩) _ _ _ _ hs
theorem gE.new (vars : Int) : gE (Sv.new vars).vars 0 0 (Sv.new vars) := by
 obtain ⟨k1, k2, k3, k4, k5, k6, k7⟩ := Inv.new vars
 exact ⟨k1, k2, by rw [k3]; unfold rX; rw [k5]; rfl, rfl, by rw [k6]; exact ao _, by rw [k5]; exact ao _, by rw [k7]; omega, by rw [k4]; omega⟩
theorem I5 (S : Sv) (l : List Int) : (S.fM l).1.rX = S.rX := by
 unfold fM
 split
 ·split
  ·rfl
  ·unfold gZ
   split
   ·rfl
   ·split
    ·rfl
    ·show (S.list ++ [(⟨S.leftOf (nrm l), false, S.used⟩ : Rc)]).countP Di = _
     rw [List.countP_append, List.countP_singleton]
     rfl
 ·rfl
theorem gE.add {vars U V : Nat} {S : Sv} (h : gE vars U V S) (hV : V < 8388608) {c : List Int} (hr : Ra c) : gE vars U (V + 1) (S.fM c).1 := by
 have hs : S.list.length < 2199023255552 := by have := h.list; omega
 obtain ⟨k1, k2⟩ := h.inv.fM h.cO hr hs
 obtain ⟨m1, m2, m3, m4, m5⟩ := I4 S c
 have hv := (h.inv.ok.fM hr hs).2
 exact ⟨k1, k2, by rw [m3, I5]; exact h.many, hv.trans h.vars, by rw [m1]; exact h.used, by have := h.list; omega, by rw [m2]; exact h.bump, by rw [m4]; have := h.lim; omega⟩
end Sv
def B9 (A : Option Addr) (c : Nat) (xs RES : List Int) (w : World) (e : Ending) (w' : World) : Prop := e = .returned (.tuple #[]) ∧ ∃ ys : List Int, ys.Perm xs ∧ Ints w' A c ys ∧ Fr (ah A) w w' ∧ ys = RES
theorem Ints.swap {w : World} {g c : Nat} {xs : List Int} (h : Ints w (some ⟨g, 0, none⟩) c xs) (i j : Nat) : Ints ((w.setCell ⟨g, i, none⟩ (.int .i64 xs[j]!)).setCell ⟨g, j, none⟩ (.int .i64 xs[i]!)).drew (some ⟨g, 0, none⟩) c (cj xs i j) := ((h.cV i xs[j]!).cV j xs[i]!).drew
theorem Fr.swap (w : World) (g : Nat) (i j : Nat) (u v : Value) : Fr (ah (some ⟨g, 0, none⟩)) w ((w.setCell ⟨g, i, none⟩ u).setCell ⟨g, j, none⟩ v).drew := (((Fr.refl [g] w).setCell (.inl (by simp)) _).setCell (.inl (by simp)) _).drew
theorem iK (w : World) (A : Option Addr) (c : Nat) (xs : List Int) (h : Ints w A c xs) (hl : xs.length ≤ 17592186044416) (a b n : Nat) (hab : a < b) (qI : b + n ≤ xs.length) (g : Nat) (cb : Array Value) :
  Calls Tryz.prog 203 #[.slice A xs.length c, .int .i64 a, .int .i64 b, .int .i64 n, .func (.func g) #[] cb] w (B9 A c xs (ld a b n 0 xs) w) := by
 obtain ⟨RES, co⟩ : ∃ RES, ld a b n 0 xs = RES := ⟨_, rfl⟩
 rw [co]
 have dC := aa co
 clear co
 have HH := aa h
 clear h
 go_enter Tryz.func203, Tryz.ntmps203
 go_wp2_with fail
 go_loopg [10] n (fun g x wr => ∃ (k : Nat) (ys : List Int), k + g = n ∧ x = .int .i64 k ∧ Hid (ys.Perm xs) ∧ Hid (Ints wr A c ys) ∧ Hid (Fr (ah A) w wr) ∧ Hid (ld a b (n - k) k ys = RES))
 case atStart => exact ⟨0, xs, by omega, rfl, cN _, HH.out, Fr.refl _ _, dC.out⟩
 case round =>
  obtain ⟨k, ys, hk, rfl, HP, HI, HF, HE⟩ := hrel
  have HK := aa hk
  have j4 : k ≤ n := by omega
  have hlen := HP.out.length_eq
  clear hk
  by_cases bM : k < n
  ·obtain ⟨p, hp⟩ : ∃ p, a + k = p := ⟨_, rfl⟩
   obtain ⟨q, hq⟩ : ∃ q, b + k = q := ⟨_, rfl⟩
   have GC : Hid (ld a b (n - (k + 1)) (k + 1) (cj ys p q) = RES) := by
    have := HE.out
    rw [GL bM, hp, hq] at this
    exact this
   have xg : p < ys.length := by omega
   have hql : q < ys.length := by omega
   obtain ⟨gb, hA, ru⟩ := HI.out.pos xg
   subst hA
   have c1 := HI.out.cell xg
   have c2 := HI.out.cell hql
   have f1 := HI.out.frozen p
   have f2 := HI.out.frozen q
   have dN : ¬ p = q := by omega
   have w1 : IntKind.i64.wrap ((a : Int) + (k : Int)) = (p : Int) := by rw [IntWalk.i64_in _ (by omega)]; omega
   have w2 : IntKind.i64.wrap ((b : Int) + (k : Int)) = (q : Int) := by rw [IntWalk.i64_in _ (by omega)]; omega
   have hpx : (p : Int) < (xs.length : Int) := by omega
   have hqx : (q : Int) < (xs.length : Int) := by omega
   have HL := aa hlen
   have CG := aa bM
   have Si : Hid (cj ys p q |>.Perm xs) := (fD xg hql).trans HP.out
   have CI := aa (HI.out.swap p q)
   have kR := aa (HF.out.ag (Fr.swap wr gb p q (.int .i64 ys[q]!) (.int .i64 ys[p]!)))
   obtain ⟨u, hu⟩ : ∃ u, ys[p]! = u := ⟨_, rfl⟩
   obtain ⟨v, hv⟩ : ∃ v, ys[q]! = v := ⟨_, rfl⟩
   rw [hu] at c1 CI kR
   rw [hv] at c2 CI kR
   clear hlen xg hql hu hv hp hq HI HF HP HE
   go_wp2_with fail
   go_region
   clear c1 c2 f1 f2
   go_wp2_with fail
   go_roundg (gk - 1)
   case measure => have := HK.out; omega
   case rel => exact ⟨k + 1, cj ys p q, by have := HK.out; omega, by go_num, Si.out, CI.out, kR.out, GC.out⟩
  ·obtain rfl : k = n := by omega
   have FF : Hid (B9 A c xs RES w (.returned (.tuple #[])) wr) := ⟨rfl, ys, HP.out, HI.out, HF.out, by have := HE.out; rw [J6] at this; exact this⟩
   go_wp2_with fail
   go_end0
   exact FF.out
def wz (g : Nat) (cb : Array Value) (q : Int → Int → Int) (A : Option Addr) (xs : List Int) (w : World) : Prop :=
 ∀ W, Fr (ah A) w W → ∀ x ∈ xs, ∀ y ∈ xs, Calls Tryz.prog g (#[.int .i64 x, .int .i64 y] ++ cb) W fun e W' => e = .returned (.int .i64 (q x y)) ∧ Fr [] W W'
theorem wz.ag {g : Nat} {cb : Array Value} {q : Int → Int → Int} {A : Option Addr} {xs ys : List Int} {w w' : World} (h : wz g cb q A xs w) (hf : Fr (ah A) w w') (hp : ys.Perm xs) : wz g cb q A ys w' :=
 fun W hW x hx y hy => h W (hf.ag hW) x (hp.mem_iff.1 hx) y (hp.mem_iff.1 hy)
theorem rY (w : World) (A : Option Addr) (c : Nat) (xs : List Int) (h : Ints w A c xs) (hl : xs.length ≤ 17592186044416) (a b : Nat) (hab : a ≤ b) (qI : b ≤ xs.length) (g : Nat) (cb : Array Value) (q : Int → Int → Int) (eg : ∀ args w, (callFunc g args).run Tryz.prog w = .ok (.enter g args) w) (hc : wz g cb q A xs w) :
  Calls Tryz.prog 179 #[.slice A xs.length c, .int .i64 a, .int .i64 b, .func (.func g) #[] cb] w (B9 A c xs (mO q a (b - (a + 1)) (a + 1) xs) w) := by
 obtain ⟨RES, co⟩ : ∃ RES, mO q a (b - (a + 1)) (a + 1) xs = RES := ⟨_, rfl⟩
 rw [co]
 have dC := aa co
 clear co
 have HH := aa h
 have HC := aa hc
 clear h hc
 have w0 : IntKind.i64.wrap ((a : Int) + 1) = (a : Int) + 1 := IntWalk.i64_in _ (by omega)
 go_enter Tryz.func179, Tryz.ntmps179
 go_wp2_with fail
 clear w0
 go_loopg [8] (b - a) (fun g x wr => ∃ (i : Nat) (ys : List Int), b ≤ i + g ∧ a + 1 ≤ i ∧ x = .int .i64 i ∧ Hid (ys.Perm xs) ∧ Hid (Ints wr A c ys) ∧ Hid (Fr (ah A) w wr) ∧ Hid (mO q a (b - i) i ys = RES))
 case atStart => exact ⟨a + 1, xs, by omega, by omega, by go_num, cN _, HH.out, Fr.refl _ _, dC.out⟩
 case round =>
  obtain ⟨i, ys, hi, hai, rfl, HP, HI, HF, HE⟩ := hrel
  have HK := aa hi
  clear hi
  by_cases bM : i < b
  ·obtain ⟨I7, hZ⟩ : ∃ Z, qE q a i ys = Z := ⟨_, rfl⟩
   have GC : Hid (mO q a (b - (i + 1)) (i + 1) I7 = RES) := by
    have := HE.out
    rw [Hg bM, hZ] at this
    exact this
   have HZ := aa hZ
   clear hZ HE
   go_wp2_with fail
   go_loopg [9] (i - a) (fun g x wr => ∃ (j : Nat) (ys : List Int), j = a + g ∧ j ≤ i ∧ x = .int .i64 j ∧ Hid (ys.Perm xs) ∧ Hid (Ints wr A c ys) ∧ Hid (Fr (ah A) w wr) ∧ Hid (qE q a j ys = I7))
   case atStart => exact ⟨i, ys, by omega, by omega, rfl, HP.out, HI.out, HF.out, HZ.out⟩
   case round =>
    obtain ⟨j, zs, hj, oT, rfl, zl, lZ, cJ, cL⟩ := hrel
    have HJ := aa hj
    clear hj HP HI HF HZ
    have wi : IntKind.i64.wrap ((i : Int) + 1) = (i : Int) + 1 := IntWalk.i64_in _ (by omega)
    by_cases hja : a < j
    ·have hlen := zl.out.length_eq
     obtain ⟨p, hp⟩ : ∃ p, j - 1 = p := ⟨_, rfl⟩
     have xg : p < zs.length := by omega
     have Ip : j < zs.length := by omega
     obtain ⟨gb, hA, ru⟩ := lZ.out.pos xg
     subst hA
     have c1 := lZ.out.cell xg
     have c2 := lZ.out.cell Ip
     have m1 := bw xg
     have m2 := bw Ip
     have wj : IntKind.i64.wrap ((j : Int) - 1) = (p : Int) := by rw [IntWalk.i64_in _ (by omega)]; omega
     have hpx : (p : Int) < (xs.length : Int) := by omega
     have VZ : (j : Int) < (xs.length : Int) := by omega
     have dN : ¬ j = p := by omega
     have hpj : p ≤ i := by omega
     have Si : Hid ((cj zs j p).Perm xs) := (fD Ip xg).trans zl.out
     have HPJ : Hid (p = a + (gk - 1)) := by have := HJ.out; show _ = _; omega
     have Wo : Hid (q zs[j]! zs[p]! < 0 → qE q a p (cj zs j p) = I7) := fun h => by rw [← cL.out, K6 hp hja h]
     have Wp : Hid (¬ q zs[j]! zs[p]! < 0 → zs = I7) := fun h => by rw [← cL.out, OX hp hja h]
     have CI := aa (fun W (hW : Fr [] wr W) => (lZ.out.eE hW).swap j p)
     have kR := aa (fun W (hW : Fr [] wr W) => (cJ.out.ag (hW.mono (fun k hk => by cases hk))).ag (Fr.swap W gb j p (.int .i64 zs[p]!) (.int .i64 zs[j]!)))
     have ZH := aa (fun u : Ext wr => HC.out u.v (cJ.out.ag (u.fr.mono (fun k hk => by cases hk))) _ (zl.out.mem_iff.1 m2) _ (zl.out.mem_iff.1 m1))
     obtain ⟨x, hx⟩ : ∃ x, zs[j]! = x := ⟨_, rfl⟩
     obtain ⟨y, hy⟩ : ∃ y, zs[p]! = y := ⟨_, rfl⟩
     rw [hx] at c2 CI kR ZH Wo Wp
     rw [hy] at c1 CI kR ZH Wo Wp
     obtain ⟨r, hr⟩ : ∃ r, q x y = r := ⟨_, rfl⟩
     rw [hr] at ZH Wo Wp
     have e1 := Ext.cell c1
     have e2 := Ext.cell c2
     clear hr hx hy m1 m2 hlen xg Ip hp
     have hjj : (a : Int) < (j : Int) := by omega
     have hdj : decide ((a : Int) < (j : Int)) = true := decide_eq_true hjj
     by_cases gU : r < 0
     ·have hd : decide (r < 0) = true := decide_eq_true gU
      have Cf := aa (Wo.out gU)
      clear Wo Wp
      go_wp2_with fail
      refine al (by kernel_rfl) (by kernel_rfl) ?_
      repeat (go_big_quiet_step (exact bN (ZH.out _)))
      refine wpQuiet_nil ?_
      rintro w2 ⟨u2, bJ⟩
      have aT : Hid (Fr [] wr w2) := bJ ▸ u2.fr
      clear bJ u2
      clear e1 e2
      have c1 := aT.out.av c1
      have c2 := aT.out.av c2
      have f1 := (lZ.out.eE aT.out).frozen p
      have f2 := (lZ.out.eE aT.out).frozen j
      go_wp2_with fail
      go_region
      clear c1 c2 f1 f2
      go_wp2_with fail
      go_roundg (gk - 1)
      case measure => have := HJ.out; omega
      case rel => exact ⟨p, cj zs j p, HPJ.out, hpj, by go_num, Si.out, CI.out _ aT.out, kR.out _ aT.out, Cf.out⟩
     ·have FU : 0 ≤ r := by omega
      have hd : decide (r < 0) = false := decide_eq_false gU
      have Cf := aa (Wp.out gU)
      clear Wo Wp
      have Nx := aa (fun W (hW : Fr [] wr W) => lZ.out.eE hW)
      have lR := aa (fun W (hW : Fr [] wr W) => cJ.out.ag (hW.mono (fun k hk => by cases hk)))
      clear CI kR Si
      go_wp2_with fail
      refine al (by kernel_rfl) (by kernel_rfl) ?_
      repeat (go_big_quiet_step (exact bN (ZH.out _)))
      refine wpQuiet_nil ?_
      rintro w2 ⟨u2, bJ⟩
      have aT : Hid (Fr [] wr w2) := bJ ▸ u2.fr
      clear bJ u2
      clear e1 e2 c1 c2
      go_wp2_with fail
      go_roundg (b - (i + 1))
      case measure => have := HK.out; omega
      case rel => exact ⟨i + 1, zs, by omega, by omega, by go_num, zl.out, Nx.out _ aT.out, lR.out _ aT.out, by rw [Cf.out]; exact GC.out⟩
    ·have hjj : (j : Int) ≤ (a : Int) := by omega
     have hdj : decide ((a : Int) < (j : Int)) = false := decide_eq_false (by omega)
     have Cf : Hid (zs = I7) := (by rw [← cL.out, K7 hja] : zs = I7)
     go_wp2_with fail
     refine al (by kernel_rfl) (by kernel_rfl) ?_
     repeat (go_big_quiet_step (fail))
     refine wpQuiet_nil ?_
     rintro w2 ⟨u2, bJ⟩
     have aT : Hid (Fr [] wr w2) := bJ ▸ u2.fr
     clear bJ u2
     go_wp2_with fail
     go_roundg (b - (i + 1))
     case measure => have := HK.out; omega
     case rel => exact ⟨i + 1, zs, by omega, by omega, by go_num, zl.out, lZ.out.eE aT.out, cJ.out.ag (aT.out.mono (fun k hk => by cases hk)), by rw [Cf.out]; exact GC.out⟩
  ·have FF : Hid (B9 A c xs RES w (.returned (.tuple #[])) wr) := ⟨rfl, ys, HP.out, HI.out, HF.out, by have := HE.out; rw [K8 bM] at this; exact this⟩
   go_wp2_with fail
   go_end0
   exact FF.out
end Go.Proofs.YtpjbaobgnhjgoaaGreat
