/- slices.Equal at ints, whatever it tells; slices.DeleteFunc at ints for zeros: some list in the same row. slices.DeleteFunc at ints for zeros: some list in the same row. slices.DeleteFunc at ints for zeros walked: some list in the same row. slices.Compact at ints walked: some list in the same row. -/
import Derived.Test.YtbjccgahmgpkjaaQvA
namespace Go.Proofs.Ytbjccgahmgpkjaa
open Go.RowKit
set_option linter.unusedVariables false

set_option maxHeartbeats 1000000 in
theorem sequal_any (w : World) (A B : Option Addr) (c d : Nat) (xs ys : List Int) (ha : Rd w A xs) (hb : Rd w B ys) (hr : Ra xs) (hr2 : Ra ys) (hl : xs.length ≤ 17592186044416) (hl2 : ys.length ≤ 17592186044416) :
    Calls Try.prog 76 #[.slice A xs.length c, .slice B ys.length d] w fun e w' => (∃ q, e = .returned (.bool q)) ∧ Fr [] w w' := by
  have HA := Lib.hid ha
  have HB := Lib.hid hb
  have HR := Lib.hid hr
  have HR2 := Lib.hid hr2
  clear ha hb hr hr2
  by_cases hlen : xs.length = ys.length
  · have d0 : ((xs.length : Int) != (ys.length : Int)) = false := by rw [bne_eq_false_iff_eq]; omega
    rw [← hlen] at d0 ⊢
    go_enter Try.func76, Try.ntmps76
    go_wp2_with fail
    go_loopg [13] xs.length (fun g i wr => ∃ k : Nat, k + g = xs.length ∧ i = .int .i64 k ∧ Fr [] w wr)
    case atStart => exact ⟨0, by omega, rfl, Fr.refl _ _⟩
    case round =>
      obtain ⟨k, hk, rfl, hf⟩ := hrel
      have HK := Lib.hid hk
      have HF := Lib.hid hf
      have hkn : k ≤ xs.length := by omega
      clear hk hf
      by_cases hlt : k < xs.length
      · obtain ⟨b, o, x, hA, he, cx, hx1, hx2⟩ := (HA.out.keep HF.out).one HR.out hlt
        obtain ⟨b', o', x', hB, he', cx', _, _⟩ := (HB.out.keep HF.out).one HR2.out (j := k) (by omega)
        subst hA hB
        have e1 := Ext.cell cx
        have e2 := Ext.cell cx'
        by_cases hne : (x != x') = true
        · go_wp2_with fail
          refine wp_region_ext (by kernel_rfl) (by kernel_rfl) ?_
          repeat (go_big_quiet_step (fail))
          refine wpQuiet_nil ?_
          rintro w2 ⟨u2, hu2⟩
          have HF_w2 : Hid (Fr [] wr w2) := hu2 ▸ u2.fr
          clear hu2 u2
          go_wp2_with fail
          go_ret
          exact ⟨⟨_, rfl⟩, HF.out.then_ HF_w2.out⟩
        · have hne : (x != x') = false := Bool.eq_false_iff.2 hne
          go_wp2_with fail
          refine wp_region_ext (by kernel_rfl) (by kernel_rfl) ?_
          repeat (go_big_quiet_step (fail))
          refine wpQuiet_nil ?_
          rintro w2 ⟨u2, hu2⟩
          have HF_w2 : Hid (Fr [] wr w2) := hu2 ▸ u2.fr
          clear hu2 u2
          clear cx cx' e1 e2
          go_wp2_with fail
          go_roundg (gk - 1)
          case measure => have := HK.out; omega
          case rel => exact ⟨k + 1, by have := HK.out; omega, by go_num, HF.out.then_ HF_w2.out⟩
      · clear HK
        go_wp2_with fail
        go_ret
        exact ⟨⟨_, rfl⟩, HF.out⟩
  · have d0 : ((xs.length : Int) != (ys.length : Int)) = true := by rw [bne_iff_ne]; omega
    go_enter Try.func76, Try.ntmps76
    go_wp2_with fail
    go_ret
    exact ⟨⟨_, rfl⟩, Fr.refl _ _⟩

end Go.Proofs.Ytbjccgahmgpkjaa
namespace Go.Proofs.Ytbjccgahmgpkjaa
open Go.RowKit
set_option linter.unusedVariables false

/-- The zero cells of so many ints. -/
def zi (n : Nat) : List Value := (Builtin.zeroCells #[.int .i64 0] n).toList
theorem zi_mem (n : Nat) : ∀ v ∈ zi n, v.oneCell' = true := by
  intro v hv
  simp only [zi, Builtin.zeroCells, Array.toList_map, List.mem_map] at hv
  obtain ⟨i, _, rfl⟩ := hv
  simp [Nat.mod_one]
  rfl
theorem zi_length (n : Nat) : (zi n).length = n := by simp [zi, Builtin.zeroCells]
theorem run_cleari_of (w : World) (g o c ty n : Nat) (w' : World) (h : (storeCells ⟨g, o, none⟩ (zi (n + 1))).run Try.prog w = .ok () w') :
    (Builtin.clear_ #[22] ty #[.slice (some ⟨g, o, none⟩) (n + 1) c]).run Try.prog w = .ok (.tuple #[]) w' := by
  simp only [zi] at h
  simp only [Builtin.clear_, go_sem]
  simp [h, run_underlying Try.underlying22]
theorem run_clear_ints (w : World) (g c i ty c' : Nat) (xs : List Int) (h : Ints w (some ⟨g, 0, none⟩) c xs) (hi : i < xs.length) :
    ∃ w', (Builtin.clear_ #[22] ty #[.slice (some ⟨g, i, none⟩) (xs.length - i) c']).run Try.prog w = .ok (.tuple #[]) w' ∧ Ints w' (some ⟨g, 0, none⟩) c (xs.take i) ∧ Fr [g] w w' := by
  have hl := h.1
  rcases h.2 with ⟨h1, _⟩ | ⟨g', cap, cur, hv, hb, hg, hn, hm, hs, ht⟩
  · cases h1
  · simp only [Value.slice.injEq, Option.some.injEq, Addr.mk.injEq, and_true, true_and] at hv
    obtain ⟨rfl, rfl⟩ := hv
    have hz := zi_length (xs.length - i)
    have hst := run_storeCells_at (P := Try.prog) g i 3 (zi (xs.length - i)) 0 cur w hg (by rw [hz, Nat.add_zero, hs]; omega) (zi_mem _)
    obtain ⟨m, hm2⟩ : ∃ m, xs.length - i = m + 1 := ⟨xs.length - i - 1, by omega⟩
    obtain ⟨new, hnew⟩ : ∃ new, cur.toList.take (i + 0) ++ zi (xs.length - i) ++ cur.toList.drop (i + 0 + (zi (xs.length - i)).length) = new := ⟨_, rfl⟩
    rw [hnew] at hst
    have hlen : new.length = c := by
      rw [← hnew]
      simp only [List.length_append, List.length_take, List.length_drop, hz, Array.length_toList, hs]
      omega
    have htk : new.take i = (xs.take i).map (Value.int .i64) := by
      rw [List.map_take, ← ht, ← hnew, List.take_take, List.append_assoc, Nat.add_zero, List.take_append_of_le_length (by rw [List.length_take, Array.length_toList, hs]; omega), List.take_take]
      congr 1
      omega
    clear hnew
    refine ⟨w.setRow g new.toArray, ?_, ?_, ?_⟩
    · rw [hm2] at hst ⊢
      exact run_cleari_of _ _ _ _ _ _ _ hst
    · have hli : (xs.take i).length = i := by rw [List.length_take]; omega
      refine ⟨by simp, .inr ⟨g, c, new.toArray, rfl, hb, setRow_heap w g cur _ _ _ hg, by omega, hm, by rw [List.size_toArray, hlen]; omega, ?_⟩⟩
      rw [hli]
      simpa using htk
    · refine ⟨rfl, rfl, rfl, by simp, fun k _ hk => setRow_other _ _ _ _ (fun e => hk (by simp [e]))⟩

theorem norm1 (w : World) (x : Int) : Calls Try.prog 80 #[.int .i64 x] w fun e w' => e = .returned (.bool (x == 0)) ∧ Fr [] w w' := by
  obtain ⟨q, HQ⟩ : ∃ q : Bool, Hid ((x == 0) = q) := ⟨(x == 0), Lib.hid rfl⟩
  have hq := HQ.out
  rw [hq]
  cases q with
  | true =>
    go_enter Try.func80, Try.ntmps80
    go_wp2_with fail
    go_ret
    exact ⟨by first | rfl | simp [HQ.out], Fr.refl _ _⟩
  | false =>
    go_enter Try.func80, Try.ntmps80
    go_wp2_with fail
    go_ret
    exact ⟨by first | rfl | simp [HQ.out], Fr.refl _ _⟩
theorem enters80 : ∀ args w, (callFunc 80 args).run Try.prog w = .ok (.enter 80 args) w := enters_of Try.func80 (by kernel_rfl) rfl

end Go.Proofs.Ytbjccgahmgpkjaa
namespace Go.Proofs.Ytbjccgahmgpkjaa
open Go.RowKit
set_option linter.unusedVariables false

def IxZ (len : Nat) (w : World) (e : Ending) (w' : World) : Prop := (e = .returned (.int .i64 (-1)) ∨ ∃ n : Nat, e = .returned (.int .i64 n) ∧ n < len) ∧ Fr [] w w'
set_option maxHeartbeats 1000000 in
theorem index_zero (w : World) (A : Option Addr) (c : Nat) (xs : List Int) (h : Rd w A xs) (hr : Ra xs) (hl : xs.length ≤ 17592186044416) :
    Calls Try.prog 63 #[.slice A xs.length c, .func (.func 80) #[] #[]] w (IxZ xs.length w) := by
  have HH := Lib.hid h
  have HR := Lib.hid hr
  have YES : Hid (∀ (n : Nat) W, n < xs.length → Fr [] w W → IxZ xs.length w (.returned (.int .i64 (n : Int))) W) := fun n W h1 h3 => ⟨.inr ⟨n, rfl, h1⟩, h3⟩
  have NO : Hid (∀ W, Fr [] w W → IxZ xs.length w (.returned (.int .i64 (-1))) W) := fun W h3 => ⟨.inl rfl, h3⟩
  have eg := enters80
  clear h hr
  go_enter Try.func63, Try.ntmps63
  go_wp2_with fail
  go_loopg [8] xs.length (fun g i wr => ∃ k : Nat, k + g = xs.length ∧ i = .int .i64 k ∧ Fr [] w wr)
  case atStart => exact ⟨0, by omega, rfl, Fr.refl _ _⟩
  case round =>
    obtain ⟨k, hk, rfl, hx⟩ := hrel
    have HK := Lib.hid hk
    have HX := Lib.hid hx
    have hkn : k ≤ xs.length := by omega
    clear hk hx
    by_cases hlt : k < xs.length
    · obtain ⟨b, o, x, hA, he, cx, hx1, hx2⟩ := (HH.out.keep HX.out).one HR.out hlt
      subst hA
      obtain ⟨q, HQ⟩ : ∃ q : Bool, Hid ((x == 0) = q) := ⟨(x == 0), Lib.hid rfl⟩
      have HC := Lib.hid (norm1 wr x)
      rw [HQ.out] at HC
      go_wp2_with fail
      refine HC.out.mono ?_
      rintro e w2 ⟨rfl, hf⟩
      have HF := Lib.hid (HX.out.then_ hf)
      clear hf
      cases q with
      | true =>
        go_wp2_with fail
        go_ret
        exact YES.out k _ hlt HF.out
      | false =>
        go_wp2_with fail
        go_roundg (gk - 1)
        case measure => have := HK.out; omega
        case rel => exact ⟨k + 1, by have := HK.out; omega, by go_num, HF.out⟩
    · clear HK
      go_wp2_with fail
      go_ret
      exact NO.out _ HX.out

/-- Some list in the same row. -/
def SoP (A : Option Addr) (c : Nat) (n : Nat) (w : World) (e : Ending) (w' : World) : Prop := ∃ ys : List Int, e = .returned (.slice A ys.length c) ∧ Ints w' A c ys ∧ Ra ys ∧ ys.length ≤ n ∧ Fr (blks A) w w'
theorem Ra.set {xs : List Int} (h : Ra xs) (i : Nat) {x : Int} (hx : R64 x) : Ra (xs.set i x) := by
  refine (mem_idx (p := R64)).2 fun y hy => ?_
  rcases List.mem_or_eq_of_mem_set hy with h1 | h1
  · exact (mem_idx (p := R64)).1 h y h1
  · rw [h1]; exact hx
theorem Ra.take {xs : List Int} (h : Ra xs) (i : Nat) : Ra (xs.take i) := (mem_idx (p := R64)).2 fun y hy => (mem_idx (p := R64)).1 h y (List.mem_of_mem_take hy)

set_option maxHeartbeats 4000000 in
theorem deletez_calls (w : World) (g c : Nat) (xs : List Int) (h : Ints w (some ⟨g, 0, none⟩) c xs) (hr : Ra xs) (hl : xs.length ≤ 17592186044416) :
    Calls Try.prog 79 #[.slice (some ⟨g, 0, none⟩) xs.length c, .func (.func 80) #[] #[]] w (SoP (some ⟨g, 0, none⟩) c xs.length w) := by
  have HH := Lib.hid h
  have HR := Lib.hid hr
  have hcn : xs.length ≤ c ∧ c ≤ maxLen := by
    rcases h.form with ⟨h1, _⟩ | ⟨g', h1, _, h2, h3⟩
    · cases h1
    · exact ⟨h2, h3⟩
  have hcm := hcn.2
  have hcn := hcn.1
  rw [maxLen] at hcm
  have NO : Hid (∀ W, Fr [] w W → SoP (some ⟨g, 0, none⟩) c xs.length w (.returned (.slice (some ⟨g, 0, none⟩) xs.length c)) W) := fun W h2 => ⟨xs, rfl, HH.out.fr h2 (by simp), HR.out, Nat.le_refl _, h2.mono (by simp)⟩
  have YES : Hid (∀ (i : Nat) (L : List Int) W W', i < L.length → L.length = xs.length → Ra L → Fr [g] w W → Ints W' (some ⟨g, 0, none⟩) c (L.take i) → Fr [g] W W' → SoP (some ⟨g, 0, none⟩) c xs.length w (.returned (.slice (some ⟨g, 0, none⟩) i c)) W') := fun i L W W' h1 h2 h3 h4 h5 h6 => by
    have hi : (L.take i).length = i := by rw [List.length_take]; omega
    refine ⟨L.take i, by rw [hi], h5, h3.take i, by omega, by simpa [blks] using h4.then_ h6⟩
  have HI := Lib.hid (index_zero w (some ⟨g, 0, none⟩) c xs h.rd hr hl)
  have eg := enters80
  clear h hr
  go_enter Try.func79, Try.ntmps79
  go_wp2_with fail
  refine HI.out.mono ?_
  rintro e w1 ⟨hc, hf1⟩
  have HF1 := Lib.hid hf1
  clear hf1
  rcases hc with rfl | ⟨n, rfl, hn⟩
  · go_wp2_with fail
    go_ret
    exact NO.out _ HF1.out
  · have HO0 := Lib.hid (HH.out.fr HF1.out (by simp))
    have HNE : Hid (((n : Int) == -1) = false) := (beq_eq_false_iff_ne.2 (by omega) : ((n : Int) == -1) = false)
    go_wp2_with fail
    go_loopg [5, 6] (xs.length - (n + 1)) (fun gk x5 x6 wr => ∃ (i j : Nat) (L : List Int), j + gk = xs.length ∧ x5 = .int .i64 i ∧ x6 = .int .i64 j ∧ i < j ∧ L.length = xs.length ∧ Ra L ∧ Ints wr (some ⟨g, 0, none⟩) c L ∧ Fr [g] w wr)
    case atStart => exact ⟨n, n + 1, xs, by omega, rfl, by go_num, by omega, rfl, HR.out, HO0.out, HF1.out.mono (by simp)⟩
    case round =>
      obtain ⟨i, j, L, hk, rfl, rfl, hij, hLl, hLr, ho, hf⟩ := hrel
      have HK := Lib.hid hk
      have HO := Lib.hid ho
      have HF := Lib.hid hf
      have HLR := Lib.hid hLr
      have hjl : j ≤ xs.length := by omega
      have HLL := Lib.hid hLl
      clear hk ho hf HO0 HF1 hLr hLl
      by_cases hlt : j < xs.length
      · obtain ⟨b, o, x, hA, he, cx, hx1, hx2⟩ := (HO.out.rd).one HLR.out (j := j) (by rw [HLL.out]; exact hlt)
        simp only [Option.some.injEq, Addr.mk.injEq, and_true] at hA
        obtain ⟨rfl, rfl⟩ := hA
        rw [Nat.zero_add] at cx
        obtain ⟨q, HQ⟩ : ∃ q : Bool, Hid ((x == 0) = q) := ⟨(x == 0), Lib.hid rfl⟩
        have HC := Lib.hid (norm1 wr x)
        rw [HQ.out] at HC
        go_wp2_with fail
        refine HC.out.mono ?_
        clear HC cx
        rintro e w3 ⟨rfl, hf⟩
        have HF3 : Hid (Fr [g] w w3) := HF.out.then_ (hf.mono (by simp))
        have HO3 := Lib.hid (HO.out.fr hf (by simp))
        clear HF HO hf
        cases q with
        | true =>
          go_wp2_with fail
          go_roundg (gk - 1)
          case measure => have := HK.out; omega
          case rel => exact ⟨i, j + 1, L, by have := HK.out; omega, rfl, by go_num, by omega, HLL.out, HLR.out, HO3.out, HF3.out⟩
        | false =>
          have hiL : i < L.length := by rw [HLL.out]; omega
          have f0 := HO3.out.frozen i
          have c0 := HO3.out.cell hiL
          go_wp2_with fail
          go_roundg (gk - 1)
          case measure => have := HK.out; omega
          case rel => exact ⟨i + 1, j + 1, L.set i x, by have := HK.out; omega, by go_num, by go_num, by omega, by rw [List.length_set]; exact HLL.out, HLR.out.set i ⟨hx1, hx2⟩, HO3.out.set_ i x, HF3.out.setCell (.inl (by simp)) _⟩
      · obtain rfl : j = xs.length := by omega
        have hcl0 := run_clear_ints wr g c i 0 (c - i) L HO.out (by rw [HLL.out]; exact hij)
        rw [HLL.out] at hcl0
        obtain ⟨w2, hcl, hr2, hf2⟩ := hcl0
        go_wp2_with fail
        go_ret
        exact YES.out i L wr _ (by rw [HLL.out]; exact hij) HLL.out HLR.out HF.out hr2 hf2

end Go.Proofs.Ytbjccgahmgpkjaa
namespace Go.Proofs.Ytbjccgahmgpkjaa
open Go.RowKit
set_option linter.unusedVariables false

set_option maxHeartbeats 4000000 in
theorem compact_calls (w : World) (g c : Nat) (xs : List Int) (h : Ints w (some ⟨g, 0, none⟩) c xs) (hr : Ra xs) (hl : xs.length ≤ 17592186044416) :
    Calls Try.prog 83 #[.slice (some ⟨g, 0, none⟩) xs.length c] w (SoP (some ⟨g, 0, none⟩) c xs.length w) := by
  have HH := Lib.hid h
  have HR := Lib.hid hr
  have hcn : xs.length ≤ c ∧ c ≤ maxLen := by
    rcases h.form with ⟨h1, _⟩ | ⟨g', h1, _, h2, h3⟩
    · cases h1
    · exact ⟨h2, h3⟩
  have hcm := hcn.2
  have hcn := hcn.1
  rw [maxLen] at hcm
  have NO : Hid (∀ W, Fr [] w W → SoP (some ⟨g, 0, none⟩) c xs.length w (.returned (.slice (some ⟨g, 0, none⟩) xs.length c)) W) := fun W h2 => ⟨xs, rfl, HH.out.fr h2 (by simp), HR.out, Nat.le_refl _, h2.mono (by simp)⟩
  have YES : Hid (∀ (i : Nat) (L : List Int) W W', i < L.length → L.length = xs.length → Ra L → Fr [g] w W → Ints W' (some ⟨g, 0, none⟩) c (L.take i) → Fr [g] W W' → SoP (some ⟨g, 0, none⟩) c xs.length w (.returned (.slice (some ⟨g, 0, none⟩) i c)) W') := fun i L W W' h1 h2 h3 h4 h5 h6 => by
    have hi : (L.take i).length = i := by rw [List.length_take]; omega
    refine ⟨L.take i, by rw [hi], h5, h3.take i, by omega, by simpa [blks] using h4.then_ h6⟩
  clear h hr
  by_cases h2 : xs.length < 2
  · have d2 : decide ((xs.length : Int) < 2) = true := decide_eq_true (by omega)
    go_enter Try.func83, Try.ntmps83
    go_wp2_with fail
    go_ret
    exact NO.out _ (Fr.refl _ _)
  · have d2 : decide ((xs.length : Int) < 2) = false := decide_eq_false (by omega)
    go_enter Try.func83, Try.ntmps83
    go_wp2_with fail
    go_loopg [3] (xs.length - 1) (fun gk x3 wr => ∃ j : Nat, j + 1 + gk = xs.length ∧ x3 = .int .i64 ((j + 1 : Nat) : Int) ∧ Fr [] w wr)
    case atStart => exact ⟨0, by omega, rfl, Fr.refl _ _⟩
    case round =>
      obtain ⟨j, hk, rfl, hf⟩ := hrel
      have HK := Lib.hid hk
      have HF := Lib.hid hf
      have HO := Lib.hid (HH.out.fr hf (by simp))
      have hjn : j + 1 ≤ xs.length := by omega
      clear hk hf
      by_cases hlt : j + 1 < xs.length
      · obtain ⟨b, o, x, hA, he, cx, hx1, hx2⟩ := (HO.out.rd).one HR.out hlt
        obtain ⟨b', o', x', hA', he', cx', hx1', hx2'⟩ := (HO.out.rd).one HR.out (j := j) (by omega)
        simp only [Option.some.injEq, Addr.mk.injEq, and_true] at hA hA'
        obtain ⟨rfl, rfl⟩ := hA
        obtain ⟨rfl, rfl⟩ := hA'
        rw [Nat.zero_add] at cx cx'
        have e1 := Ext.cell cx
        have e2 := Ext.cell cx'
        obtain ⟨q, HQ⟩ : ∃ q : Bool, Hid ((x == x') = q) := ⟨(x == x'), Lib.hid rfl⟩
        have hq := HQ.out
        have hw1 : IntKind.i64.wrap (((j + 1 : Nat) : Int) - 1) = (j : Int) := by rw [IntKind.wrap_i64]; omega
        cases q with
        | false =>
          go_wp2_with fail
          refine wp_region_ext (by kernel_rfl) (by kernel_rfl) ?_
          repeat (go_big_quiet_step (fail))
          refine wpQuiet_nil ?_
          rintro w2 ⟨u2, hu2⟩
          have HF_w2 : Hid (Fr [] wr w2) := hu2 ▸ u2.fr
          clear hu2 u2
          clear cx cx' e1 e2
          go_wp2_with fail
          go_roundg (gk - 1)
          case measure => have := HK.out; omega
          case rel => exact ⟨j + 1, by have := HK.out; omega, by go_num, HF.out.then_ HF_w2.out⟩
        | true =>
          go_wp2_with fail
          refine wp_region_ext (by kernel_rfl) (by kernel_rfl) ?_
          repeat (go_big_quiet_step (fail))
          refine wpQuiet_nil ?_
          rintro w2 ⟨u2, hu2⟩
          have HF_w2 : Hid (Fr [] wr w2) := hu2 ▸ u2.fr
          clear hu2 u2
          clear cx cx' e1 e2 hq hw1
          have HO2 := Lib.hid (HO.out.fr HF_w2.out (by simp))
          have HF2 := Lib.hid (HF.out.then_ HF_w2.out)
          clear HO HF HF_w2
          go_wp2_with fail
          generalize hM2 : xs.length - (j + 1) = M2
          go_loopg [3, 5] (M2 - 1) (fun gk x3 x5 wr => ∃ (k m : Nat) (L : List Int), m + 1 + gk = M2 ∧ x3 = .int .i64 k ∧ x5 = .int .i64 ((m + 1 : Nat) : Int) ∧ j + 1 ≤ k ∧ k < j + 1 + (m + 1) ∧ L.length = xs.length ∧ Ra L ∧ Ints wr (some ⟨g, 0, none⟩) c L ∧ Fr [g] w wr)
          case atStart => exact ⟨j + 1, 0, xs, by omega, by go_num, by go_num, by omega, by omega, rfl, HR.out, HO2.out, HF2.out.mono (by simp)⟩
          case round =>
            obtain ⟨k, m, L, hk, rfl, rfl, hk1, hk2, hLl, hLr, ho, hf⟩ := hrel
            have HK := Lib.hid hk
            have HF := Lib.hid hf
            have HO := Lib.hid ho
            have HLL := Lib.hid hLl
            have HLR := Lib.hid hLr
            have hmn : m + 1 ≤ M2 := by omega
            clear hk hf ho hLl hLr HO2 HF2
            by_cases hlt2 : m + 1 < M2
            · obtain ⟨b, o, y, hA, he, cy, hy1, hy2⟩ := (HO.out.rd).one HLR.out (j := j + 1 + (m + 1)) (by rw [HLL.out]; omega)
              obtain ⟨b', o', y', hA', he', cy', hy1', hy2'⟩ := (HO.out.rd).one HLR.out (j := j + 1 + m) (by rw [HLL.out]; omega)
              simp only [Option.some.injEq, Addr.mk.injEq, and_true] at hA hA'
              obtain ⟨rfl, rfl⟩ := hA
              obtain ⟨rfl, rfl⟩ := hA'
              rw [Nat.zero_add] at cy cy'
              have e1 := Ext.cell cy
              have e2 := Ext.cell cy'
              have hw1 : IntKind.i64.wrap (((m + 1 : Nat) : Int) - 1) = (m : Int) := by rw [IntKind.wrap_i64]; omega
              obtain ⟨q, HQ⟩ : ∃ q : Bool, Hid ((y != y') = q) := ⟨(y != y'), Lib.hid rfl⟩
              have hq := HQ.out
              cases q with
              | false =>
                go_wp2_with fail
                refine wp_region_ext (by kernel_rfl) (by kernel_rfl) ?_
                repeat (go_big_quiet_step (fail))
                refine wpQuiet_nil ?_
                rintro w2 ⟨u2, hu2⟩
                have HF_w2 : Hid (Fr [] wr w2) := hu2 ▸ u2.fr
                clear hu2 u2
                clear cy cy' e1 e2
                go_wp2_with fail
                go_roundg (gk - 1)
                case measure => have := HK.out; omega
                case rel => exact ⟨k, m + 1, L, by have := HK.out; omega, rfl, by go_num, hk1, by omega, HLL.out, HLR.out, HO.out.fr HF_w2.out (by simp), HF.out.then_ (HF_w2.out.mono (by simp))⟩
              | true =>
                go_wp2_with fail
                refine wp_region_ext (by kernel_rfl) (by kernel_rfl) ?_
                repeat (go_big_quiet_step (fail))
                refine wpQuiet_nil ?_
                rintro w2 ⟨u2, hu2⟩
                have HF_w2 : Hid (Fr [] wr w2) := hu2 ▸ u2.fr
                clear hu2 u2
                have HO3 := Lib.hid (HO.out.fr HF_w2.out (by simp))
                have HF3 : Hid (Fr [g] w w2) := HF.out.then_ (HF_w2.out.mono (by simp))
                have cy2 := HF_w2.out.cellS cy
                clear cy cy' e1 e2 hq hw1 HF HO HF_w2
                have hkL : k < L.length := by rw [HLL.out]; omega
                have f0 := HO3.out.frozen k
                have c0 := HO3.out.cell hkL
                go_wp2_with fail
                go_roundg (gk - 1)
                case measure => have := HK.out; omega
                case rel => exact ⟨k + 1, m + 1, L.set k y, by have := HK.out; omega, by go_num, by go_num, by omega, by omega, by rw [List.length_set]; exact HLL.out, HLR.out.set k ⟨hy1, hy2⟩, HO3.out.set_ k y, HF3.out.setCell (.inl (by simp)) _⟩
            · obtain rfl : M2 = m + 1 := by omega
              have hkl : k < xs.length := by omega
              have hcl0 := run_clear_ints wr g c k 0 (c - k) L HO.out (by rw [HLL.out]; exact hkl)
              rw [HLL.out] at hcl0
              obtain ⟨w2, hcl, hr2, hf2⟩ := hcl0
              go_wp2_with fail
              go_ret
              exact YES.out k L wr _ (by rw [HLL.out]; exact hkl) HLL.out HLR.out HF.out hr2 hf2
      · clear HK
        go_wp2_with fail
        go_ret
        exact NO.out _ HF.out

end Go.Proofs.Ytbjccgahmgpkjaa
