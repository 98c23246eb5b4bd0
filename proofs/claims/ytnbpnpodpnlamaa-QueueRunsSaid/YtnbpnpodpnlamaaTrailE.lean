/- The trail's Back, walked. -/
import Derived.Test.YtnbpnpodpnlamaaTrailD
import Derived.BigRegion
namespace Go.Proofs.Ytnbpnpodpnlamaa
open Go.RowKit
set_option linter.unusedVariables false

def clearL (cs : List Cel) (ls : List Int) : List Cel := ls.foldl (fun cs l => cs.set (tv l).toNat Cel.free) cs
theorem clearL_snoc (cs : List Cel) (ls : List Int) (l : Int) : clearL cs (ls ++ [l]) = (clearL cs ls).set (tv l).toNat Cel.free := by simp [clearL]
theorem clearL_len (cs : List Cel) (ls : List Int) : (clearL cs ls).length = cs.length := by
  unfold clearL
  induction ls generalizing cs with
  | nil => rfl
  | cons l ls ih => rw [List.foldl_cons, ih, List.length_set]
theorem take_snoc {α : Type} [Inhabited α] (l : List α) (j : Nat) (h : j < l.length) : l.take (j + 1) = l.take j ++ [l[j]!] := by
  rw [List.take_add_one, List.getElem?_eq_getElem h, List.getElem!_eq_getElem?_getD, List.getElem?_eq_getElem h]; rfl
theorem drop_get {α : Type} [Inhabited α] (l : List α) (n j : Nat) : (l.drop n)[j]! = l[n + j]! := by
  simp [List.getElem!_eq_getElem?_getD, List.getElem?_drop]

def Tr.cutF (T : Tr) (m n : Nat) : Tr := { cells := clearL T.cells (T.lits.drop n), lits := T.lits.take n, levels := T.levels.take m }
def Tr.backF (T : Tr) (m : Nat) : Tr := if m < T.levels.length then T.cutF m (T.levels[m]!).toNat else T

theorem TrAt.cut {w : World} {L : TrL} {T : Tr} (h : TrAt w L T) (n m : Nat) (hn : n ≤ T.lits.length) (hm : m ≤ T.levels.length) :
    TrAt ((w.setCell ⟨L.a, 1, none⟩ (.slice L.A2 n L.c2)).setCell ⟨L.a, 2, none⟩ (.slice L.A3 m L.c3)) L { T with lits := T.lits.take n, levels := T.levels.take m } := by
  obtain ⟨h1, h2, h3⟩ := tnodup3 h.nodup
  have n1 : L.a ∉ blks L.A1 := fun k => (h1 _ k).1 rfl
  have n2 : L.a ∉ blks L.A2 := fun k => (h2 _ k).1 rfl
  have n3 : L.a ∉ blks L.A3 := fun k => (h3 _ k).1 rfl
  refine ⟨?_, (h.cells.far n1 _).far n1 _, ((h.lits.take_ n).far n2 _).far n2 _, ((h.levels.take_ m).far n3 _).far n3 _, h.nodup⟩
  have := (h.obj.set_ 1 (.slice L.A2 n L.c2)).set_ 2 (.slice L.A3 m L.c3)
  simpa [Nat.min_eq_left hn, Nat.min_eq_left hm] using this
theorem TrAt.cut2 {w : World} {L : TrL} {T : Tr} (h : TrAt w L T) (n m : Nat) (hn : n ≤ T.lits.length) (hm : m ≤ T.levels.length) :
    TrAt ((w.setCell ⟨L.a, 2, none⟩ (.slice L.A3 m L.c3)).setCell ⟨L.a, 1, none⟩ (.slice L.A2 n L.c2)) L { T with lits := T.lits.take n, levels := T.levels.take m } := by
  obtain ⟨h1, h2, h3⟩ := tnodup3 h.nodup
  have n1 : L.a ∉ blks L.A1 := fun k => (h1 _ k).1 rfl
  have n2 : L.a ∉ blks L.A2 := fun k => (h2 _ k).1 rfl
  have n3 : L.a ∉ blks L.A3 := fun k => (h3 _ k).1 rfl
  refine ⟨?_, (h.cells.far n1 _).far n1 _, ((h.lits.take_ n).far n2 _).far n2 _, ((h.levels.take_ m).far n3 _).far n3 _, h.nodup⟩
  have := (h.obj.set_ 2 (.slice L.A3 m L.c3)).set_ 1 (.slice L.A2 n L.c2)
  simpa [Nat.min_eq_left hn, Nat.min_eq_left hm] using this


set_option maxRecDepth 100000 in
set_option maxHeartbeats 1000000 in
theorem trail_back_p_nil (w : World) (m : Nat) :
    Calls Try.prog 16 #[.pointer none, .int .i64 m] w fun e w' => e = .returned (.tuple #[]) ∧ w = w' := by
  go_enter Try.func16, Try.ntmps16
  go_wp2_with fail
  refine bodyPost_ret (results_none rfl _ _ _) rfl ?_
  exact ⟨rfl, rfl⟩
set_option maxRecDepth 100000 in
set_option maxHeartbeats 1000000 in
theorem trail_back_p_out (w : World) (L : TrL) (T : Tr) (h : TrAt w L T) (m : Nat) (hm : T.levels.length ≤ m) :
    Calls Try.prog 16 #[.pointer (some ⟨L.a, 0, none⟩), .int .i64 m] w fun e w' => e = .returned (.tuple #[]) ∧ w = w' := by
  have o2 := h.obj.cell 2
  simp at o2
  clear h
  go_enter Try.func16, Try.ntmps16
  go_wp2_with fail
  refine bodyPost_ret (results_none rfl _ _ _) rfl ?_
  exact ⟨rfl, rfl⟩
set_option maxRecDepth 100000 in
set_option maxHeartbeats 2000000 in
theorem trail_back_p_go (w : World) (L : TrL) (T : Tr) (h : TrAt w L T) (m : Nat) (hm : m < T.levels.length) (n : Nat) (hn : T.levels[m]! = n) (hnl : n ≤ T.lits.length) (hlits : ∀ j : Nat, j < T.lits.length → T.isB (tv T.lits[j]!) = true) :
    Calls Try.prog 16 #[.pointer (some ⟨L.a, 0, none⟩), .int .i64 m] w fun e w' => e = .returned (.tuple #[]) ∧ TrAt w' L (T.cutF m n) ∧ Fr L.fp w w' := by
  have o1 := h.obj.cell 1
  have o2 := h.obj.cell 2
  simp at o1 o2
  obtain ⟨g3, hg3, _⟩ := h.levels.pos (i := m) hm
  have c3 := h.levels
  rw [hg3] at c3 o2
  have cl := c3.cell (i := m) hm
  rw [hn] at cl
  have hm' : (m : Int) < T.levels.length := by omega
  have hdec : decide (T.levels.length ≤ m) = false := decide_eq_false (by omega)
  have hcl := h.cells.len
  unfold maxLen at hcl
  have H2 := Lib.hid h.lits.form
  have HH := Lib.hid h
  have HN := Lib.hid hn
  have HL := Lib.hid hlits
  have HG3 := Lib.hid hg3
  have HCL := Lib.hid hcl
  have hnl' : (n : Int) ≤ T.lits.length := by omega
  have hcap3 : m ≤ L.c3 := by
    rcases h.levels.form with ⟨_, _, h0⟩ | ⟨_, _, _, h0, _⟩
    · rw [h0] at hm; simp at hm
    · omega
  clear h hn hlits hg3 c3 hcl
  by_cases hlt : n < T.lits.length
  · rcases H2.out with ⟨hA, hc, he⟩ | ⟨g, hA, hgl, hlc, hcm⟩
    · rw [he] at hlt
      exact absurd hlt (Nat.not_lt_zero _)
    rw [hA] at o1
    have HA := Lib.hid hA
    unfold maxLen at hcm
    have hn2 : n < L.c2 := by omega
    have hn3 : ¬ L.c2 = n := by omega
    clear hA H2
    go_enter Try.func16, Try.ntmps16
    go_wp2_with fail
    clear o1 o2 cl
    try rw [hdec]
    go_loopg [34] (T.lits.length - n) (fun gk i wr => ∃ j : Nat, j + gk = T.lits.length - n ∧ i = .int .i64 j ∧ TrAt wr L { T with cells := clearL T.cells ((T.lits.drop n).take j) } ∧ Fr L.fp w wr)
    case atStart => exact ⟨0, by omega, rfl, by simpa [clearL] using HH.out, Fr.refl _ _⟩
    case round =>
      obtain ⟨j, hj, rfl, hT, hF⟩ := hrel
      have o0 := hT.obj.cell 0
      have o1 := hT.obj.cell 1
      have o2 := hT.obj.cell 2
      have oa := hT.obj.frozen 1
      have ob := hT.obj.frozen 2
      simp [clearL_len] at o0 o1 o2
      have HF := Lib.hid hF
      have HJ := Lib.hid hj
      clear hF hj
      by_cases hjl : j < T.lits.length - n
      · have hjl' : (j : Int) < (T.lits.length - n : Nat) := by omega
        have ci := hT.lits
        rw [HA.out] at ci o1
        have c4 := ci.cell (i := n + j) (by show n + j < T.lits.length; omega)
        have hx := HL.out (n + j) (by omega)
        have hsn : (T.lits.drop n).take (j + 1) = (T.lits.drop n).take j ++ [T.lits[n + j]!] := by
          rw [take_snoc _ _ (by simp; omega), drop_get]
        simp only at c4
        obtain ⟨x, hxe⟩ : ∃ x, T.lits[n + j]! = x := ⟨_, rfl⟩
        rw [hxe] at c4 hx hsn
        obtain ⟨h0, h1⟩ := Tr.isB_true hx
        have hl1 : ((clearL T.cells ((T.lits.drop n).take j)).length : Int) = T.cells.length := by rw [clearL_len]
        have hcl := HCL.out
        have HS := Lib.hid hsn
        clear ci hx hsn hxe
        by_cases hx0 : 0 ≤ x
        · have ht := tv_nat hx0
          rw [ht] at h0 h1
          obtain ⟨gc, hgc, b0, b1, b2, fz⟩ := hT.cell_at (v := x) (by omega) (by simpa [clearL_len] using h1)
          rw [hgc] at o0
          have f0 := fz (x.toNat * 3)
          have f1 := fz (x.toNat * 3 + 1)
          have f2 := fz (x.toNat * 3 + 2)
          have hM := hT.setC hgc (i := x.toNat) (by rw [clearL_len]; omega) Cel.free
          have hMF := TrAt.setC_fr wr L hgc (x.toNat * 3) (x.toNat * 3 + 1) (x.toNat * 3 + 2) (.int .i64 0) (.int .i64 (-1)) (.int .i64 0)
          have HM := Lib.hid hM
          have HMF := Lib.hid hMF
          have HT := Lib.hid ht
          clear hM hMF ht hT fz hgc hl1
          go_wp2_with fail
          go_roundg (gk - 1)
          case measure => have := HJ.out; omega
          case rel => exact ⟨j + 1, by have := HJ.out; omega, by go_num, by rw [HS.out, clearL_snoc, HT.out]; exact HM.out, HF.out.then_ HMF.out⟩
        · have hx1 : x < 0 := by omega
          have hx2 : -9223372036854775808 < x := by
            have hb := HL.out
            by_cases e : x = -9223372036854775808
            · rw [tv_least e] at h0; omega
            · have h1' := h1
              unfold tv at h1'
              rw [if_neg e, if_pos hx1] at h1'
              omega
          have ht := tv_neg hx1 hx2
          rw [ht] at h0 h1
          obtain ⟨gc, hgc, b0, b1, b2, fz⟩ := hT.cell_at (v := -x) (by omega) (by simpa [clearL_len] using h1)
          rw [hgc] at o0
          have f0 := fz ((-x).toNat * 3)
          have f1 := fz ((-x).toNat * 3 + 1)
          have f2 := fz ((-x).toNat * 3 + 2)
          have hM := hT.setC hgc (i := (-x).toNat) (by rw [clearL_len]; omega) Cel.free
          have hMF := TrAt.setC_fr wr L hgc ((-x).toNat * 3) ((-x).toNat * 3 + 1) ((-x).toNat * 3 + 2) (.int .i64 0) (.int .i64 (-1)) (.int .i64 0)
          have HM := Lib.hid hM
          have HMF := Lib.hid hMF
          have HT := Lib.hid ht
          clear hM hMF ht hT fz hgc hl1
          go_wp2_with fail
          go_roundg (gk - 1)
          case measure => have := HJ.out; omega
          case rel => exact ⟨j + 1, by have := HJ.out; omega, by go_num, by rw [HS.out, clearL_snoc, HT.out]; exact HM.out, HF.out.then_ HMF.out⟩
      · have hje : j = T.lits.length - n := by have := HJ.out; omega
        have hjl' : ((T.lits.length - n : Nat) : Int) ≤ j := by omega
        have htk : (T.lits.drop n).take j = T.lits.drop n := by rw [hje, List.take_of_length_le (by simp)]
        have hC1 := hT.cut n m (by omega) (by show m ≤ T.levels.length; omega)
        have hC2 := hT.cut2 n m (by omega) (by show m ≤ T.levels.length; omega)
        rw [htk] at hC1 hC2
        rw [HA.out] at o1
        rw [HG3.out] at o2
        rw [HA.out, HG3.out] at hC1 hC2
        have HC1 := Lib.hid hC1
        have HC2 := Lib.hid hC2
        have hlta := hT.lt L.a (by simp [TrL.fp])
        clear hC1 hC2 htk hje hT
        go_wp2_with fail
        go_region
        all_goals go_end0
        all_goals refine ⟨rfl, ?_, ?_⟩
        all_goals first | exact HC1.out.drew | exact HC2.out.drew | (refine ((HF.out.setCell (.inl ?_) _).setCell (.inl ?_) _).drew <;> simp [TrL.fp])
  · have hne : T.lits.length = n := by omega
    have hz : T.lits.drop n = [] := by rw [← hne]; simp
    have hC1 := HH.out.cut n m (by omega) (by omega)
    have hC2 := HH.out.cut2 n m (by omega) (by omega)
    have HC1 := Lib.hid hC1
    have HC2 := Lib.hid hC2
    have HZ : Hid (T.cutF m n = { T with lits := T.lits.take n, levels := T.levels.take m }) := by show _ = _; unfold Tr.cutF; rw [hz]; rfl
    have hlta := HH.out.lt L.a (by simp [TrL.fp])
    have oa := HH.out.obj.frozen 1
    have ob := HH.out.obj.frozen 2
    rw [hne] at o1 hnl'
    clear hC1 hC2 hz hnl
    rw [HZ.out]
    rcases H2.out with ⟨hA, hc, he⟩ | ⟨g, hA, hgl, hlc, hcm⟩
    · have en : n = 0 := by rw [he] at hne; simpa using hne.symm
      subst en
      rw [hA, hc] at o1
      rw [hA, hc, HG3.out] at HC1 HC2
      clear hA hc he H2 hne hlt
      go_enter Try.func16, Try.ntmps16
      go_wp2_with fail
      try rw [hdec]
      go_loopg [34] 0 (fun gk i wr => i = .int .i64 0 ∧ w = wr)
      case atStart => exact ⟨rfl, rfl⟩
      case round =>
        obtain ⟨rfl, rfl⟩ := hrel
        go_wp2_with fail
        go_region
        all_goals go_end0
        all_goals refine ⟨rfl, ?_, ?_⟩
        all_goals first | exact HC1.out.drew | exact HC2.out.drew | (refine (((Fr.refl L.fp w).setCell (.inl ?_) _).setCell (.inl ?_) _).drew <;> simp [TrL.fp])
    · rw [hA] at o1
      rw [hA, HG3.out] at HC1 HC2
      have hn2 : n ≤ L.c2 := by omega
      clear hA H2 hne hlt hlc
      by_cases hcc : L.c2 = n
      · rw [hcc] at HC1 HC2
        go_enter Try.func16, Try.ntmps16
        go_wp2_with fail
        try rw [hdec]
        go_loopg [34] 0 (fun gk i wr => i = .int .i64 0 ∧ w = wr)
        case atStart => exact ⟨rfl, rfl⟩
        case round =>
          obtain ⟨rfl, rfl⟩ := hrel
          go_wp2_with fail
          go_region
          all_goals go_end0
          all_goals refine ⟨rfl, ?_, ?_⟩
          all_goals first | exact HC1.out.drew | exact HC2.out.drew | (refine (((Fr.refl L.fp w).setCell (.inl ?_) _).setCell (.inl ?_) _).drew <;> simp [TrL.fp])
      · 
        go_enter Try.func16, Try.ntmps16
        go_wp2_with fail
        try rw [hdec]
        go_loopg [34] 0 (fun gk i wr => i = .int .i64 0 ∧ w = wr)
        case atStart => exact ⟨rfl, rfl⟩
        case round =>
          obtain ⟨rfl, rfl⟩ := hrel
          go_wp2_with fail
          go_region
          all_goals go_end0
          all_goals refine ⟨rfl, ?_, ?_⟩
          all_goals first | exact HC1.out.drew | exact HC2.out.drew | (refine (((Fr.refl L.fp w).setCell (.inl ?_) _).setCell (.inl ?_) _).drew <;> simp [TrL.fp])

set_option maxRecDepth 100000 in
set_option maxHeartbeats 1000000 in
theorem trail_back_n_nil (w : World) (level : Int) (hl : level < 0) :
    Calls Try.prog 16 #[.pointer none, .int .i64 level] w fun e w' => e = .returned (.tuple #[]) ∧ w = w' := by
  go_enter Try.func16, Try.ntmps16
  go_wp2_with fail
  refine bodyPost_ret (results_none rfl _ _ _) rfl ?_
  exact ⟨rfl, rfl⟩
set_option maxRecDepth 100000 in
set_option maxHeartbeats 1000000 in
theorem trail_back_n_out (w : World) (L : TrL) (T : Tr) (h : TrAt w L T) (level : Int) (hl : level < 0) (hm : T.levels.length ≤ 0) :
    Calls Try.prog 16 #[.pointer (some ⟨L.a, 0, none⟩), .int .i64 level] w fun e w' => e = .returned (.tuple #[]) ∧ w = w' := by
  have o2 := h.obj.cell 2
  simp at o2
  have he0 : T.levels = [] := by simpa using hm
  rw [he0] at o2
  clear he0 hm
  clear h
  go_enter Try.func16, Try.ntmps16
  go_wp2_with fail
  refine bodyPost_ret (results_none rfl _ _ _) rfl ?_
  exact ⟨rfl, rfl⟩
set_option maxRecDepth 100000 in
set_option maxHeartbeats 2000000 in
theorem trail_back_n_go (w : World) (L : TrL) (T : Tr) (h : TrAt w L T) (level : Int) (hl : level < 0) (hm : 0 < T.levels.length) (n : Nat) (hn : T.levels[0]! = n) (hnl : n ≤ T.lits.length) (hlits : ∀ j : Nat, j < T.lits.length → T.isB (tv T.lits[j]!) = true) :
    Calls Try.prog 16 #[.pointer (some ⟨L.a, 0, none⟩), .int .i64 level] w fun e w' => e = .returned (.tuple #[]) ∧ TrAt w' L (T.cutF 0 n) ∧ Fr L.fp w w' := by
  have o1 := h.obj.cell 1
  have o2 := h.obj.cell 2
  simp at o1 o2
  obtain ⟨g3, hg3, _⟩ := h.levels.pos (i := 0) hm
  have c3 := h.levels
  rw [hg3] at c3 o2
  have cl := c3.cell (i := 0) hm
  rw [hn] at cl
  have hm' : (0 : Int) < T.levels.length := by omega
  have hne0 : ¬ T.levels = [] := by rintro e; rw [e] at hm; simp at hm
  have hdec : decide (T.levels = []) = false := decide_eq_false hne0
  have hcl := h.cells.len
  unfold maxLen at hcl
  have H2 := Lib.hid h.lits.form
  have HH := Lib.hid h
  have HN := Lib.hid hn
  have HL := Lib.hid hlits
  have HG3 := Lib.hid hg3
  have HCL := Lib.hid hcl
  have hnl' : (n : Int) ≤ T.lits.length := by omega
  have hcap3 : 0 ≤ L.c3 := by
    rcases h.levels.form with ⟨_, _, h0⟩ | ⟨_, _, _, h0, _⟩
    · rw [h0] at hm; simp at hm
    · omega
  clear h hn hlits hg3 c3 hcl
  by_cases hlt : n < T.lits.length
  · rcases H2.out with ⟨hA, hc, he⟩ | ⟨g, hA, hgl, hlc, hcm⟩
    · rw [he] at hlt
      exact absurd hlt (Nat.not_lt_zero _)
    rw [hA] at o1
    have HA := Lib.hid hA
    unfold maxLen at hcm
    have hn2 : n < L.c2 := by omega
    have hn3 : ¬ L.c2 = n := by omega
    clear hA H2
    go_enter Try.func16, Try.ntmps16
    go_wp2_with fail
    clear o1 o2 cl
    try rw [hdec]
    go_loopg [34] (T.lits.length - n) (fun gk i wr => ∃ j : Nat, j + gk = T.lits.length - n ∧ i = .int .i64 j ∧ TrAt wr L { T with cells := clearL T.cells ((T.lits.drop n).take j) } ∧ Fr L.fp w wr)
    case atStart => exact ⟨0, by omega, rfl, by simpa [clearL] using HH.out, Fr.refl _ _⟩
    case round =>
      obtain ⟨j, hj, rfl, hT, hF⟩ := hrel
      have o0 := hT.obj.cell 0
      have o1 := hT.obj.cell 1
      have o2 := hT.obj.cell 2
      have oa := hT.obj.frozen 1
      have ob := hT.obj.frozen 2
      simp [clearL_len] at o0 o1 o2
      have HF := Lib.hid hF
      have HJ := Lib.hid hj
      clear hF hj
      by_cases hjl : j < T.lits.length - n
      · have hjl' : (j : Int) < (T.lits.length - n : Nat) := by omega
        have ci := hT.lits
        rw [HA.out] at ci o1
        have c4 := ci.cell (i := n + j) (by show n + j < T.lits.length; omega)
        have hx := HL.out (n + j) (by omega)
        have hsn : (T.lits.drop n).take (j + 1) = (T.lits.drop n).take j ++ [T.lits[n + j]!] := by
          rw [take_snoc _ _ (by simp; omega), drop_get]
        simp only at c4
        obtain ⟨x, hxe⟩ : ∃ x, T.lits[n + j]! = x := ⟨_, rfl⟩
        rw [hxe] at c4 hx hsn
        obtain ⟨h0, h1⟩ := Tr.isB_true hx
        have hl1 : ((clearL T.cells ((T.lits.drop n).take j)).length : Int) = T.cells.length := by rw [clearL_len]
        have hcl := HCL.out
        have HS := Lib.hid hsn
        clear ci hx hsn hxe
        by_cases hx0 : 0 ≤ x
        · have ht := tv_nat hx0
          rw [ht] at h0 h1
          obtain ⟨gc, hgc, b0, b1, b2, fz⟩ := hT.cell_at (v := x) (by omega) (by simpa [clearL_len] using h1)
          rw [hgc] at o0
          have f0 := fz (x.toNat * 3)
          have f1 := fz (x.toNat * 3 + 1)
          have f2 := fz (x.toNat * 3 + 2)
          have hM := hT.setC hgc (i := x.toNat) (by rw [clearL_len]; omega) Cel.free
          have hMF := TrAt.setC_fr wr L hgc (x.toNat * 3) (x.toNat * 3 + 1) (x.toNat * 3 + 2) (.int .i64 0) (.int .i64 (-1)) (.int .i64 0)
          have HM := Lib.hid hM
          have HMF := Lib.hid hMF
          have HT := Lib.hid ht
          clear hM hMF ht hT fz hgc hl1
          go_wp2_with fail
          go_roundg (gk - 1)
          case measure => have := HJ.out; omega
          case rel => exact ⟨j + 1, by have := HJ.out; omega, by go_num, by rw [HS.out, clearL_snoc, HT.out]; exact HM.out, HF.out.then_ HMF.out⟩
        · have hx1 : x < 0 := by omega
          have hx2 : -9223372036854775808 < x := by
            have hb := HL.out
            by_cases e : x = -9223372036854775808
            · rw [tv_least e] at h0; omega
            · have h1' := h1
              unfold tv at h1'
              rw [if_neg e, if_pos hx1] at h1'
              omega
          have ht := tv_neg hx1 hx2
          rw [ht] at h0 h1
          obtain ⟨gc, hgc, b0, b1, b2, fz⟩ := hT.cell_at (v := -x) (by omega) (by simpa [clearL_len] using h1)
          rw [hgc] at o0
          have f0 := fz ((-x).toNat * 3)
          have f1 := fz ((-x).toNat * 3 + 1)
          have f2 := fz ((-x).toNat * 3 + 2)
          have hM := hT.setC hgc (i := (-x).toNat) (by rw [clearL_len]; omega) Cel.free
          have hMF := TrAt.setC_fr wr L hgc ((-x).toNat * 3) ((-x).toNat * 3 + 1) ((-x).toNat * 3 + 2) (.int .i64 0) (.int .i64 (-1)) (.int .i64 0)
          have HM := Lib.hid hM
          have HMF := Lib.hid hMF
          have HT := Lib.hid ht
          clear hM hMF ht hT fz hgc hl1
          go_wp2_with fail
          go_roundg (gk - 1)
          case measure => have := HJ.out; omega
          case rel => exact ⟨j + 1, by have := HJ.out; omega, by go_num, by rw [HS.out, clearL_snoc, HT.out]; exact HM.out, HF.out.then_ HMF.out⟩
      · have hje : j = T.lits.length - n := by have := HJ.out; omega
        have hjl' : ((T.lits.length - n : Nat) : Int) ≤ j := by omega
        have htk : (T.lits.drop n).take j = T.lits.drop n := by rw [hje, List.take_of_length_le (by simp)]
        have hC1 := hT.cut n 0 (by omega) (by show 0 ≤ T.levels.length; omega)
        have hC2 := hT.cut2 n 0 (by omega) (by show 0 ≤ T.levels.length; omega)
        rw [htk] at hC1 hC2
        rw [HA.out] at o1
        rw [HG3.out] at o2
        rw [HA.out, HG3.out] at hC1 hC2
        have HC1 := Lib.hid hC1
        have HC2 := Lib.hid hC2
        have hlta := hT.lt L.a (by simp [TrL.fp])
        clear hC1 hC2 htk hje hT
        go_wp2_with fail
        go_region
        all_goals go_end0
        all_goals refine ⟨rfl, ?_, ?_⟩
        all_goals first | exact HC1.out.drew | exact HC2.out.drew | (refine ((HF.out.setCell (.inl ?_) _).setCell (.inl ?_) _).drew <;> simp [TrL.fp])
  · have hne : T.lits.length = n := by omega
    have hz : T.lits.drop n = [] := by rw [← hne]; simp
    have hC1 := HH.out.cut n 0 (by omega) (by omega)
    have hC2 := HH.out.cut2 n 0 (by omega) (by omega)
    have HC1 := Lib.hid hC1
    have HC2 := Lib.hid hC2
    have HZ : Hid (T.cutF 0 n = { T with lits := T.lits.take n, levels := T.levels.take 0 }) := by show _ = _; unfold Tr.cutF; rw [hz]; rfl
    have hlta := HH.out.lt L.a (by simp [TrL.fp])
    have oa := HH.out.obj.frozen 1
    have ob := HH.out.obj.frozen 2
    rw [hne] at o1 hnl'
    clear hC1 hC2 hz hnl
    rw [HZ.out]
    rcases H2.out with ⟨hA, hc, he⟩ | ⟨g, hA, hgl, hlc, hcm⟩
    · have en : n = 0 := by rw [he] at hne; simpa using hne.symm
      subst en
      rw [hA, hc] at o1
      rw [hA, hc, HG3.out] at HC1 HC2
      clear hA hc he H2 hne hlt
      go_enter Try.func16, Try.ntmps16
      go_wp2_with fail
      try rw [hdec]
      go_loopg [34] 0 (fun gk i wr => i = .int .i64 0 ∧ w = wr)
      case atStart => exact ⟨rfl, rfl⟩
      case round =>
        obtain ⟨rfl, rfl⟩ := hrel
        go_wp2_with fail
        go_region
        all_goals go_end0
        all_goals refine ⟨rfl, ?_, ?_⟩
        all_goals first | exact HC1.out.drew | exact HC2.out.drew | (refine (((Fr.refl L.fp w).setCell (.inl ?_) _).setCell (.inl ?_) _).drew <;> simp [TrL.fp])
    · rw [hA] at o1
      rw [hA, HG3.out] at HC1 HC2
      have hn2 : n ≤ L.c2 := by omega
      clear hA H2 hne hlt hlc
      by_cases hcc : L.c2 = n
      · rw [hcc] at HC1 HC2
        go_enter Try.func16, Try.ntmps16
        go_wp2_with fail
        try rw [hdec]
        go_loopg [34] 0 (fun gk i wr => i = .int .i64 0 ∧ w = wr)
        case atStart => exact ⟨rfl, rfl⟩
        case round =>
          obtain ⟨rfl, rfl⟩ := hrel
          go_wp2_with fail
          go_region
          all_goals go_end0
          all_goals refine ⟨rfl, ?_, ?_⟩
          all_goals first | exact HC1.out.drew | exact HC2.out.drew | (refine (((Fr.refl L.fp w).setCell (.inl ?_) _).setCell (.inl ?_) _).drew <;> simp [TrL.fp])
      · 
        go_enter Try.func16, Try.ntmps16
        go_wp2_with fail
        try rw [hdec]
        go_loopg [34] 0 (fun gk i wr => i = .int .i64 0 ∧ w = wr)
        case atStart => exact ⟨rfl, rfl⟩
        case round =>
          obtain ⟨rfl, rfl⟩ := hrel
          go_wp2_with fail
          go_region
          all_goals go_end0
          all_goals refine ⟨rfl, ?_, ?_⟩
          all_goals first | exact HC1.out.drew | exact HC2.out.drew | (refine (((Fr.refl L.fp w).setCell (.inl ?_) _).setCell (.inl ?_) _).drew <;> simp [TrL.fp])

end Go.Proofs.Ytnbpnpodpnlamaa
