/- The trail's Put where it says no; Deeper, walked. -/
import Derived.Test.YtnbpnpodpnlamaaTrailC
import Derived.Test.YtnbpnpodpnlamaaOrd
import Derived.Deep.RegionHeld3
namespace Go.Proofs.Ytnbpnpodpnlamaa
open Go.RowKit
set_option linter.unusedVariables false

/-- The levels in a row that has grown, the struct told of it. -/
theorem TrAt.newLevels {w w' : World} {L : TrL} {T : Tr} (h : TrAt w L T) {g cap : Nat} {lv : List Int} (hi : Ints w' (some ⟨g, 0, none⟩) cap lv) (hf : Fr (blks L.A3) w w') (hg : g ∈ blks L.A3 ∨ w.heap.size ≤ g) :
    TrAt (w'.setCell ⟨L.a, 2, none⟩ (.slice (some ⟨g, 0, none⟩) lv.length cap)) { L with A3 := some ⟨g, 0, none⟩, c3 := cap } { T with levels := lv } ∧
    L.ext { L with A3 := some ⟨g, 0, none⟩, c3 := cap } w ∧ Fr L.fp w (w'.setCell ⟨L.a, 2, none⟩ (.slice (some ⟨g, 0, none⟩) lv.length cap)) := by
  obtain ⟨h1, h2, h3⟩ := tnodup3 h.nodup
  have nG : g ≠ L.a ∧ g ∉ blks L.A1 ∧ g ∉ blks L.A2 := by
    rcases hg with q | q
    · exact h3 g q
    · refine ⟨?_, fun k => ?_, fun k => ?_⟩
      · have := h.obj.lt; omega
      · have := h.cells.lt _ k; omega
      · have := h.lits.lt _ k; omega
  have bG : blks (some ⟨g, 0, none⟩) = [g] := rfl
  refine ⟨⟨?_, ?_, ?_, ?_, ?_⟩, ⟨rfl, ?_⟩, ?_⟩
  · have := (hf.at_ h.obj (fun k => (h3 _ k).1 rfl)).set_ 2 (.slice (some ⟨g, 0, none⟩) lv.length cap)
    simpa using this
  · exact (h.cells.fr hf fun k hk hk' => (h1 k hk).2.2 hk').far (fun k => (h1 _ k).1 rfl) _
  · exact (h.lits.fr hf fun k hk hk' => (h2 k hk).2.2 hk').far (fun k => (h2 _ k).1 rfl) _
  · exact hi.far (by rw [bG]; simpa using fun e => nG.1 e.symm) _
  · have hn := h.nodup
    simp only [TrL.fp, List.nodup_cons, List.mem_append, List.nodup_append, bG, List.mem_singleton, List.not_mem_nil, not_false_eq_true, List.nodup_nil, true_and] at hn ⊢
    obtain ⟨n1, n2, ⟨n3, n4, n5⟩, n6⟩ := hn
    refine ⟨?_, n2, ⟨n3, ?_⟩, ?_⟩
    · rintro (hk | hk | hk)
      · exact n1 (.inl hk)
      · exact n1 (.inr (.inl hk))
      · exact nG.1 hk.symm
    · intro a ha b hb e
      subst hb
      subst e
      exact nG.2.2 ha
    · intro k hk b hb e
      subst e
      rcases hb with hb | hb
      · exact n6 k hk k (.inl hb) rfl
      · subst hb
        exact nG.2.1 hk
  · intro k hk
    simp only [TrL.fp, bG, List.mem_cons, List.mem_append, List.not_mem_nil, or_false] at hk ⊢
    rcases hk with hk | hk | hk | hk
    · exact .inl (.inl hk)
    · exact .inl (.inr (.inl hk))
    · exact .inl (.inr (.inr (.inl hk)))
    · subst hk; exact hg.imp (fun q => .inr (.inr (.inr q))) id
  · exact (hf.mono (T := L.fp) fun k hk => .inl (by simp [TrL.fp, hk])).setCell (.inl (by simp [TrL.fp])) _

def Tr.putB (T : Tr) (l : Int) : Bool := T.isB (tv l) && decide ((T.cel (tv l)).v = 0 ∧ (T.cel (tv l)).l = -1 ∧ (T.cel (tv l)).r = 0)


set_option maxRecDepth 100000 in
set_option maxHeartbeats 1000000 in
theorem trail_put_p_out (w : World) (L : TrL) (T : Tr) (h : TrAt w L T) (l r : Int) (hl : 0 ≤ l) (hhi : l ≤ 9223372036854775807) (hb : T.isB (l) = false) :
    Calls Try.prog 13 #[.pointer (some ⟨L.a, 0, none⟩), .int .i64 l, .int .i64 r] w fun e w' => e = .returned (.bool false) ∧ w = w' := by
  have HB := Lib.hid hb
  have HH := Lib.hid h
  clear hb h
  go_enter Try.func13, Try.ntmps13
  go_wp2_with fail
  refine (trail_is _ L T HH.out _ false HB.out).mono ?_
  rintro e w1 ⟨rfl, rfl⟩
  go_wp2_with fail
  go_ret
  exact ⟨rfl, rfl⟩

set_option maxRecDepth 100000 in
set_option maxHeartbeats 1000000 in
theorem trail_put_p_nil (w : World) (l r : Int) (hl : 0 ≤ l) (hhi : l ≤ 9223372036854775807) :
    Calls Try.prog 13 #[.pointer none, .int .i64 l, .int .i64 r] w fun e w' => e = .returned (.bool false) ∧ w = w' := by
  go_enter Try.func13, Try.ntmps13
  go_wp2_with fail
  refine (trail_is_nil _ _).mono ?_
  rintro e w1 ⟨rfl, rfl⟩
  go_wp2_with fail
  go_ret
  exact ⟨rfl, rfl⟩

set_option maxRecDepth 100000 in
set_option maxHeartbeats 1000000 in
theorem trail_put_n_out (w : World) (L : TrL) (T : Tr) (h : TrAt w L T) (l r : Int) (hl : l < 0) (hlo : -9223372036854775807 ≤ l) (hb : T.isB (-l) = false) :
    Calls Try.prog 13 #[.pointer (some ⟨L.a, 0, none⟩), .int .i64 l, .int .i64 r] w fun e w' => e = .returned (.bool false) ∧ w = w' := by
  have HB := Lib.hid hb
  have HH := Lib.hid h
  clear hb h
  go_enter Try.func13, Try.ntmps13
  go_wp2_with fail
  refine (trail_is _ L T HH.out _ false HB.out).mono ?_
  rintro e w1 ⟨rfl, rfl⟩
  go_wp2_with fail
  go_ret
  exact ⟨rfl, rfl⟩

set_option maxRecDepth 100000 in
set_option maxHeartbeats 1000000 in
theorem trail_put_n_nil (w : World) (l r : Int) (hl : l < 0) (hlo : -9223372036854775807 ≤ l) :
    Calls Try.prog 13 #[.pointer none, .int .i64 l, .int .i64 r] w fun e w' => e = .returned (.bool false) ∧ w = w' := by
  go_enter Try.func13, Try.ntmps13
  go_wp2_with fail
  refine (trail_is_nil _ _).mono ?_
  rintro e w1 ⟨rfl, rfl⟩
  go_wp2_with fail
  go_ret
  exact ⟨rfl, rfl⟩

set_option maxRecDepth 100000 in
set_option maxHeartbeats 1000000 in
theorem trail_put_m_out (w : World) (L : TrL) (T : Tr) (h : TrAt w L T) (l r : Int) (hl : l < 0) (hw : wrap64 (-l) = l) (hb : T.isB (l) = false) :
    Calls Try.prog 13 #[.pointer (some ⟨L.a, 0, none⟩), .int .i64 l, .int .i64 r] w fun e w' => e = .returned (.bool false) ∧ w = w' := by
  have HB := Lib.hid hb
  have HH := Lib.hid h
  clear hb h
  go_enter Try.func13, Try.ntmps13
  go_wp2_with fail
  refine (trail_is _ L T HH.out _ false HB.out).mono ?_
  rintro e w1 ⟨rfl, rfl⟩
  go_wp2_with fail
  go_ret
  exact ⟨rfl, rfl⟩

set_option maxRecDepth 100000 in
set_option maxHeartbeats 1000000 in
theorem trail_put_m_nil (w : World) (l r : Int) (hl : l < 0) (hw : wrap64 (-l) = l) :
    Calls Try.prog 13 #[.pointer none, .int .i64 l, .int .i64 r] w fun e w' => e = .returned (.bool false) ∧ w = w' := by
  go_enter Try.func13, Try.ntmps13
  go_wp2_with fail
  refine (trail_is_nil _ _).mono ?_
  rintro e w1 ⟨rfl, rfl⟩
  go_wp2_with fail
  go_ret
  exact ⟨rfl, rfl⟩

set_option maxRecDepth 100000 in
set_option maxHeartbeats 1000000 in
theorem trail_put_p_taken (w : World) (L : TrL) (T : Tr) (h : TrAt w L T) (l r : Int) (hl : 0 ≤ l) (hhi : l ≤ 9223372036854775807) (hb : T.isB (l) = true) (hf : ¬((T.cel (l)).v = 0 ∧ (T.cel (l)).l = -1 ∧ (T.cel (l)).r = 0)) :
    Calls Try.prog 13 #[.pointer (some ⟨L.a, 0, none⟩), .int .i64 l, .int .i64 r] w fun e w' => e = .returned (.bool false) ∧ w = w' := by
  have o0 := h.obj.cell 0
  simp at o0
  obtain ⟨h0, h1⟩ := Tr.isB_true hb
  obtain ⟨g, hg, c0, c1, c2, hfz⟩ := h.cell_at (v := l) (by omega) h1
  rw [hg] at o0
  obtain ⟨x, hx⟩ : ∃ x, (T.cel (l)).v = x := ⟨_, rfl⟩
  obtain ⟨y, hy⟩ : ∃ y, (T.cel (l)).l = y := ⟨_, rfl⟩
  obtain ⟨z, hz⟩ : ∃ z, (T.cel (l)).r = z := ⟨_, rfl⟩
  rw [hx] at c0 hf
  rw [hy] at c1 hf
  rw [hz] at c2 hf
  have HB := Lib.hid hb
  have HH := Lib.hid h
  clear hb h hg hfz hx hy hz
  by_cases e0 : x = 0
  · subst e0
    by_cases e1 : y = -1
    · subst e1
      have e2 : z ≠ 0 := fun e => hf ⟨rfl, rfl, e⟩
      clear hf
      go_enter Try.func13, Try.ntmps13
      go_wp2_with fail
      refine (trail_is _ L T HH.out _ true HB.out).mono ?_
      rintro e w1 ⟨rfl, rfl⟩
      go_wp2_with fail
      go_ret
      exact ⟨rfl, rfl⟩
    · clear hf
      go_enter Try.func13, Try.ntmps13
      go_wp2_with fail
      refine (trail_is _ L T HH.out _ true HB.out).mono ?_
      rintro e w1 ⟨rfl, rfl⟩
      go_wp2_with fail
      go_ret
      exact ⟨rfl, rfl⟩
  · clear hf
    go_enter Try.func13, Try.ntmps13
    go_wp2_with fail
    refine (trail_is _ L T HH.out _ true HB.out).mono ?_
    rintro e w1 ⟨rfl, rfl⟩
    go_wp2_with fail
    go_ret
    exact ⟨rfl, rfl⟩

set_option maxRecDepth 100000 in
set_option maxHeartbeats 1000000 in
theorem trail_put_n_taken (w : World) (L : TrL) (T : Tr) (h : TrAt w L T) (l r : Int) (hl : l < 0) (hlo : -9223372036854775807 ≤ l) (hb : T.isB (-l) = true) (hf : ¬((T.cel (-l)).v = 0 ∧ (T.cel (-l)).l = -1 ∧ (T.cel (-l)).r = 0)) :
    Calls Try.prog 13 #[.pointer (some ⟨L.a, 0, none⟩), .int .i64 l, .int .i64 r] w fun e w' => e = .returned (.bool false) ∧ w = w' := by
  have o0 := h.obj.cell 0
  simp at o0
  obtain ⟨h0, h1⟩ := Tr.isB_true hb
  obtain ⟨g, hg, c0, c1, c2, hfz⟩ := h.cell_at (v := -l) (by omega) h1
  rw [hg] at o0
  obtain ⟨x, hx⟩ : ∃ x, (T.cel (-l)).v = x := ⟨_, rfl⟩
  obtain ⟨y, hy⟩ : ∃ y, (T.cel (-l)).l = y := ⟨_, rfl⟩
  obtain ⟨z, hz⟩ : ∃ z, (T.cel (-l)).r = z := ⟨_, rfl⟩
  rw [hx] at c0 hf
  rw [hy] at c1 hf
  rw [hz] at c2 hf
  have HB := Lib.hid hb
  have HH := Lib.hid h
  clear hb h hg hfz hx hy hz
  by_cases e0 : x = 0
  · subst e0
    by_cases e1 : y = -1
    · subst e1
      have e2 : z ≠ 0 := fun e => hf ⟨rfl, rfl, e⟩
      clear hf
      go_enter Try.func13, Try.ntmps13
      go_wp2_with fail
      refine (trail_is _ L T HH.out _ true HB.out).mono ?_
      rintro e w1 ⟨rfl, rfl⟩
      go_wp2_with fail
      go_ret
      exact ⟨rfl, rfl⟩
    · clear hf
      go_enter Try.func13, Try.ntmps13
      go_wp2_with fail
      refine (trail_is _ L T HH.out _ true HB.out).mono ?_
      rintro e w1 ⟨rfl, rfl⟩
      go_wp2_with fail
      go_ret
      exact ⟨rfl, rfl⟩
  · clear hf
    go_enter Try.func13, Try.ntmps13
    go_wp2_with fail
    refine (trail_is _ L T HH.out _ true HB.out).mono ?_
    rintro e w1 ⟨rfl, rfl⟩
    go_wp2_with fail
    go_ret
    exact ⟨rfl, rfl⟩

theorem Tr.free_of {T : Tr} {v : Int} (h : (T.cel v).v = 0 ∧ (T.cel v).l = -1 ∧ (T.cel v).r = 0) : T.cel v = Cel.free := by
  obtain ⟨a, b, c⟩ := h
  cases hc : T.cel v with
  | mk x y z => rw [hc] at a b c; simp only at a b c; subst a; subst b; subst c; rfl

/-- Put: whatever the literal. -/
theorem trail_put (w : World) (L : TrL) (T : Tr) (h : TrAt w L T) (l r : Int) (hlo : -9223372036854775808 ≤ l) (hhi : l ≤ 9223372036854775807) (hlen : T.lits.length < 17592186044416) :
    Calls Try.prog 13 #[.pointer (some ⟨L.a, 0, none⟩), .int .i64 l, .int .i64 r] w fun e w' => e = .returned (.bool (T.putB l)) ∧ ∃ L', TrAt w' L' (if T.putB l = true then T.putF l r else T) ∧ L.ext L' w ∧ Fr L.fp w w' := by
  have stay : ∀ e w', (e = Ending.returned (.bool false) ∧ w = w') → T.putB l = false → (e = .returned (.bool (T.putB l)) ∧ ∃ L', TrAt w' L' (if T.putB l = true then T.putF l r else T) ∧ L.ext L' w ∧ Fr L.fp w w') := by
    rintro e w' ⟨rfl, rfl⟩ hp
    rw [hp]
    exact ⟨rfl, L, h, L.ext_refl w, Fr.refl _ _⟩
  have go : ∀ e w', (e = Ending.returned (.bool true) ∧ ∃ L', TrAt w' L' (T.putF l r) ∧ L.ext L' w ∧ Fr L.fp w w') → T.putB l = true → (e = .returned (.bool (T.putB l)) ∧ ∃ L', TrAt w' L' (if T.putB l = true then T.putF l r else T) ∧ L.ext L' w ∧ Fr L.fp w w') := by
    rintro e w' ⟨rfl, h⟩ hp
    rw [hp]
    exact ⟨rfl, h⟩
  unfold Tr.putB at stay go ⊢
  rcases lit_cases l hlo with ⟨hl, hv⟩ | ⟨hl, hl2, hv⟩ | ⟨hl, hv, hw⟩
  · rw [hv] at stay go ⊢
    cases hb : T.isB l with
    | false => exact (trail_put_p_out w L T h l r hl hhi hb).mono fun e w' he => by rw [hb] at stay; exact stay e w' he rfl
    | true =>
      by_cases hf : (T.cel l).v = 0 ∧ (T.cel l).l = -1 ∧ (T.cel l).r = 0
      · exact (trail_put_p w L T h l r hl hhi hb (Tr.free_of hf) hlen).mono fun e w' he => by rw [hb] at go; exact go e w' he (by simp [hf])
      · exact (trail_put_p_taken w L T h l r hl hhi hb hf).mono fun e w' he => by rw [hb] at stay; exact stay e w' he (by simp [hf])
  · rw [hv] at stay go ⊢
    cases hb : T.isB (-l) with
    | false => exact (trail_put_n_out w L T h l r hl hl2 hb).mono fun e w' he => by rw [hb] at stay; exact stay e w' he rfl
    | true =>
      by_cases hf : (T.cel (-l)).v = 0 ∧ (T.cel (-l)).l = -1 ∧ (T.cel (-l)).r = 0
      · exact (trail_put_n w L T h l r hl hl2 hb (Tr.free_of hf) hlen).mono fun e w' he => by rw [hb] at go; exact go e w' he (by simp [hf])
      · exact (trail_put_n_taken w L T h l r hl hl2 hb hf).mono fun e w' he => by rw [hb] at stay; exact stay e w' he (by simp [hf])
  · have hb : T.isB l = false := by
      cases hh : T.isB l with
      | false => rfl
      | true => have := (Tr.isB_true hh).1; omega
    rw [hv, hb] at stay ⊢
    exact (trail_put_m_out w L T h l r hl hw hb).mono fun e w' he => stay e w' he rfl
theorem trail_put_nil (w : World) (l r : Int) (hlo : -9223372036854775808 ≤ l) (hhi : l ≤ 9223372036854775807) :
    Calls Try.prog 13 #[.pointer none, .int .i64 l, .int .i64 r] w fun e w' => e = .returned (.bool false) ∧ w = w' := by
  rcases lit_cases l hlo with ⟨hl, hv⟩ | ⟨hl, hl2, hv⟩ | ⟨hl, hv, hw⟩
  · exact trail_put_p_nil w l r hl hhi
  · exact trail_put_n_nil w l r hl hl2
  · exact trail_put_m_nil w l r hl hw

def Tr.deepF (T : Tr) : Tr := { T with levels := T.levels ++ [(T.lits.length : Int)] }

set_option maxRecDepth 100000 in
set_option maxHeartbeats 2000000 in
theorem trail_deeper (w : World) (L : TrL) (T : Tr) (h : TrAt w L T) (hc : 0 < T.cells.length) (hlen : T.levels.length < 17592186044416) :
    Calls Try.prog 15 #[.pointer (some ⟨L.a, 0, none⟩)] w fun e w' => e = .returned (.int .i64 (T.levels.length + 1 : Nat)) ∧ ∃ L', TrAt w' L' T.deepF ∧ L.ext L' w ∧ Fr L.fp w w' := by
  have o0 := h.obj.cell 0
  simp at o0
  have ho := h.obj
  have HN : Hid (L.a ∉ blks L.A3) := fun hk => ((tnodup3 h.nodup).2.2 _ hk).1 rfl
  have HH := Lib.hid h
  have HO := Lib.hid ho
  clear h ho
  go_enter Try.func15, Try.ntmps15
  go_wp2_with fail
  refine wp_region_noPanic ?_
  refine wp_region_C (fun w' : World => At w' L.a 67 #[.slice L.A1 T.cells.length L.c1, .slice L.A2 T.lits.length L.c2, .slice L.A3 T.levels.length L.c3]) 14 (by kernel_rfl) (HO.out.drew) (fun hT0 => ?_)
  refine wpAnyC_take0 (i := 0) (oi := ?oir3u1) (v := ?vr3u1) ?hir3u1 (by kernel_rfl) (by kernel_rfl) (by kernel_rfl) (by kernel_rfl) ?hQr3u1 ?hwr3u1 ?hyr3u1 hT0 ?_
  case hir3u1 => (simp only [List.getElem?_toArray, List.getElem?_cons_zero]; rfl)
  case hQr3u1 => exact fun _ _ _ h => h
  case hwr3u1 => rfl
  case hyr3u1 => (intro w; go_simp <;> with_reducible rfl)
  try simp only [Act.put, List.setIfInBounds_toArray, List.set_cons_zero, List.set_cons_succ]
  refine wpAnyC_take0 (i := 1) (oi := ?oir3u2) (v := ?vr3u2) ?hir3u2 (by kernel_rfl) (by kernel_rfl) (by kernel_rfl) (by kernel_rfl) ?hQr3u2 ?hwr3u2 ?hyr3u2 (hT0.more 0) ?_
  case hir3u2 => (simp only [List.getElem?_toArray, List.getElem?_cons_succ, List.getElem?_cons_zero]; rfl)
  case hQr3u2 => exact fun _ _ _ h => h
  case hwr3u2 => rfl
  case hyr3u2 => (intro w; go_simp <;> with_reducible rfl)
  try simp only [Act.put, List.setIfInBounds_toArray, List.set_cons_zero, List.set_cons_succ]
  refine wpAnyC_take0 (i := 2) (oi := ?oir3u3) (v := ?vr3u3) ?hir3u3 (by kernel_rfl) (by kernel_rfl) (by kernel_rfl) (by kernel_rfl) ?hQr3u3 ?hwr3u3 ?hyr3u3 ((hT0.more 0).more 1) ?_
  case hir3u3 => (simp only [List.getElem?_toArray, List.getElem?_cons_succ, List.getElem?_cons_zero]; rfl)
  case hQr3u3 => exact fun _ _ _ h => h
  case hwr3u3 => rfl
  case hyr3u3 => (intro w; go_simp <;> with_reducible rfl)
  try simp only [Act.put, List.setIfInBounds_toArray, List.set_cons_zero, List.set_cons_succ]
  refine wpAnyC_take0 (i := 3) (oi := ?oir3u4) (v := ?vr3u4) ?hir3u4 (by kernel_rfl) (by kernel_rfl) (by kernel_rfl) (by kernel_rfl) ?hQr3u4 ?hwr3u4 ?hyr3u4 (((hT0.more 0).more 1).more 2) ?_
  case hir3u4 => (simp only [List.getElem?_toArray, List.getElem?_cons_succ, List.getElem?_cons_zero]; rfl)
  case hQr3u4 => exact fun _ _ _ h => h
  case hwr3u4 => rfl
  case hyr3u4 => (intro w; go_simp <;> with_reducible rfl)
  try simp only [Act.put, List.setIfInBounds_toArray, List.set_cons_zero, List.set_cons_succ]
  refine wpAnyC_take (i := 4) (oi := ?oir3u5) (v := ?vr3u5) [4, 14] ?hir3u5 (by kernel_rfl) (by kernel_rfl) (by kernel_rfl) (by kernel_rfl) ?hQr3u5 (.inl ⟨?hwr3u5, ?hyr3u5⟩) (((((hT0.more 0).more 1).more 2).more 3).resolve_left (by decide)) ?_
  case hir3u5 => (simp only [List.getElem?_toArray, List.getElem?_cons_succ, List.getElem?_cons_zero]; rfl)
  case hQr3u5 => exact fun _ _ _ h => h
  case hwr3u5 => rfl
  case hyr3u5 => (intro w hSw; (have s1 := hSw.cell 1; have s2 := hSw.cell 2; simp at s1 s2); go_simp <;> with_reducible rfl)
  try simp only [Act.put, List.setIfInBounds_toArray, List.set_cons_zero, List.set_cons_succ]
  refine wpAnyC_take0 (i := 5) (oi := ?oir3u6) (v := ?vr3u6) ?hir3u6 (by kernel_rfl) (by kernel_rfl) (by kernel_rfl) (by kernel_rfl) ?hQr3u6 ?hwr3u6 ?hyr3u6 (((((hT0.more 0).more 1).more 2).more 3).more 4) ?_
  case hir3u6 => (simp only [List.getElem?_toArray, List.getElem?_cons_succ, List.getElem?_cons_zero]; rfl)
  case hQr3u6 => exact fun _ _ _ h => h
  case hwr3u6 => rfl
  case hyr3u6 => (intro w; go_simp <;> with_reducible rfl)
  try simp only [Act.put, List.setIfInBounds_toArray, List.set_cons_zero, List.set_cons_succ]
  refine wpAnyC_take0 (i := 6) (oi := ?oir3u7) (v := ?vr3u7) ?hir3u7 (by kernel_rfl) (by kernel_rfl) (by kernel_rfl) (by kernel_rfl) ?hQr3u7 ?hwr3u7 ?hyr3u7 ((((((hT0.more 0).more 1).more 2).more 3).more 4).more 5) ?_
  case hir3u7 => (simp only [List.getElem?_toArray, List.getElem?_cons_succ, List.getElem?_cons_zero]; rfl)
  case hQr3u7 => exact fun _ _ _ h => h
  case hwr3u7 => rfl
  case hyr3u7 => (intro w; go_simp <;> with_reducible rfl)
  try simp only [Act.put, List.setIfInBounds_toArray, List.set_cons_zero, List.set_cons_succ]
  refine wpAnyC_take0 (i := 7) (oi := ?oir3u8) (v := ?vr3u8) ?hir3u8 (by kernel_rfl) (by kernel_rfl) (by kernel_rfl) (by kernel_rfl) ?hQr3u8 ?hwr3u8 ?hyr3u8 (((((((hT0.more 0).more 1).more 2).more 3).more 4).more 5).more 6) ?_
  case hir3u8 => (simp only [List.getElem?_toArray, List.getElem?_cons_succ, List.getElem?_cons_zero]; rfl)
  case hQr3u8 => exact fun _ _ _ h => h
  case hwr3u8 => rfl
  case hyr3u8 => (intro w; go_simp <;> with_reducible rfl)
  try simp only [Act.put, List.setIfInBounds_toArray, List.set_cons_zero, List.set_cons_succ]
  refine wpAnyC_take (i := 8) (oi := ?oir3u9) (v := ?vr3u9) [8, 14] ?hir3u9 (by kernel_rfl) (by kernel_rfl) (by kernel_rfl) (by kernel_rfl) ?hQr3u9 (.inl ⟨?hwr3u9, ?hyr3u9⟩) (((((((((hT0.more 0).more 1).more 2).more 3).more 4).more 5).more 6).more 7).resolve_left (by decide)) ?_
  case hir3u9 => (simp only [List.getElem?_toArray, List.getElem?_cons_succ, List.getElem?_cons_zero]; rfl)
  case hQr3u9 => exact fun _ _ _ h => h
  case hwr3u9 => rfl
  case hyr3u9 => (intro w hSw; (have s1 := hSw.cell 1; have s2 := hSw.cell 2; simp at s1 s2); go_simp <;> with_reducible rfl)
  try simp only [Act.put, List.setIfInBounds_toArray, List.set_cons_zero, List.set_cons_succ]
  refine wpAnyC_take0 (i := 9) (oi := ?oir3u10) (v := ?vr3u10) ?hir3u10 (by kernel_rfl) (by kernel_rfl) (by kernel_rfl) (by kernel_rfl) ?hQr3u10 ?hwr3u10 ?hyr3u10 (((((((((hT0.more 0).more 1).more 2).more 3).more 4).more 5).more 6).more 7).more 8) ?_
  case hir3u10 => (simp only [List.getElem?_toArray, List.getElem?_cons_succ, List.getElem?_cons_zero]; rfl)
  case hQr3u10 => exact fun _ _ _ h => h
  case hwr3u10 => rfl
  case hyr3u10 => (intro w; go_simp <;> with_reducible rfl)
  try simp only [Act.put, List.setIfInBounds_toArray, List.set_cons_zero, List.set_cons_succ]
  have hSx := ((((((((((hT0.more 0).more 1).more 2).more 3).more 4).more 5).more 6).more 7).more 8).more 9).resolve_left (by decide)
  refine wpAnyC_ready (rs := [10]) (by kernel_rfl) (by simp) ?_
  refine ReadyC.cons (o := ?or3u11) ?hor3u11 ?hstepr3u11 ?_
  case hor3u11 => (simp only [List.getElem?_toArray, List.getElem?_cons_succ, List.getElem?_cons_zero]; rfl)
  case hstepr3u11 =>
    intro K hK
    go_simp
    refine hK.out _ _ (.inr ?_) (fun hHeld => ?_)
    · first | exact hSx.alloc _ | exact hfA.at_ hSx HN.out
    have hT11 := hHeld
    clear hHeld
    clear hK K
    try simp only [Act.put, List.setIfInBounds_toArray, List.set_cons_zero, List.set_cons_succ]
    have hSx := hT11.resolve_left (by decide)
    refine wpAnyC_ready (rs := [11]) (by kernel_rfl) (by simp) ?_
    refine ReadyC.cons (o := ?or3u12) ?hor3u12 ?hstepr3u12 ?_
    case hor3u12 => (simp only [List.getElem?_toArray, List.getElem?_cons_succ, List.getElem?_cons_zero]; rfl)
    case hstepr3u12 =>
      intro K hK
      (refine step_append_int rfl _ _ rfl L.A3 L.c3 T.levels _ rfl rfl ?hownr3u12 _ 1 T.lits.length rfl ?hcellr3u12 (by omega) ?_; (case hownr3u12 => exact HH.out.levels.drew.alloc _); (case hcellr3u12 => simp); intro gA cA wA hiA hfA hgA hsA)
      refine hK.out _ _ (.inr ?_) (fun hHeld => ?_)
      · first | exact hSx.alloc _ | exact hfA.at_ hSx HN.out
      have hT12 := hHeld
      clear hHeld
      clear hK K
      try simp only [Act.put, List.setIfInBounds_toArray, List.set_cons_zero, List.set_cons_succ]
      refine wpAnyC_take0 (i := 12) (oi := ?oir3u13) (v := ?vr3u13) ?hir3u13 (by kernel_rfl) (by kernel_rfl) (by kernel_rfl) (by kernel_rfl) ?hQr3u13 ?hwr3u13 ?hyr3u13 hT12 ?_
      case hir3u13 => (simp only [List.getElem?_toArray, List.getElem?_cons_succ, List.getElem?_cons_zero]; rfl)
      case hQr3u13 => exact fun _ _ _ h => h
      case hwr3u13 => rfl
      case hyr3u13 => (intro w; go_simp <;> with_reducible rfl)
      try simp only [Act.put, List.setIfInBounds_toArray, List.set_cons_zero, List.set_cons_succ]
      refine wpAnyC_take0 (i := 13) (oi := ?oir3u14) (v := ?vr3u14) ?hir3u14 (by kernel_rfl) (by kernel_rfl) (by kernel_rfl) (by kernel_rfl) ?hQr3u14 ?hwr3u14 ?hyr3u14 (hT12.more 12) ?_
      case hir3u14 => (simp only [List.getElem?_toArray, List.getElem?_cons_succ, List.getElem?_cons_zero]; rfl)
      case hQr3u14 => exact fun _ _ _ h => h
      case hwr3u14 => rfl
      case hyr3u14 => (intro w; go_simp <;> with_reducible rfl)
      try simp only [Act.put, List.setIfInBounds_toArray, List.set_cons_zero, List.set_cons_succ]
      have hSx := ((hT12.more 12).more 13).resolve_left (by decide)
      refine wpAnyC_ready (rs := [14]) (by kernel_rfl) (by simp) ?_
      refine ReadyC.cons (o := ?or3u15) ?hor3u15 ?hstepr3u15 ?_
      case hor3u15 => (simp only [List.getElem?_toArray, List.getElem?_cons_succ, List.getElem?_cons_zero]; rfl)
      case hstepr3u15 =>
        intro K hK
        (have b1 := hSx.cell 2; have b3 := hSx.frozen 2; simp at b1; go_simp)
        refine hK.out _ _ (.inl rfl) (fun hHeld => ?_)
        have hT15 := hHeld
        clear hHeld
        clear hK K
        try simp only [Act.put, List.setIfInBounds_toArray, List.set_cons_zero, List.set_cons_succ]
        refine wpAnyC_done (by kernel_rfl) ?_ _
        refine NoPanic.normal ?_
        have qA : gA ∈ blks L.A3 ∨ (w.drew.alloc (.cells #[.int .i64 (T.lits.length : Int)] 3)).heap.size ≤ gA := hgA.imp id (fun e => by rw [e]; exact Nat.le_refl _)
        obtain ⟨r1, r2, r3⟩ := (HH.out.drew.alloc _).newLevels hiA hfA qA
        have HI := Lib.hid r1
        have HX := Lib.hid r2
        have HF := Lib.hid r3
        have b1 := r1.obj.cell 2
        simp at b1
        clear r1 r2 r3
        go_wp2_with fail
        go_ret
        refine ⟨rfl, _, by simpa [Tr.deepF] using HI.out, ⟨HX.out.1, fun k hk => (HX.out.2 k hk).imp id (fun h => by simp at h; omega)⟩, ?_⟩
        have := ((Fr.refl L.fp w).drew.alloc (.cells #[.int .i64 (T.lits.length : Int)] 3)).trans HF.out (fun k hk => .inl hk)
        simpa using this
      exact ReadyC.nil
    exact ReadyC.nil
  exact ReadyC.nil
set_option maxRecDepth 100000 in
set_option maxHeartbeats 400000 in
theorem trail_deeper_bare (w : World) (L : TrL) (T : Tr) (h : TrAt w L T) (hc : T.cells.length = 0) :
    Calls Try.prog 15 #[.pointer (some ⟨L.a, 0, none⟩)] w fun e w' => e = .returned (.int .i64 0) ∧ w = w' := by
  have o0 := h.obj.cell 0
  simp [hc] at o0
  clear h hc
  go_enter Try.func15, Try.ntmps15
  go_wp2_with fail
  go_ret
  exact ⟨rfl, rfl⟩
set_option maxRecDepth 100000 in
set_option maxHeartbeats 400000 in
theorem trail_deeper_nil (w : World) :
    Calls Try.prog 15 #[.pointer none] w fun e w' => e = .returned (.int .i64 0) ∧ w = w' := by
  go_enter Try.func15, Try.ntmps15
  go_wp2_with fail
  go_ret
  exact ⟨rfl, rfl⟩

end Go.Proofs.Ytnbpnpodpnlamaa
