/- The trail's Grow, New and Lits walked; Back for any level. -/
import Derived.Test.YtnbpnpodpnlamaaTrailE
import Derived.Test.YtnbpnpodpnlamaaRow
namespace Go.Proofs.Ytnbpnpodpnlamaa
open Go.RowKit
set_option linter.unusedVariables false

theorem infoCel : (Try.prog.info? 87).map (fun i => (i.zero, i.size, i.bytes)) = some (some (.agg #[.int .i64 0, .int .i64 0, .int .i64 0]), 3, 24) := by kernel_rfl

theorem TrAt.newCells {w w' : World} {L : TrL} {T : Tr} (h : TrAt w L T) {g cap : Nat} {cs : List Cel} (hi : Cls w' (some ⟨g, 0, none⟩) cap cs) (hf : Fr (blks L.A1) w w') (hg : g ∈ blks L.A1 ∨ w.heap.size ≤ g) :
    TrAt (w'.setCell ⟨L.a, 0, none⟩ (.slice (some ⟨g, 0, none⟩) cs.length cap)) { L with A1 := some ⟨g, 0, none⟩, c1 := cap } { T with cells := cs } ∧
    L.ext { L with A1 := some ⟨g, 0, none⟩, c1 := cap } w ∧ Fr L.fp w (w'.setCell ⟨L.a, 0, none⟩ (.slice (some ⟨g, 0, none⟩) cs.length cap)) := by
  obtain ⟨h1, h2, h3⟩ := tnodup3 h.nodup
  have nG : g ≠ L.a ∧ g ∉ blks L.A2 ∧ g ∉ blks L.A3 := by
    rcases hg with q | q
    · exact h1 g q
    · refine ⟨?_, fun k => ?_, fun k => ?_⟩
      · have := h.obj.lt; omega
      · have := h.lits.lt _ k; omega
      · have := h.levels.lt _ k; omega
  have bG : blks (some ⟨g, 0, none⟩) = [g] := rfl
  refine ⟨⟨?_, ?_, ?_, ?_, ?_⟩, ⟨rfl, ?_⟩, ?_⟩
  · have := (hf.at_ h.obj (fun k => (h1 _ k).1 rfl)).set_ 0 (.slice (some ⟨g, 0, none⟩) cs.length cap)
    simpa using this
  · exact hi.far (by rw [bG]; simpa using fun e => nG.1 e.symm) _
  · exact (h.lits.fr hf fun k hk hk' => (h2 k hk).2.1 hk').far (fun k => (h2 _ k).1 rfl) _
  · exact (h.levels.fr hf fun k hk hk' => (h3 k hk).2.1 hk').far (fun k => (h3 _ k).1 rfl) _
  · have hn := h.nodup
    simp only [TrL.fp, List.nodup_cons, List.mem_append, List.nodup_append, bG, List.mem_singleton, List.not_mem_nil, not_false_eq_true, List.nodup_nil, true_and] at hn ⊢
    obtain ⟨n1, n2, ⟨n3, n4, n5⟩, n6⟩ := hn
    refine ⟨?_, ⟨n3, n4, n5⟩, ?_⟩
    · rintro (hk | hk | hk)
      · exact nG.1 hk.symm
      · exact n1 (.inr (.inl hk))
      · exact n1 (.inr (.inr hk))
    · intro a ha b hb e
      subst ha
      subst e
      rcases hb with hb | hb
      · exact nG.2.1 hb
      · exact nG.2.2 hb
  · intro k hk
    simp only [TrL.fp, bG, List.mem_cons, List.mem_append, List.not_mem_nil, or_false] at hk ⊢
    rcases hk with hk | hk | hk | hk
    · exact .inl (.inl hk)
    · subst hk; exact hg.imp (fun q => .inr (.inl q)) id
    · exact .inl (.inr (.inr (.inl hk)))
    · exact .inl (.inr (.inr (.inr hk)))
  · exact (hf.mono (T := L.fp) fun k hk => .inl (by simp [TrL.fp, hk])).setCell (.inl (by simp [TrL.fp])) _

def Tr.growBy (T : Tr) (m : Nat) : Tr := { T with cells := T.cells ++ List.replicate m Cel.free }
def Tr.room (T : Tr) (n : Int) : Nat := (min (max n 0) (262145 - T.cells.length)).toNat
def Tr.growF (T : Tr) (n : Int) : Tr := T.growBy (T.room n)
theorem Tr.grow_one {T : Tr} {j : Nat} : (T.growBy j).cells ++ [Cel.free] = (T.growBy (j + 1)).cells := by simp [Tr.growBy, List.replicate_succ']

set_option maxRecDepth 100000 in
set_option maxHeartbeats 400000 in
theorem trail_grow_nil (w : World) (n : Int) :
    Calls Try.prog 39 #[.pointer none, .int .i64 n] w fun e w' => e = .returned (.tuple #[]) ∧ w = w' := by
  go_enter Try.func39, Try.ntmps39
  go_wp2_with fail
  refine bodyPost_ret (results_none rfl _ _ _) rfl ?_
  exact ⟨rfl, rfl⟩
set_option maxRecDepth 100000 in
set_option maxHeartbeats 400000 in
theorem trail_grow_bare (w : World) (L : TrL) (T : Tr) (h : TrAt w L T) (hc : T.cells.length = 0) (n : Int) :
    Calls Try.prog 39 #[.pointer (some ⟨L.a, 0, none⟩), .int .i64 n] w fun e w' => e = .returned (.tuple #[]) ∧ w = w' := by
  have o0 := h.obj.cell 0
  simp [hc] at o0
  clear h hc
  go_enter Try.func39, Try.ntmps39
  go_wp2_with fail
  refine bodyPost_ret (results_none rfl _ _ _) rfl ?_
  exact ⟨rfl, rfl⟩
set_option maxRecDepth 100000 in
set_option maxHeartbeats 2000000 in
theorem trail_grow (w : World) (L : TrL) (T : Tr) (h : TrAt w L T) (hc : 0 < T.cells.length) (hm : T.cells.length ≤ 262145) (n : Int) :
    Calls Try.prog 39 #[.pointer (some ⟨L.a, 0, none⟩), .int .i64 n] w fun e w' => e = .returned (.tuple #[]) ∧ ∃ L', TrAt w' L' (T.growF n) ∧ L.ext L' w ∧ Fr L.fp w w' := by
  have o0 := h.obj.cell 0
  simp at o0
  obtain ⟨was, hw⟩ : ∃ was : Nat, T.cells.length = was + 1 := ⟨T.cells.length - 1, by omega⟩
  have key : (n < 0 ∧ T.room n = 0) ∨ (n = 0 ∧ T.room n = 0) ∨ (0 < n ∧ n ≤ 262144 - was ∧ (T.room n : Int) = n) ∨ (262144 - was < n ∧ 0 < n ∧ (T.room n : Int) = 262144 - was) := by
    unfold Tr.room
    rw [hw]
    omega
  unfold Tr.growF
  obtain ⟨m, hme⟩ : ∃ m, T.room n = m := ⟨_, rfl⟩
  rw [hme] at key ⊢
  rw [hw] at o0
  have HH := Lib.hid h
  have HW := Lib.hid hw
  have hm' : (was : Int) ≤ 262144 := by omega
  have hm2 : (was : Int) + m ≤ 262144 := by omega
  have ez : ((was : Int) + 1 == 0) = false := beq_eq_false_iff_ne.2 (by omega)
  have HK := Lib.hid hm2
  clear h hme hw hm hc hm2
  rcases key with ⟨k1, k2⟩ | ⟨k1, k2⟩ | ⟨k1, k2, k3⟩ | ⟨k1, k2, k3⟩
  · subst k2
    have k5 : (0 : Int) ≤ 262144 - was := by omega
    go_enter Try.func39, Try.ntmps39
    go_wp2_with fail
    clear o0
    go_loopg [26] 0 (fun gk i wr => ∃ (j : Nat) (M : TrL), j + gk = 0 ∧ i = .int .i64 j ∧ TrAt wr M (T.growBy j) ∧ L.ext M w ∧ Fr L.fp w wr)
    case atStart => exact ⟨0, L, by omega, rfl, by simpa [Tr.growBy] using HH.out, L.ext_refl w, Fr.refl _ _⟩
    case round =>
      obtain ⟨j, M, hj, rfl, hT, hE, hF⟩ := hrel
      have ha : M.a = L.a := hE.1
      have lc : (T.growBy j).cells.length = was + 1 + j := by simp [Tr.growBy, HW.out]
      have o0 := hT.obj.cell 0
      rw [ha] at o0
      simp [lc] at o0
      have HA := Lib.hid ha
      have HL := Lib.hid lc
      have HT := Lib.hid hT
      have HE := Lib.hid hE
      have HF := Lib.hid hF
      have HJ := Lib.hid hj
      have HN : Hid (M.a ∉ blks M.A1) := fun hk => ((tnodup3 hT.nodup).1 _ hk).1 rfl
      clear ha lc hT hE hF
      have hjm' : (0 : Int) ≤ j := by skip; omega
      have e : j = 0 := by skip; omega
      subst e
      clear hj
      go_wp2_with fail
      go_end0
      exact ⟨rfl, M, HT.out, HE.out, HF.out⟩
  · subst k2
    subst k1
    have k5 : (0 : Int) ≤ 262144 - was := by omega
    go_enter Try.func39, Try.ntmps39
    go_wp2_with fail
    clear o0
    go_loopg [26] 0 (fun gk i wr => ∃ (j : Nat) (M : TrL), j + gk = 0 ∧ i = .int .i64 j ∧ TrAt wr M (T.growBy j) ∧ L.ext M w ∧ Fr L.fp w wr)
    case atStart => exact ⟨0, L, by omega, rfl, by simpa [Tr.growBy] using HH.out, L.ext_refl w, Fr.refl _ _⟩
    case round =>
      obtain ⟨j, M, hj, rfl, hT, hE, hF⟩ := hrel
      have ha : M.a = L.a := hE.1
      have lc : (T.growBy j).cells.length = was + 1 + j := by simp [Tr.growBy, HW.out]
      have o0 := hT.obj.cell 0
      rw [ha] at o0
      simp [lc] at o0
      have HA := Lib.hid ha
      have HL := Lib.hid lc
      have HT := Lib.hid hT
      have HE := Lib.hid hE
      have HF := Lib.hid hF
      have HJ := Lib.hid hj
      have HN : Hid (M.a ∉ blks M.A1) := fun hk => ((tnodup3 hT.nodup).1 _ hk).1 rfl
      clear ha lc hT hE hF
      have hjm' : (0 : Int) ≤ j := by skip; omega
      have e : j = 0 := by skip; omega
      subst e
      clear hj
      go_wp2_with fail
      go_end0
      exact ⟨rfl, M, HT.out, HE.out, HF.out⟩
  · subst k3
    have k4 : ((was : Nat) : Int) < 262144 := by omega
    have k5 : 0 < m := by omega
    go_enter Try.func39, Try.ntmps39
    go_wp2_with fail
    clear o0
    go_loopg [26] m (fun gk i wr => ∃ (j : Nat) (M : TrL), j + gk = m ∧ i = .int .i64 j ∧ TrAt wr M (T.growBy j) ∧ L.ext M w ∧ Fr L.fp w wr)
    case atStart => exact ⟨0, L, by omega, rfl, by simpa [Tr.growBy] using HH.out, L.ext_refl w, Fr.refl _ _⟩
    case round =>
      obtain ⟨j, M, hj, rfl, hT, hE, hF⟩ := hrel
      have ha : M.a = L.a := hE.1
      have lc : (T.growBy j).cells.length = was + 1 + j := by simp [Tr.growBy, HW.out]
      have o0 := hT.obj.cell 0
      rw [ha] at o0
      simp [lc] at o0
      have HA := Lib.hid ha
      have HL := Lib.hid lc
      have HT := Lib.hid hT
      have HE := Lib.hid hE
      have HF := Lib.hid hF
      have HJ := Lib.hid hj
      have HN : Hid (M.a ∉ blks M.A1) := fun hk => ((tnodup3 hT.nodup).1 _ hk).1 rfl
      clear ha lc hT hE hF
      by_cases hjm : j < m
      · have hjm' : (j : Int) < (m : Int) := by skip; omega
        clear hj
        go_wp2_with (at_builtin; (refine wpList_append_one _ rfl _ _ 65 rfl 87 (.agg #[.int .i64 0, .int .i64 0, .int .i64 0]) 3 24 Try.underlying65 infoCel rfl (by decide) M.A1 M.c1 (was + 1 + j) rfl (flat (T.growBy j).cells) ?hown ⟨wr.heap.size, 0, none⟩ 1 rfl (flat [Cel.free]) rfl ?hnews (by simp [flat, Value.oneCell']) (by have := HK.out; unfold maxLen; omega) (by have := HK.out; omega) ?_; (case hown => have := HT.out.cells.alloc (.cells #[.int .i64 0, .int .i64 (-1), .int .i64 0] 87); unfold Cls at this; rwa [HL.out] at this); (case hnews => intro jj u hu; match jj, hu with | 0, hu => (simp [flat, Cel.free] at hu; subst hu; simp [Addr.add]) | 1, hu => (simp [flat, Cel.free] at hu; subst hu; simp [Addr.add]) | 2, hu => (simp [flat, Cel.free] at hu; subst hu; simp [Addr.add]) | (_ + 3), hu => (simp [flat] at hu)); intro g2 cap w2 hi2 hf2 hg2 hs2; have q2 := hf2.at_ (HT.out.obj.alloc _) HN.out; rw [HA.out] at q2; have q3 := q2.cell 0; have q4 := q2.frozen 0; simp at q3; have HI := Lib.hid hi2; have HF2 := Lib.hid hf2; have HG2 := Lib.hid hg2; clear q2 hi2 hf2 hg2 hs2))
        have hcl : Cls w2 (some ⟨g2, 0, none⟩) cap (T.growBy (j + 1)).cells := by
          have := HI.out
          rw [← flat_app, Tr.grow_one] at this
          unfold Cls
          rwa [show (T.growBy (j + 1)).cells.length = was + 1 + j + 1 by simp [Tr.growBy, HW.out]; omega]
        obtain ⟨r1, r2, r3⟩ := (HT.out.alloc (.cells #[.int .i64 0, .int .i64 (-1), .int .i64 0] 87)).newCells hcl HF2.out (HG2.out.imp id (fun e => by rw [e]; exact Nat.le_refl _))
        rw [HA.out, show (T.growBy (j + 1)).cells.length = was + 1 + j + 1 by simp [Tr.growBy, HW.out]; omega] at r1 r3
        have r4 : L.ext { M with A1 := some ⟨g2, 0, none⟩, c1 := cap } w := TrL.ext_trans HE.out ⟨r2.1, fun k hk => (r2.2 k hk).imp id (fun h => by simp at h; omega)⟩ HF.out
        have r5 := (HF.out.alloc (.cells #[.int .i64 0, .int .i64 (-1), .int .i64 0] 87)).trans r3 HE.out.2
        rw [HA.out] at r4
        have R1 := Lib.hid r1
        have R4 := Lib.hid r4
        have R5 := Lib.hid r5
        clear r1 r2 r3 r4 r5 hcl
        go_roundg (gk - 1)
        case measure => have := HJ.out; omega
        case rel => exact ⟨j + 1, _, by have := HJ.out; omega, by have := HK.out; go_num, R1.out, R4.out, R5.out⟩
      · have hjm' : ((m : Int) : Int) ≤ j := by skip; omega
        have e : j = m := by skip; omega
        subst e
        clear hj
        go_wp2_with fail
        go_end0
        exact ⟨rfl, M, HT.out, HE.out, HF.out⟩
  · have k4 : Hid ((262144 - was : Int) = m) := k3.symm
    have k5 : (0 : Int) ≤ 262144 - was := by omega
    clear k3
    go_enter Try.func39, Try.ntmps39
    go_wp2_with fail
    clear o0
    go_loopg [26] m (fun gk i wr => ∃ (j : Nat) (M : TrL), j + gk = m ∧ i = .int .i64 j ∧ TrAt wr M (T.growBy j) ∧ L.ext M w ∧ Fr L.fp w wr)
    case atStart => exact ⟨0, L, by omega, rfl, by simpa [Tr.growBy] using HH.out, L.ext_refl w, Fr.refl _ _⟩
    case round =>
      obtain ⟨j, M, hj, rfl, hT, hE, hF⟩ := hrel
      have ha : M.a = L.a := hE.1
      have lc : (T.growBy j).cells.length = was + 1 + j := by simp [Tr.growBy, HW.out]
      have o0 := hT.obj.cell 0
      rw [ha] at o0
      simp [lc] at o0
      have HA := Lib.hid ha
      have HL := Lib.hid lc
      have HT := Lib.hid hT
      have HE := Lib.hid hE
      have HF := Lib.hid hF
      have HJ := Lib.hid hj
      have HN : Hid (M.a ∉ blks M.A1) := fun hk => ((tnodup3 hT.nodup).1 _ hk).1 rfl
      clear ha lc hT hE hF
      by_cases hjm : j < m
      · have hjm' : (j : Int) < (262144 - was) := by have := k4.out; omega
        clear hj
        go_wp2_with (at_builtin; (refine wpList_append_one _ rfl _ _ 65 rfl 87 (.agg #[.int .i64 0, .int .i64 0, .int .i64 0]) 3 24 Try.underlying65 infoCel rfl (by decide) M.A1 M.c1 (was + 1 + j) rfl (flat (T.growBy j).cells) ?hown ⟨wr.heap.size, 0, none⟩ 1 rfl (flat [Cel.free]) rfl ?hnews (by simp [flat, Value.oneCell']) (by have := HK.out; unfold maxLen; omega) (by have := HK.out; omega) ?_; (case hown => have := HT.out.cells.alloc (.cells #[.int .i64 0, .int .i64 (-1), .int .i64 0] 87); unfold Cls at this; rwa [HL.out] at this); (case hnews => intro jj u hu; match jj, hu with | 0, hu => (simp [flat, Cel.free] at hu; subst hu; simp [Addr.add]) | 1, hu => (simp [flat, Cel.free] at hu; subst hu; simp [Addr.add]) | 2, hu => (simp [flat, Cel.free] at hu; subst hu; simp [Addr.add]) | (_ + 3), hu => (simp [flat] at hu)); intro g2 cap w2 hi2 hf2 hg2 hs2; have q2 := hf2.at_ (HT.out.obj.alloc _) HN.out; rw [HA.out] at q2; have q3 := q2.cell 0; have q4 := q2.frozen 0; simp at q3; have HI := Lib.hid hi2; have HF2 := Lib.hid hf2; have HG2 := Lib.hid hg2; clear q2 hi2 hf2 hg2 hs2))
        have hcl : Cls w2 (some ⟨g2, 0, none⟩) cap (T.growBy (j + 1)).cells := by
          have := HI.out
          rw [← flat_app, Tr.grow_one] at this
          unfold Cls
          rwa [show (T.growBy (j + 1)).cells.length = was + 1 + j + 1 by simp [Tr.growBy, HW.out]; omega]
        obtain ⟨r1, r2, r3⟩ := (HT.out.alloc (.cells #[.int .i64 0, .int .i64 (-1), .int .i64 0] 87)).newCells hcl HF2.out (HG2.out.imp id (fun e => by rw [e]; exact Nat.le_refl _))
        rw [HA.out, show (T.growBy (j + 1)).cells.length = was + 1 + j + 1 by simp [Tr.growBy, HW.out]; omega] at r1 r3
        have r4 : L.ext { M with A1 := some ⟨g2, 0, none⟩, c1 := cap } w := TrL.ext_trans HE.out ⟨r2.1, fun k hk => (r2.2 k hk).imp id (fun h => by simp at h; omega)⟩ HF.out
        have r5 := (HF.out.alloc (.cells #[.int .i64 0, .int .i64 (-1), .int .i64 0] 87)).trans r3 HE.out.2
        rw [HA.out] at r4
        have R1 := Lib.hid r1
        have R4 := Lib.hid r4
        have R5 := Lib.hid r5
        clear r1 r2 r3 r4 r5 hcl
        go_roundg (gk - 1)
        case measure => have := HJ.out; omega
        case rel => exact ⟨j + 1, _, by have := HJ.out; omega, by have := HK.out; go_num, R1.out, R4.out, R5.out⟩
      · have hjm' : ((262144 - was) : Int) ≤ j := by have := k4.out; omega
        have e : j = m := by have := k4.out; omega
        subst e
        clear hj
        go_wp2_with fail
        go_end0
        exact ⟨rfl, M, HT.out, HE.out, HF.out⟩

end Go.Proofs.Ytnbpnpodpnlamaa
