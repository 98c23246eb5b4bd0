/- The trail's Put walked. -/
import Derived.Test.YtnbpnpodpnlamaaTrailB
import Derived.BigRegion
namespace Go.Proofs.Ytnbpnpodpnlamaa
open Go.RowKit

theorem tnodup3 {a : Nat} {x y z : List Nat} (h : (a :: (x ++ (y ++ z))).Nodup) :
    (∀ k, k ∈ x → k ≠ a ∧ k ∉ y ∧ k ∉ z) ∧ (∀ k, k ∈ y → k ≠ a ∧ k ∉ x ∧ k ∉ z) ∧ (∀ k, k ∈ z → k ≠ a ∧ k ∉ x ∧ k ∉ y) := by
  simp only [List.nodup_cons, List.mem_append, List.nodup_append] at h
  obtain ⟨h1, h2, ⟨h3, h4, h5⟩, h6⟩ := h
  refine ⟨fun k hk => ⟨?_, ?_, ?_⟩, fun k hk => ⟨?_, ?_, ?_⟩, fun k hk => ⟨?_, ?_, ?_⟩⟩
  · rintro rfl; exact h1 (.inl hk)
  · exact fun hy => h6 k hk k (.inl hy) rfl
  · exact fun hz => h6 k hk k (.inr hz) rfl
  · rintro rfl; exact h1 (.inr (.inl hk))
  · exact fun hx => h6 k hx k (.inl hk) rfl
  · exact fun hz => h5 k hk k hz rfl
  · rintro rfl; exact h1 (.inr (.inr hk))
  · exact fun hx => h6 k hx k (.inr hk) rfl
  · exact fun hy => h5 k hy k hk rfl

def TrL.ext (L L' : TrL) (w : World) : Prop := L'.a = L.a ∧ ∀ k, k ∈ L'.fp → k ∈ L.fp ∨ w.heap.size ≤ k
theorem TrL.ext_refl (L : TrL) (w : World) : L.ext L w := ⟨rfl, fun _ h => .inl h⟩
theorem TrL.ext_trans {L M N : TrL} {w w' : World} {S : List Nat} (h : L.ext M w) (k : M.ext N w') (hf : Fr S w w') : L.ext N w :=
  ⟨k.1.trans h.1, fun x hx => (k.2 x hx).elim (fun hm => h.2 x hm) (fun hm => .inr (Nat.le_trans hf.size hm))⟩

namespace TrAt
variable {w w' : World} {L : TrL} {T : Tr}
theorem drewN (h : TrAt w L T) (n : Nat) : TrAt (w.drewN n) L T := ⟨h.obj, h.cells, h.lits, h.levels, h.nodup⟩
theorem drew (h : TrAt w L T) : TrAt w.drew L T := ⟨h.obj, h.cells, h.lits, h.levels, h.nodup⟩
theorem alloc (h : TrAt w L T) (o : Obj) : TrAt (w.alloc o) L T := ⟨h.obj.alloc o, h.cells.alloc o, h.lits.alloc o, h.levels.alloc o, h.nodup⟩
theorem fr {S : List Nat} (h : TrAt w L T) (hf : Fr S w w') (hd : ∀ k, k ∈ L.fp → k ∉ S) : TrAt w' L T :=
  ⟨hf.at_ h.obj (hd _ (by simp [TrL.fp])), h.cells.fr hf fun k hk => hd k (by simp [TrL.fp, hk]), h.lits.fr hf fun k hk => hd k (by simp [TrL.fp, hk]), h.levels.fr hf fun k hk => hd k (by simp [TrL.fp, hk]), h.nodup⟩
theorem lt (h : TrAt w L T) : ∀ k, k ∈ L.fp → k < w.heap.size := by
  intro k hk
  simp only [TrL.fp, List.mem_cons, List.mem_append] at hk
  rcases hk with rfl | hk | hk | hk
  · exact h.obj.lt
  · exact h.cells.lt k hk
  · exact h.lits.lt k hk
  · exact h.levels.lt k hk
/-- A cell is another one. -/
theorem setC (h : TrAt w L T) {g : Nat} (hg : L.A1 = some ⟨g, 0, none⟩) {i : Nat} (hi : i < T.cells.length) (x : Cel) :
    TrAt (((w.setCell ⟨g, i * 3, none⟩ (.int .i64 x.v)).setCell ⟨g, i * 3 + 1, none⟩ (.int .i64 x.l)).setCell ⟨g, i * 3 + 2, none⟩ (.int .i64 x.r)) L { T with cells := T.cells.set i x } := by
  obtain ⟨h1, h2, h3⟩ := tnodup3 h.nodup
  have hm : g ∈ blks L.A1 := by simp [hg, blks]
  have hf : Fr [g] w (((w.setCell ⟨g, i * 3, none⟩ (.int .i64 x.v)).setCell ⟨g, i * 3 + 1, none⟩ (.int .i64 x.l)).setCell ⟨g, i * 3 + 2, none⟩ (.int .i64 x.r)) :=
    (((Fr.refl [g] w).setCell (.inl (by simp)) _).setCell (.inl (by simp)) _).setCell (.inl (by simp)) _
  have ne : ∀ k, k ≠ g → k ∉ [g] := fun k e => by simpa using e
  refine ⟨?_, ?_, h.lits.fr hf fun k hk => ne k (fun e => (h2 k hk).2.1 (e ▸ hm)), h.levels.fr hf fun k hk => ne k (fun e => (h3 k hk).2.1 (e ▸ hm)), h.nodup⟩
  · have := hf.at_ h.obj (ne _ (fun e => (h1 g hm).1 e.symm))
    simpa using this
  · have := h.cells
    rw [hg] at this ⊢
    exact this.set_ hi x
theorem setC_fr (w : World) (L : TrL) {g : Nat} (hg : L.A1 = some ⟨g, 0, none⟩) (i j k : Nat) (x y z : Value) : Fr L.fp w (((w.setCell ⟨g, i, none⟩ x).setCell ⟨g, j, none⟩ y).setCell ⟨g, k, none⟩ z) :=
  (((Fr.refl L.fp w).setCell (.inl (by simp [TrL.fp, hg, blks])) _).setCell (.inl (by simp [TrL.fp, hg, blks])) _).setCell (.inl (by simp [TrL.fp, hg, blks])) _
/-- The literals in a row that has grown, the struct told of it. -/
theorem newLits (h : TrAt w L T) {g cap : Nat} {lits : List Int} (hi : Ints w' (some ⟨g, 0, none⟩) cap lits) (hf : Fr (blks L.A2) w w') (hg : g ∈ blks L.A2 ∨ w.heap.size ≤ g) :
    TrAt (w'.setCell ⟨L.a, 1, none⟩ (.slice (some ⟨g, 0, none⟩) lits.length cap)) { L with A2 := some ⟨g, 0, none⟩, c2 := cap } { T with lits := lits } ∧
    L.ext { L with A2 := some ⟨g, 0, none⟩, c2 := cap } w ∧ Fr L.fp w (w'.setCell ⟨L.a, 1, none⟩ (.slice (some ⟨g, 0, none⟩) lits.length cap)) := by
  obtain ⟨h1, h2, h3⟩ := tnodup3 h.nodup
  have hlt := h.lt
  have nG : g ≠ L.a ∧ g ∉ blks L.A1 ∧ g ∉ blks L.A3 := by
    rcases hg with q | q
    · exact h2 g q
    · refine ⟨?_, fun k => ?_, fun k => ?_⟩
      · have := h.obj.lt; omega
      · have := h.cells.lt _ k; omega
      · have := h.levels.lt _ k; omega
  have bG : blks (some ⟨g, 0, none⟩) = [g] := rfl
  refine ⟨⟨?_, ?_, ?_, ?_, ?_⟩, ⟨rfl, ?_⟩, ?_⟩
  · have := (hf.at_ h.obj (fun k => (h2 _ k).1 rfl)).set_ 1 (.slice (some ⟨g, 0, none⟩) lits.length cap)
    simpa using this
  · exact (h.cells.fr hf fun k hk hk' => (h1 k hk).2.1 hk').far (fun k => (h1 _ k).1 rfl) _
  · exact hi.far (by rw [bG]; simpa using fun e => nG.1 e.symm) _
  · exact (h.levels.fr hf fun k hk hk' => (h3 k hk).2.2 hk').far (fun k => (h3 _ k).1 rfl) _
  · have hn := h.nodup
    simp only [TrL.fp, List.nodup_cons, List.mem_append, List.nodup_append, bG, List.mem_singleton, List.not_mem_nil, not_false_eq_true, List.nodup_nil, true_and] at hn ⊢
    obtain ⟨n1, n2, ⟨n3, n4, n5⟩, n6⟩ := hn
    refine ⟨?_, n2, ⟨n4, ?_⟩, ?_⟩
    · rintro (hk | hk | hk)
      · exact n1 (.inl hk)
      · exact nG.1 hk.symm
      · exact n1 (.inr (.inr hk))
    · intro a ha b hb e
      subst ha
      subst e
      exact nG.2.2 hb
    · intro k hk b hb e
      subst e
      rcases hb with hb | hb
      · subst hb
        exact nG.2.1 hk
      · exact n6 k hk k (.inr hb) rfl
  · intro k hk
    simp only [TrL.fp, bG, List.mem_cons, List.mem_append, List.not_mem_nil, or_false] at hk ⊢
    rcases hk with hk | hk | hk | hk
    · exact .inl (.inl hk)
    · exact .inl (.inr (.inl hk))
    · subst hk; exact hg.imp (fun q => .inr (.inr (.inl q))) id
    · exact .inl (.inr (.inr (.inr hk)))
  · exact (hf.mono (T := L.fp) fun k hk => .inl (by simp [TrL.fp, hk])).setCell (.inl (by simp [TrL.fp])) _
end TrAt

def Tr.putF (T : Tr) (l r : Int) : Tr := { cells := T.cells.set (tv l).toNat ⟨if l < 0 then -1 else 1, T.levels.length, r⟩, lits := T.lits ++ [l], levels := T.levels }

set_option maxRecDepth 100000 in
set_option maxHeartbeats 2000000 in
theorem trail_put_p (w : World) (L : TrL) (T : Tr) (h : TrAt w L T) (l r : Int) (hl : 0 ≤ l) (hhi : l ≤ 9223372036854775807) (hb : T.isB (l) = true) (hf : T.cel (l) = Cel.free) (hlen : T.lits.length < 17592186044416) :
    Calls Try.prog 13 #[.pointer (some ⟨L.a, 0, none⟩), .int .i64 l, .int .i64 r] w fun e w' => e = .returned (.bool true) ∧ ∃ L', TrAt w' L' (T.putF l r) ∧ L.ext L' w ∧ Fr L.fp w w' := by
  have o0 := h.obj.cell 0
  have o1 := h.obj.cell 1
  have o2 := h.obj.cell 2
  simp at o0 o1 o2
  obtain ⟨h0, h1⟩ := Tr.isB_true hb
  obtain ⟨g, hg, c0, c1, c2, hfz⟩ := h.cell_at (v := l) (by omega) h1
  rw [hf] at c0 c1 c2
  simp only [Cel.free] at c0 c1 c2
  rw [hg] at o0
  have f0 := hfz (l.toNat * 3)
  have f1 := hfz (l.toNat * 3 + 1)
  have f2 := hfz (l.toNat * 3 + 2)
  have hlt := h.lt L.a (by simp [TrL.fp])
  have hlg := h.lt g (by simp [TrL.fp, hg, blks])
  have HB := Lib.hid hb
  have HH := Lib.hid h
  have HG := Lib.hid hg
  clear hb h hf hg hfz
  have HV : Hid (tv l = l) := tv_nat hl
  go_enter Try.func13, Try.ntmps13
  go_wp2_with fail
  refine (trail_is _ L T HH.out _ true HB.out).mono ?_
  rintro e w1 ⟨rfl, rfl⟩
  go_wp2_with fail
  go_region
  obtain ⟨V, hV⟩ : ∃ V, V = ((((w.setCell ⟨g, l.toNat * 3, none⟩ (.int .i64 1)).setCell ⟨g, l.toNat * 3 + 1, none⟩ (.int .i64 T.levels.length)).setCell ⟨g, l.toNat * 3 + 2, none⟩ (.int .i64 r)).alloc (.cells #[.int .i64 1, .int .i64 T.levels.length, .int .i64 r] 87)).drew := ⟨_, rfl⟩
  rw [← hV]
  have hA : TrAt V L { T with cells := T.cells.set l.toNat ⟨1, T.levels.length, r⟩ } := by
    rw [hV]; exact ((HH.out.setC HG.out (i := l.toNat) (by omega) ⟨1, T.levels.length, r⟩).alloc _).drew
  have hF : Fr L.fp w V := by
    rw [hV]; exact ((TrAt.setC_fr w L HG.out _ _ _ _ _ _).alloc _).drew
  clear hV o0 o1 o2 c0 c1 c2 f0 f1 f2 hlg hlt
  have o1 := hA.obj.cell 1
  have q1 := hA.obj.frozen 1
  simp at o1
  have hlt := hA.lt L.a (by simp [TrL.fp])
  have HA := Lib.hid hA
  have HF := Lib.hid hF
  have HN : Hid (L.a ∉ blks L.A2) := fun hk => ((tnodup3 hA.nodup).2.1 _ hk).1 rfl
  clear hA hF
  go_wp2_with (at_builtin; refine wpList_append_int _ rfl _ _ rfl L.A2 L.c2 T.lits _ rfl rfl (HA.out.lits.alloc _) ⟨V.heap.size, 0, none⟩ 1 l rfl (by simp) (by omega) ?_; intro g2 cap w2 hi2 hf2 hg2 hs2; have q2 := hf2.at_ (HA.out.obj.alloc _) HN.out; have q3 := q2.cell 1; have q4 := q2.frozen 1; simp at q3; have HI := Lib.hid hi2; have HF2 := Lib.hid hf2; have HG2 := Lib.hid hg2; clear q2 hi2 hf2 hg2 hs2)
  go_ret
  refine ⟨rfl, ?_⟩
  have hg2 : g2 ∈ blks L.A2 ∨ (V.alloc (.cells #[.int .i64 l] 3)).heap.size ≤ g2 := HG2.out.imp id (fun e => by rw [e]; exact Nat.le_refl _)
  obtain ⟨hN, hX, hF3⟩ := (HA.out.alloc _).newLits HI.out HF2.out hg2
  refine ⟨_, ?_, TrL.ext_trans (TrL.ext_refl L w) ⟨hX.1, fun k hk => (hX.2 k hk).imp id (fun h => ?_)⟩ HF.out, ?_⟩
  · have := hN
    unfold Tr.putF
    rw [HV.out, if_neg (by omega)]
    simpa using this
  · have : V.heap.size ≤ (V.alloc (.cells #[.int .i64 l] 3)).heap.size := by simp
    exact Nat.le_trans this h
  · have := (HF.out.alloc (.cells #[.int .i64 l] 3)).trans hF3 (fun k hk => .inl hk)
    simpa using this

set_option maxRecDepth 100000 in
set_option maxHeartbeats 2000000 in
theorem trail_put_n (w : World) (L : TrL) (T : Tr) (h : TrAt w L T) (l r : Int) (hl : l < 0) (hlo : -9223372036854775807 ≤ l) (hb : T.isB (-l) = true) (hf : T.cel (-l) = Cel.free) (hlen : T.lits.length < 17592186044416) :
    Calls Try.prog 13 #[.pointer (some ⟨L.a, 0, none⟩), .int .i64 l, .int .i64 r] w fun e w' => e = .returned (.bool true) ∧ ∃ L', TrAt w' L' (T.putF l r) ∧ L.ext L' w ∧ Fr L.fp w w' := by
  have o0 := h.obj.cell 0
  have o1 := h.obj.cell 1
  have o2 := h.obj.cell 2
  simp at o0 o1 o2
  obtain ⟨h0, h1⟩ := Tr.isB_true hb
  obtain ⟨g, hg, c0, c1, c2, hfz⟩ := h.cell_at (v := -l) (by omega) h1
  rw [hf] at c0 c1 c2
  simp only [Cel.free] at c0 c1 c2
  rw [hg] at o0
  have f0 := hfz ((-l).toNat * 3)
  have f1 := hfz ((-l).toNat * 3 + 1)
  have f2 := hfz ((-l).toNat * 3 + 2)
  have hlt := h.lt L.a (by simp [TrL.fp])
  have hlg := h.lt g (by simp [TrL.fp, hg, blks])
  have HB := Lib.hid hb
  have HH := Lib.hid h
  have HG := Lib.hid hg
  clear hb h hf hg hfz
  have HV : Hid (tv l = -l) := tv_neg hl (by omega)
  go_enter Try.func13, Try.ntmps13
  go_wp2_with fail
  refine (trail_is _ L T HH.out _ true HB.out).mono ?_
  rintro e w1 ⟨rfl, rfl⟩
  go_wp2_with fail
  go_region
  obtain ⟨V, hV⟩ : ∃ V, V = ((((w.setCell ⟨g, (-l).toNat * 3, none⟩ (.int .i64 (-1))).setCell ⟨g, (-l).toNat * 3 + 1, none⟩ (.int .i64 T.levels.length)).setCell ⟨g, (-l).toNat * 3 + 2, none⟩ (.int .i64 r)).alloc (.cells #[.int .i64 (-1), .int .i64 T.levels.length, .int .i64 r] 87)).drew := ⟨_, rfl⟩
  rw [← hV]
  have hA : TrAt V L { T with cells := T.cells.set (-l).toNat ⟨(-1), T.levels.length, r⟩ } := by
    rw [hV]; exact ((HH.out.setC HG.out (i := (-l).toNat) (by omega) ⟨(-1), T.levels.length, r⟩).alloc _).drew
  have hF : Fr L.fp w V := by
    rw [hV]; exact ((TrAt.setC_fr w L HG.out _ _ _ _ _ _).alloc _).drew
  clear hV o0 o1 o2 c0 c1 c2 f0 f1 f2 hlg hlt
  have o1 := hA.obj.cell 1
  have q1 := hA.obj.frozen 1
  simp at o1
  have hlt := hA.lt L.a (by simp [TrL.fp])
  have HA := Lib.hid hA
  have HF := Lib.hid hF
  have HN : Hid (L.a ∉ blks L.A2) := fun hk => ((tnodup3 hA.nodup).2.1 _ hk).1 rfl
  clear hA hF
  go_wp2_with (at_builtin; refine wpList_append_int _ rfl _ _ rfl L.A2 L.c2 T.lits _ rfl rfl (HA.out.lits.alloc _) ⟨V.heap.size, 0, none⟩ 1 l rfl (by simp) (by omega) ?_; intro g2 cap w2 hi2 hf2 hg2 hs2; have q2 := hf2.at_ (HA.out.obj.alloc _) HN.out; have q3 := q2.cell 1; have q4 := q2.frozen 1; simp at q3; have HI := Lib.hid hi2; have HF2 := Lib.hid hf2; have HG2 := Lib.hid hg2; clear q2 hi2 hf2 hg2 hs2)
  go_ret
  refine ⟨rfl, ?_⟩
  have hg2 : g2 ∈ blks L.A2 ∨ (V.alloc (.cells #[.int .i64 l] 3)).heap.size ≤ g2 := HG2.out.imp id (fun e => by rw [e]; exact Nat.le_refl _)
  obtain ⟨hN, hX, hF3⟩ := (HA.out.alloc _).newLits HI.out HF2.out hg2
  refine ⟨_, ?_, TrL.ext_trans (TrL.ext_refl L w) ⟨hX.1, fun k hk => (hX.2 k hk).imp id (fun h => ?_)⟩ HF.out, ?_⟩
  · have := hN
    unfold Tr.putF
    rw [HV.out, if_pos hl]
    simpa using this
  · have : V.heap.size ≤ (V.alloc (.cells #[.int .i64 l] 3)).heap.size := by simp
    exact Nat.le_trans this h
  · have := (HF.out.alloc (.cells #[.int .i64 l] 3)).trans hF3 (fun k hk => .inl hk)
    simpa using this

end Go.Proofs.Ytnbpnpodpnlamaa
