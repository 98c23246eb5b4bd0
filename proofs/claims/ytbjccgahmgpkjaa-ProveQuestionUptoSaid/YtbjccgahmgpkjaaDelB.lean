/- slices.DeleteFunc walked. -/
import Derived.Test.YtbjccgahmgpkjaaDel
namespace Go.Proofs.Ytbjccgahmgpkjaa
open Go.RowKit
set_option linter.unusedVariables false

/-- The names' row is this list. -/
def OwM (w : World) (g n c : Nat) (L : List Nm) : Prop := w.ownsRow 0 61 3 (.slice (some ⟨g, 0, none⟩) n c) n (flatM L)
theorem OwM.fr {w w' : World} {g n c : Nat} {L : List Nm} {S : List Nat} (h : OwM w g n c L) (hf : Fr S w w') (hd : g ∉ S) : OwM w' g n c L := hf.own h (fun k hk => by simp [Value.ownBlock] at hk; rw [← hk]; exact hd)
theorem OwM.len {w : World} {g n c : Nat} {L : List Nm} (h : OwM w g n c L) : L.length = n := by
  have := h.1
  rw [flatM_len] at this
  omega
theorem OwM.at_ {w : World} {g n c : Nat} {L : List Nm} (h : OwM w g n c L) {j : Nat} (hj : j < n) : ∃ x y z, Hid (L[j]! = ⟨x, y, z⟩) ∧ w.cell? ⟨g, j * 3, none⟩ = some (.string x) ∧ w.cell? ⟨g, j * 3 + 1, none⟩ = some (.int .i64 y) ∧ w.cell? ⟨g, j * 3 + 2, none⟩ = some (.string z) := by
  have hl := h.len
  have hlt : j < L.length := by omega
  obtain ⟨x, y, z, he⟩ : ∃ x y z, L[j]! = ⟨x, y, z⟩ := ⟨_, _, _, rfl⟩
  obtain ⟨g0, g1, g2⟩ := flatM_get L j hlt
  rw [he] at g0 g1 g2
  refine ⟨x, y, z, he, ?_⟩
  exact ⟨by rw [World.ownsRow.cellAt h _ (by omega)]; exact g0, by rw [World.ownsRow.cellAt h _ (by omega)]; exact g1, by rw [World.ownsRow.cellAt h _ (by omega)]; exact g2⟩
theorem OwM.cap_ {w : World} {g n c : Nat} {L : List Nm} (h : OwM w g n c L) : n ≤ c := by
  rcases h.2 with ⟨h1, _⟩ | ⟨g', cap, cur, hv, hb, hg, hn, hm, hs, ht⟩
  · cases h1
  · simp only [Value.slice.injEq, true_and] at hv
    obtain ⟨_, rfl⟩ := hv
    exact hn
theorem OwM.capm {w : World} {g n c : Nat} {L : List Nm} (h : OwM w g n c L) : c ≤ maxLen := by
  rcases h.2 with ⟨h1, _⟩ | ⟨g', cap, cur, hv, hb, hg, hn, hm, hs, ht⟩
  · cases h1
  · simp only [Value.slice.injEq, true_and] at hv
    obtain ⟨_, rfl⟩ := hv
    exact hm
theorem OwM.frozen {w : World} {g n c : Nat} {L : List Nm} (h : OwM w g n c L) (i : Nat) : w.frozen? ⟨g, i, none⟩ = false := World.ownsRow.frozenAt h i
theorem OwM.set_ {w : World} {g n c : Nat} {L : List Nm} (h : OwM w g n c L) {i : Nat} (hi : i < n) (x : ByteArray) (y : Int) (z : ByteArray) :
    OwM (((w.setCell ⟨g, i * 3, none⟩ (.string x)).setCell ⟨g, i * 3 + 1, none⟩ (.int .i64 y)).setCell ⟨g, i * 3 + 2, none⟩ (.string z)) g n c (L.set i ⟨x, y, z⟩) := by
  have := (World.ownsRow.stored (World.ownsRow.stored (World.ownsRow.stored h (i * 3) (.string x)).1 (i * 3 + 1) (.int .i64 y)).1 (i * 3 + 2) (.string z)).1
  rw [flatM_set L i ⟨x, y, z⟩ (by rw [h.len]; exact hi)] at this
  exact this

/-- What DeleteFunc answers. -/
def DlP (g c : Nat) (l : List Nm) (w : World) (e : Ending) (w' : World) : Prop := e = .returned (.slice (some ⟨g, 0, none⟩) (kept l).length c) ∧ OwM w' g (kept l).length c (kept l) ∧ Fr [g] w w'

set_option maxHeartbeats 4000000 in
theorem delete_calls (w : World) (g c : Nat) (l : List Nm) (h : OwM w g l.length c l) (hl : l.length ≤ 3518437208781) :
    Calls Try.prog 23 #[.slice (some ⟨g, 0, none⟩) l.length c, .func (.func 24) #[] #[]] w (DlP g c l w) := by
  have HH := Lib.hid h
  have hltg : g < w.heap.size := (World.ownsRow.lt h g rfl).2
  have HLTG := Lib.hid hltg
  have hcn : l.length ≤ c := h.cap_
  have HCM := Lib.hid h.capm
  have NO : Hid ((∀ x ∈ l, delB x = false) → ∀ W, Fr [] w W → DlP g c l w (.returned (.slice (some ⟨g, 0, none⟩) l.length c)) W) := fun h1 W h2 => by
    have e : kept l = l := by rw [kept, List.filter_eq_self]; intro x hx; rw [h1 x hx]; rfl
    refine ⟨by rw [e], by rw [e]; exact HH.out.fr h2 (by simp), h2.mono (by simp)⟩
  have YES : Hid (∀ (i : Nat) L W W', KI l i l.length L → OwM W g l.length c L → Fr [g] w W → (∃ W'', W''.ownsRow 0 61 3 (.slice (some ⟨g, 0, none⟩) i c) i ((flatM L).take (i * 3)) ∧ Fr [g] W W'' ∧ Fr [] W'' W') → DlP g c l w (.returned (.slice (some ⟨g, 0, none⟩) i c)) W') := fun i L W W' h1 h2 h3 ⟨W'', h4, h5, h6⟩ => by
    have e := h1.done
    rw [List.take_length] at e
    rw [flatM_take, e] at h4
    have hle := h4.1
    rw [flatM_len] at hle
    have hi : (kept l).length = i := by omega
    refine ⟨by rw [hi], ?_, (h3.then_ h5).then_ (h6.mono (by simp))⟩
    rw [hi]
    exact OwM.fr h4 h6 (by simp)
  have HI := Lib.hid (index_names w (some ⟨g, 0, none⟩) c l (own_rs h (by rw [flatM_len])).rdM hl)
  clear h
  go_enter Try.func23, Try.ntmps23
  go_wp2_with fail
  refine HI.out.mono ?_
  rintro e w1 ⟨hc, hf1⟩
  have HF1 := Lib.hid hf1
  clear hf1
  rcases hc with ⟨rfl, hno⟩ | ⟨n, rfl, hn, hnt, hd⟩
  · have HNO := Lib.hid hno
    clear hno
    go_wp2_with fail
    go_ret
    exact NO.out HNO.out _ HF1.out
  · have HK0 := Lib.hid (KI.start hn hnt hd)
    have HO0 := Lib.hid (HH.out.fr HF1.out (by simp))
    have HNE : Hid (((n : Int) == -1) = false) := (beq_eq_false_iff_ne.2 (by omega) : ((n : Int) == -1) = false)
    clear hnt hd
    go_wp2_with fail
    go_loopg [5, 6, 7] (l.length - (n + 1)) (fun gk x5 x6 x7 wr => ∃ (i j : Nat) (L : List Nm), j + gk = l.length ∧ x5 = .int .i64 i ∧ x6 = .int .i64 j ∧ KI l i j L ∧ OwM wr g l.length c L ∧ Fr [g] w wr)
    case atStart => exact ⟨n, n + 1, l, by omega, rfl, by go_num, HK0.out, HO0.out, HF1.out.mono (by simp)⟩
    case round =>
      obtain ⟨i, j, L, hk, rfl, rfl, hki, ho, hf⟩ := hrel
      have HK := Lib.hid hk
      have HKI := Lib.hid hki
      have HO := Lib.hid ho
      have HF := Lib.hid hf
      have hij : i < j := hki.lt
      have hjl : j ≤ l.length := hki.le
      clear hk hki ho hf HO0 HK0 HF1
      by_cases hlt : j < l.length
      · obtain ⟨x, y, z, he, cx, cy, cz⟩ := HO.out.at_ hlt
        have HE : Hid (l[j]! = ⟨x, y, z⟩) := (HKI.out.at_ hlt) ▸ he.out
        obtain ⟨q, HQ⟩ : ∃ q, Hid (delB ⟨x, y, z⟩ = q) := ⟨_, rfl⟩
        have HC := Lib.hid (tgt1_calls (wr.alloc (.cells #[.string x, .int .i64 y, .string z] 61)) x y z)
        have HFA : Hid (Fr [g] w (wr.alloc (.cells #[.string x, .int .i64 y, .string z] 61))) := HF.out.alloc _
        have HOA : Hid (OwM (wr.alloc (.cells #[.string x, .int .i64 y, .string z] 61)) g l.length c L) := HO.out.fr (box_fr _ _) (by simp)
        have HBA : Hid (At (wr.alloc (.cells #[.string x, .int .i64 y, .string z] 61)) wr.heap.size 61 #[.string x, .int .i64 y, .string z]) := At.new _ _ _
        have hgb : g ≠ wr.heap.size := by have := (World.ownsRow.lt HO.out g rfl).2; omega
        obtain ⟨bx, HBX⟩ : ∃ bx, Hid (wr.heap.size = bx) := ⟨_, rfl⟩
        go_wp2_with fail
        rw [HBX.out] at HBA hgb ⊢
        refine HC.out.mono ?_
        rw [HQ.out]
        clear HC HO HF cx cy cz
        generalize wr.alloc _ = w2 at HFA HOA HBA ⊢
        rintro e w3 ⟨rfl, hf⟩
        have HF3 : Hid (Fr [g] w w3) := HFA.out.then_ (hf.mono (by simp))
        have HO3 : Hid (OwM w3 g l.length c L) := HOA.out.fr hf (by simp)
        have HB3 : Hid (At w3 bx 61 #[.string x, .int .i64 y, .string z]) := HBA.out.keep hf
        clear HFA HOA HBA hf
        cases q with
        | true =>
          go_wp2_with fail
          go_roundg (gk - 1)
          case measure => have := HK.out; omega
          case rel => exact ⟨i, j + 1, L, by have := HK.out; omega, rfl, by go_num, HKI.out.skip hlt (by rw [HE.out]; exact HQ.out), HO3.out, HF3.out⟩
        | false =>
          have b0 := HB3.out.cell 0
          have b1 := HB3.out.cell 1
          have b2 := HB3.out.cell 2
          simp at b0 b1 b2
          have f0 := HO3.out.frozen (i * 3)
          have f1 := HO3.out.frozen (i * 3 + 1)
          have f2 := HO3.out.frozen (i * 3 + 2)
          obtain ⟨x', y', z', _, g0, g1, g2⟩ := HO3.out.at_ (j := i) (by omega)
          go_wp2_with fail
          go_roundg (gk - 1)
          case measure => have := HK.out; omega
          case rel => exact ⟨i + 1, j + 1, L.set i ⟨x, y, z⟩, by have := HK.out; omega, by go_num, by go_num, HE.out ▸ HKI.out.keep hlt (by rw [HE.out]; exact HQ.out), HO3.out.set_ (by omega) x y z, ((HF3.out.setCell (.inl (by simp)) _).setCell (.inl (by simp)) _).setCell (.inl (by simp)) _⟩
      · obtain rfl : j = l.length := by omega
        have hcm := HCM.out
        rw [maxLen] at hcm
        obtain ⟨w2, hcl, hr2, hf2⟩ := run_clear_names wr g l.length c i 0 (c - i) (flatM L) HO.out hij
        go_wp2_with fail
        go_ret
        exact YES.out i L _ _ HKI.out HO.out HF.out ⟨w2, hr2, hf2, Fr.refl _ _⟩

end Go.Proofs.Ytbjccgahmgpkjaa
