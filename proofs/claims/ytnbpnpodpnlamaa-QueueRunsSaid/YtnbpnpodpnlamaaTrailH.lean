/- The page's example; the law TrailNobody. -/
import Derived.Test.YtnbpnpodpnlamaaTrailG
namespace Go.Proofs.Ytnbpnpodpnlamaa
open Go.RowKit
set_option linter.unusedVariables false

def ta0 : Tr := { cells := [⟨0, 0, 0⟩, ⟨0, -1, 0⟩, ⟨0, -1, 0⟩], lits := [], levels := [] }
def ta1 : Tr := { cells := [⟨0, 0, 0⟩, ⟨1, 0, 0⟩, ⟨0, -1, 0⟩], lits := [1], levels := [] }
def ta2 : Tr := { cells := [⟨0, 0, 0⟩, ⟨1, 0, 0⟩, ⟨0, -1, 0⟩], lits := [1], levels := [1] }
def ta3 : Tr := { cells := [⟨0, 0, 0⟩, ⟨1, 0, 0⟩, ⟨-1, 1, 7⟩], lits := [1, -2], levels := [1] }
theorem ta_e0 : Tr.fresh.growF 2 = ta0 := rfl
theorem ta_e1 : (if ta0.putB 1 = true then ta0.putF 1 0 else ta0) = ta1 := rfl
theorem ta_e2 : ta1.deepF = ta2 := rfl
theorem ta_e3 : (if ta2.putB (-2) = true then ta2.putF (-2) 7 else ta2) = ta3 := rfl
theorem ta_e4 : ta3.backF 0 = ta1 := rfl
theorem ta_i3 : ta3.Inv := by
  constructor
  · intro m hm
    obtain rfl : m = 0 := by simp [ta3] at hm; exact hm
    exact ⟨1, rfl, by decide⟩
  · intro j hj
    have hj : j < 2 := by simpa [ta3] using hj
    match j, hj with
    | 0, _ => rfl
    | 1, _ => rfl
theorem ta_s1 : ∀ v : Int, 1 ≤ v → v < ta1.cells.length → -1 ≤ (ta1.cel v).v ∧ (ta1.cel v).v ≤ 1 := by
  intro v h0 h1
  have h1 : v < 3 := h1
  rcases (by omega : v = 1 ∨ v = 2) with rfl | rfl
  · exact ⟨by decide, by decide⟩
  · exact ⟨by decide, by decide⟩

set_option maxRecDepth 100000 in
set_option maxHeartbeats 2000000 in
theorem trail_alive (w : World) : Calls Try.prog 11 #[] w fun e w' => e = .returned (.bool true) ∧ Fr [] w w' := by
  go_enter Try.func11, Try.ntmps11
  go_wp2_with fail
  refine (trail_new _ 2).mono ?_
  rintro e w1 ⟨L, rfl, hL, hn, hF⟩
  rw [ta_e0] at hL
  have G1 := Lib.hid hL
  have N1 := Lib.hid hn
  have F1 := Lib.hid hF
  clear hL hn hF
  go_wp2_with fail
  refine (trail_put _ L _ G1.out 1 0 (by decide) (by decide) (by decide)).mono ?_
  rintro e w2 ⟨rfl, L2, hL, hE, hF⟩
  rw [ta_e1] at hL
  have b1 : ta0.putB 1 = true := rfl
  rw [b1]
  have G2 := Lib.hid hL
  have E2 := Lib.hid hE
  have F2 := Lib.hid hF
  rw [← hE.1]
  clear hL hE hF b1
  go_wp2_with fail
  refine (trail_deeper _ L2 _ G2.out (by decide) (by decide)).mono ?_
  rintro e w3 ⟨rfl, L3, hL, hE, hF⟩
  rw [ta_e2] at hL
  have b1 : ((ta1.levels.length + 1 : Nat) : Int) = 1 := rfl
  rw [b1]
  have G3 := Lib.hid hL
  have E3 := Lib.hid hE
  have F3 := Lib.hid hF
  rw [← hE.1]
  clear hL hE hF b1
  go_wp2_with fail
  refine (trail_put _ L3 _ G3.out (-2) 7 (by decide) (by decide) (by decide)).mono ?_
  rintro e w4 ⟨rfl, L4, hL, hE, hF⟩
  rw [ta_e3] at hL
  have b1 : ta2.putB (-2) = true := rfl
  rw [b1]
  have G4 := Lib.hid hL
  have E4 := Lib.hid hE
  have F4 := Lib.hid hF
  rw [← hE.1]
  clear hL hE hF b1
  go_wp2_with fail
  refine (trail_back _ L4 _ G4.out ta_i3 0).mono ?_
  rintro e w5 ⟨rfl, hL, hF⟩
  have hL := (show TrAt w5 L4 (ta3.backF 0) from hL)
  rw [ta_e4] at hL
  have G5 := Lib.hid hL
  have F5 := Lib.hid hF
  clear hL hF
  go_wp2_with fail
  refine (trail_value _ L4 _ G5.out 2 (by decide) (by decide) ta_s1).mono ?_
  rintro e w6 ⟨rfl, rfl⟩
  have b1 : ta1.valF 2 = 0 := rfl
  rw [b1]
  clear b1
  go_wp2_with fail
  refine (trail_value _ L4 _ G5.out 1 (by decide) (by decide) ta_s1).mono ?_
  rintro e w6 ⟨rfl, rfl⟩
  have b1 : ta1.valF 1 = 1 := rfl
  rw [b1]
  clear b1
  go_wp2_with fail
  refine (trail_level _ L4 _ G5.out 1).mono ?_
  rintro e w6 ⟨rfl, rfl⟩
  have b1 : ta1.levB 1 = 0 := rfl
  rw [b1]
  clear b1
  go_wp2_with fail
  go_ret
  have k1 : ∀ k, k ∈ L.fp → k ∈ ([] : List Nat) ∨ w.heap.size ≤ k := fun k hk => .inr (N1.out k hk)
  have k2 : ∀ k, k ∈ L2.fp → k ∈ ([] : List Nat) ∨ w.heap.size ≤ k := fun k hk => (E2.out.2 k hk).elim (k1 k) fun h => .inr (Nat.le_trans F1.out.size h)
  have f2 := F1.out.trans F2.out k1
  have k3 : ∀ k, k ∈ L3.fp → k ∈ ([] : List Nat) ∨ w.heap.size ≤ k := fun k hk => (E3.out.2 k hk).elim (k2 k) fun h => .inr (Nat.le_trans f2.size h)
  have f3 := f2.trans F3.out k2
  have k4 : ∀ k, k ∈ L4.fp → k ∈ ([] : List Nat) ∨ w.heap.size ≤ k := fun k hk => (E4.out.2 k hk).elim (k3 k) fun h => .inr (Nat.le_trans f3.size h)
  exact ⟨rfl, ((f3.trans F4.out k3).trans F5.out k4)⟩

-- a trail that nobody made
def Tr.none_ : Tr := { cells := [], lits := [], levels := [] }
def bareL (a : Nat) : TrL := { a := a, A1 := none, c1 := 0, A2 := none, c2 := 0, A3 := none, c3 := 0 }
theorem TrAt.bare {w : World} {a : Nat} (h : At w a 67 #[.slice none 0 0, .slice none 0 0, .slice none 0 0]) : TrAt w (bareL a) Tr.none_ :=
  ⟨h, Cls.nil _, Ints.nil _, Ints.nil _, by simp [bareL, TrL.fp, blks]⟩
theorem tnone_isB (x : Int) : Tr.none_.isB x = false := by
  cases h : Tr.none_.isB x with
  | false => rfl
  | true =>
    have := Tr.isB_true h
    simp [Tr.none_] at this
    omega
theorem tnone_putB (x : Int) : Tr.none_.putB x = false := by simp [Tr.putB, tnone_isB]
theorem tnone_valF (x : Int) : Tr.none_.valF x = 0 := by simp [Tr.valF, tnone_isB]
theorem tnone_levB (x : Int) : Tr.none_.levB x = -1 := by simp [Tr.levB, tnone_isB]
theorem tnone_reaB (x : Int) : Tr.none_.reaB x = 0 := by simp [Tr.reaB, tnone_isB]
theorem tnone_atB (x : Int) : Tr.none_.atB x = 0 := by
  unfold Tr.atB
  rw [if_neg]
  simp [Tr.none_]
theorem tnone_inv : Tr.none_.Inv := ⟨fun m hm => by simp [Tr.none_] at hm, fun m hm => by simp [Tr.none_] at hm⟩
theorem clone_nil (w : World) :
    Calls Try.prog 52 #[.slice none 0 0] w fun e w' => e = .returned (.slice none 0 0) ∧ w = w' := by
  have he : ∀ w : World, (binOp .eql 22 (.slice none 0 0) (.slice none 0 0)).run Try.prog w = .ok (.bool true) w := fun w => Lib.run_eql_slice_nil w _ _ _ _ _ _ _ Try.underlying22
  go_enter Try.func52, Try.ntmps52
  go_wp2_with fail
  go_ret
  exact ⟨rfl, rfl⟩
set_option maxRecDepth 100000 in
theorem trail_lits_bare (w : World) (a : Nat) (h : At w a 67 #[.slice none 0 0, .slice none 0 0, .slice none 0 0]) :
    Calls Try.prog 14 #[.pointer (some ⟨a, 0, none⟩)] w fun e w' => e = .returned (.slice none 0 0) ∧ w = w' := by
  have o1 := h.cell 1
  simp at o1
  clear h
  go_enter Try.func14, Try.ntmps14
  go_wp2_with fail
  refine (clone_nil _).mono ?_
  rintro e w1 ⟨rfl, rfl⟩
  go_wp2_with fail
  go_ret
  exact ⟨rfl, rfl⟩
theorem trail_put_bare (w : World) (a : Nat) (h : TrAt w (bareL a) Tr.none_) (l r : Int) (hlo : -9223372036854775808 ≤ l) (hhi : l ≤ 9223372036854775807) :
    Calls Try.prog 13 #[.pointer (some ⟨a, 0, none⟩), .int .i64 l, .int .i64 r] w fun e w' => e = .returned (.bool false) ∧ w = w' := by
  rcases lit_cases l hlo with ⟨hl, hv⟩ | ⟨hl, hl2, hv⟩ | ⟨hl, hv, hw⟩
  · exact trail_put_p_out w (bareL a) _ h l r hl hhi (tnone_isB _)
  · exact trail_put_n_out w (bareL a) _ h l r hl hl2 (tnone_isB _)
  · exact trail_put_m_out w (bareL a) _ h l r hl hw (tnone_isB _)
theorem trail_back_bare (w : World) (a : Nat) (h : TrAt w (bareL a) Tr.none_) (level : Int) :
    Calls Try.prog 16 #[.pointer (some ⟨a, 0, none⟩), .int .i64 level] w fun e w' => e = .returned (.tuple #[]) ∧ w = w' := by
  by_cases hl : level < 0
  · exact trail_back_n_out w (bareL a) _ h level hl (by decide)
  · obtain ⟨m, rfl⟩ : ∃ m : Nat, level = m := ⟨level.toNat, by omega⟩
    exact trail_back_p_out w (bareL a) _ h m (Nat.zero_le _)

set_option maxRecDepth 100000 in
set_option maxHeartbeats 4000000 in
theorem trail_nobody (w : World) (x level : Int) (hlo : -9223372036854775808 ≤ x) (hhi : x ≤ 9223372036854775807) :
    Calls Try.prog 8 #[.int .i64 x, .int .i64 level] w fun e w' => e = .returned (.bool true) ∧ Fr [] w w' := by
  have HB : Hid (At ((w.alloc (.cells #[.slice none 0 0, .slice none 0 0, .slice none 0 0] 67)).alloc (.cells #[.pointer none, .pointer (some ⟨w.heap.size, 0, none⟩)] 24)) w.heap.size 67 #[.slice none 0 0, .slice none 0 0, .slice none 0 0]) :=
    (At.new _ _ _).alloc _
  have HC : Hid (At ((w.alloc (.cells #[.slice none 0 0, .slice none 0 0, .slice none 0 0] 67)).alloc (.cells #[.pointer none, .pointer (some ⟨w.heap.size, 0, none⟩)] 24)) (w.heap.size + 1) 24 #[.pointer none, .pointer (some ⟨w.heap.size, 0, none⟩)]) := by
    have := At.new (w.alloc (.cells #[.slice none 0 0, .slice none 0 0, .slice none 0 0] 67)) 24 #[.pointer none, .pointer (some ⟨w.heap.size, 0, none⟩)]
    rwa [show (w.alloc (.cells #[.slice none 0 0, .slice none 0 0, .slice none 0 0] 67)).heap.size = w.heap.size + 1 from by simp] at this
  have HF : Hid (Fr [] w ((w.alloc (.cells #[.slice none 0 0, .slice none 0 0, .slice none 0 0] 67)).alloc (.cells #[.pointer none, .pointer (some ⟨w.heap.size, 0, none⟩)] 24))) :=
    ((Fr.refl [] w).alloc _).alloc _
  go_enter Try.func8, Try.ntmps8
  go_wp2_with fail
  generalize hW : (w.alloc (.cells #[.slice none 0 0, .slice none 0 0, .slice none 0 0] 67)).alloc (.cells #[.pointer none, .pointer (some ⟨w.heap.size, 0, none⟩)] 24) = W at HB HC HF ⊢
  have HW := Lib.hid hW
  clear hW
  have c0 := HC.out.cell 0
  have c1 := HC.out.cell 1
  simp at c0 c1
  go_loopg [4, 7, 8] 2 (fun g _ i _ wr => ∃ k : Nat, k + g = 2 ∧ i = .int .i64 k ∧ W = wr)
  case atStart => exact ⟨0, rfl, rfl, rfl⟩
  case round =>
    obtain ⟨k, hk, rfl, rfl⟩ := hrel
    have HK := Lib.hid hk
    have hk2 : k ≤ 2 := by omega
    clear hk
    by_cases h0 : k = 0
    · subst h0
      go_wp2_with fail
      refine (trail_grow_nil _ 3).mono ?_
      rintro e w1 ⟨rfl, rfl⟩
      go_wp2_with fail
      refine (trail_back_nil _ level).mono ?_
      rintro e w1 ⟨rfl, rfl⟩
      go_wp2_with fail
      refine (trail_put_nil _ x 1 hlo hhi).mono ?_
      rintro e w1 ⟨rfl, rfl⟩
      go_wp2_with fail
      refine (trail_deeper_nil _).mono ?_
      rintro e w1 ⟨rfl, rfl⟩
      go_wp2_with fail
      refine (trail_value_nil _ x hlo hhi).mono ?_
      rintro e w1 ⟨rfl, rfl⟩
      go_wp2_with fail
      refine (trail_level_nil _ x).mono ?_
      rintro e w1 ⟨rfl, rfl⟩
      go_wp2_with fail
      refine (trail_reason_nil _ x).mono ?_
      rintro e w1 ⟨rfl, rfl⟩
      go_wp2_with fail
      refine (trail_lits_nil _).mono ?_
      rintro e w1 ⟨rfl, rfl⟩
      go_wp2_with fail
      refine (trail_depth_nil _).mono ?_
      rintro e w1 ⟨rfl, rfl⟩
      go_wp2_with fail
      refine (trail_len_nil _).mono ?_
      rintro e w1 ⟨rfl, rfl⟩
      go_wp2_with fail
      refine (trail_at_nil _ x).mono ?_
      rintro e w1 ⟨rfl, rfl⟩
      go_wp2_with fail
      go_roundg 1
      case measure => have := HK.out; omega
      case rel => exact ⟨1, rfl, rfl, rfl⟩
    · by_cases h1 : k = 1
      · subst h1
        have HP := Lib.hid (TrAt.bare HB.out)
        go_wp2_with fail
        refine (trail_grow_bare _ (bareL _) _ HP.out rfl 3).mono ?_
        rintro e w1 ⟨rfl, rfl⟩
        go_wp2_with fail
        refine (trail_back_bare _ _ HP.out level).mono ?_
        rintro e w1 ⟨rfl, rfl⟩
        go_wp2_with fail
        refine (trail_put_bare _ _ HP.out x 1 hlo hhi).mono ?_
        rintro e w1 ⟨rfl, rfl⟩
        go_wp2_with fail
        refine (trail_deeper_bare _ (bareL _) _ HP.out rfl).mono ?_
        rintro e w1 ⟨rfl, rfl⟩
        go_wp2_with fail
        refine (trail_value _ (bareL _) _ HP.out x hlo hhi (fun v h0 h1 => by simp [Tr.none_] at h1; omega)).mono ?_
        rintro e w1 ⟨rfl, rfl⟩
        rw [tnone_valF]
        go_wp2_with fail
        refine (trail_level _ (bareL _) _ HP.out x).mono ?_
        rintro e w1 ⟨rfl, rfl⟩
        rw [tnone_levB]
        go_wp2_with fail
        refine (trail_reason _ (bareL _) _ HP.out x).mono ?_
        rintro e w1 ⟨rfl, rfl⟩
        rw [tnone_reaB]
        go_wp2_with fail
        refine (trail_lits_bare _ _ HB.out).mono ?_
        rintro e w1 ⟨rfl, rfl⟩
        go_wp2_with fail
        refine (trail_depth _ (bareL _) _ HP.out).mono ?_
        rintro e w1 ⟨rfl, rfl⟩
        have e0 : (Tr.none_.levels.length : Int) = 0 := rfl
        rw [e0]
        go_wp2_with fail
        refine (trail_len _ (bareL _) _ HP.out).mono ?_
        rintro e w1 ⟨rfl, rfl⟩
        have e1 : (Tr.none_.lits.length : Int) = 0 := rfl
        rw [e1]
        go_wp2_with fail
        refine (trail_at _ (bareL _) _ HP.out x).mono ?_
        rintro e w1 ⟨rfl, rfl⟩
        rw [tnone_atB]
        go_wp2_with fail
        go_roundg 0
        case measure => have := HK.out; omega
        case rel => exact ⟨2, rfl, rfl, rfl⟩
      · obtain rfl : k = 2 := by omega
        go_wp2_with fail
        refine (trail_alive _).mono ?_
        rintro e w1 ⟨rfl, hf⟩
        have HF1 := Lib.hid hf
        clear hf
        go_wp2_with fail
        go_ret
        exact ⟨rfl, HF.out.then_ HF1.out⟩

end Go.Proofs.Ytnbpnpodpnlamaa
