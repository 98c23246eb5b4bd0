/- The page's example; the law HeapNobody. -/
import Derived.Test.YtnbpnpodpnlamaaHeapI
namespace Go.Proofs.Ytnbpnpodpnlamaa
open Go.RowKit

def ha0 : Hp := { items := [], at_ := [-1, -1, -1], score := [0, 0, 0] }
def ha1 : Hp := { items := [1], at_ := [-1, 0, -1], score := [0, 0, 0] }
def ha2 : Hp := { items := [1, 2], at_ := [-1, 0, 1], score := [0, 0, 0] }
def ha3 : Hp := { items := [2, 1], at_ := [-1, 1, 0], score := [0, 0, 1] }
def ha4 : Hp := { items := [1], at_ := [-1, 0, -1], score := [0, 0, 1] }
theorem ha_e0 : Hp.none_.growF 3 = ha0 := rfl
theorem ha_e1 : ha0.pushF 1 = ha1 := by rfl
theorem ha_e2 : ha1.pushF 2 = ha2 := by rfl
theorem ha_e3 : ha2.raiseF 2 1 = ha3 := by rfl
theorem ha_e4 : ha3.popF = ha4 := by rfl
theorem ha_r0 : ha0.InR := fun j hj => by simp [ha0] at hj
theorem ha_r1 : ha1.InR := fun j hj => by
  obtain rfl : j = 0 := by simp [ha1] at hj; exact hj
  simp [ha1]
theorem ha_r2 : ha2.InR := fun j hj => by
  have hj : j < 2 := by simpa [ha2] using hj
  match j, hj with
  | 0, _ => simp [ha2]
  | 1, _ => simp [ha2]
theorem ha_r3 : ha3.InR := fun j hj => by
  have hj : j < 2 := by simpa [ha3] using hj
  match j, hj with
  | 0, _ => simp [ha3]
  | 1, _ => simp [ha3]

set_option maxRecDepth 100000 in
set_option maxHeartbeats 2000000 in
theorem heap_alive (w : World) : Calls Try.prog 26 #[] w fun e w' => e = .returned (.bool true) ∧ Fr [] w w' := by
  go_enter Try.func26, Try.ntmps26
  go_wp2_with fail
  refine (heap_new _ 3).mono ?_
  rintro e w1 ⟨L, rfl, hL, hm, hn, hF⟩
  rw [ha_e0] at hL
  have G1 := Lib.hid hL
  have N1 := Lib.hid hn
  have F1 := Lib.hid hF
  clear hL hm hn hF
  go_wp2_with fail
  refine (heap_push_yes _ L _ G1.out ha_r0 1 (by decide) (by decide) (by decide)).mono ?_
  rintro e w2 ⟨rfl, L2, hL, hE, hF⟩
  rw [ha_e1] at hL
  have G2 := Lib.hid hL
  have E2 := Lib.hid hE
  have F2 := Lib.hid hF
  rw [← hE.1]
  clear hL hE hF
  go_wp2_with fail
  refine (heap_push_yes _ L2 _ G2.out ha_r1 2 (by decide) (by decide) (by decide)).mono ?_
  rintro e w3 ⟨rfl, L3, hL, hE, hF⟩
  rw [ha_e2] at hL
  have G3 := Lib.hid hL
  have E3 := Lib.hid hE
  have F3 := Lib.hid hF
  rw [← hE.1]
  clear hL hE hF
  go_wp2_with fail
  refine (heap_raise_yes _ L3 _ G3.out ha_r2 2 1 (by decide) (by decide) (by decide) (by decide) (by decide) (by decide)).mono ?_
  rintro e w4 ⟨rfl, hL, hF⟩
  rw [ha_e3] at hL
  have G4 := Lib.hid hL
  have F4 := Lib.hid hF
  clear hL hF
  go_wp2_with fail
  refine (heap_pop_yes _ L3 _ G4.out ha_r3 1 rfl (by decide)).mono ?_
  rintro e w5 ⟨rfl, hL, hF⟩
  rw [ha_e4] at hL
  have G5 := Lib.hid hL
  have F5 := Lib.hid hF
  have e0 : ha3.it 0 = 2 := rfl
  rw [e0]
  clear hL hF e0
  go_wp2_with fail
  refine (heap_len _ L3 _ G5.out).mono ?_
  rintro e w6 ⟨rfl, rfl⟩
  have e1 : (ha4.items.length : Int) = 1 := rfl
  rw [e1]
  clear e1
  go_wp2_with fail
  go_ret
  have k1 : ∀ k, k ∈ L.fp → k ∈ ([] : List Nat) ∨ w.heap.size ≤ k := fun k hk => .inr (N1.out k hk)
  have k2 : ∀ k, k ∈ L2.fp → k ∈ ([] : List Nat) ∨ w.heap.size ≤ k := fun k hk => (E2.out.2.1 k hk).elim (k1 k) fun h => .inr (Nat.le_trans F1.out.size h)
  have f2 := F1.out.trans F2.out k1
  have k3 : ∀ k, k ∈ L3.fp → k ∈ ([] : List Nat) ∨ w.heap.size ≤ k := fun k hk => (E3.out.2.1 k hk).elim (k2 k) fun h => .inr (Nat.le_trans f2.size h)
  exact ⟨rfl, (((f2.trans F3.out k2).trans F4.out k3).trans F5.out k3)⟩

/-- A heap that nobody made. -/
theorem HpAt.bare {w : World} {a : Nat} (h : At w a 55 #[.slice none 0 0, .slice none 0 0, .slice none 0 0]) :
    HpAt w { a := a, A1 := none, c1 := 0, A2 := none, c2 := 0, A3 := none, c3 := 0 } Hp.none_ :=
  ⟨h, Ints.nil _, Ints.nil _, Ints.nil _, by simp [HpL.fp, blks], rfl⟩

theorem none_isB (x : Int) : Hp.none_.isB x = false := by
  cases h : Hp.none_.isB x with
  | false => rfl
  | true =>
    have := Hp.isB_true h
    simp [Hp.none_] at this
    omega
theorem none_hasB (x : Int) : Hp.none_.hasB x = false := by simp [Hp.hasB, none_isB]
theorem none_scB (x : Int) : Hp.none_.scB x = 0 := by simp [Hp.scB, none_isB]

set_option maxRecDepth 100000 in
set_option maxHeartbeats 2000000 in
theorem heap_nobody (w : World) (x : Int) : Calls Try.prog 6 #[.int .i64 x] w fun e w' => e = .returned (.bool true) ∧ Fr [] w w' := by
  have HB : Hid (At ((w.alloc (.cells #[.slice none 0 0, .slice none 0 0, .slice none 0 0] 55)).alloc (.cells #[.pointer none, .pointer (some ⟨w.heap.size, 0, none⟩)] 43)) w.heap.size 55 #[.slice none 0 0, .slice none 0 0, .slice none 0 0]) :=
    (At.new _ _ _).alloc _
  have HC : Hid (At ((w.alloc (.cells #[.slice none 0 0, .slice none 0 0, .slice none 0 0] 55)).alloc (.cells #[.pointer none, .pointer (some ⟨w.heap.size, 0, none⟩)] 43)) (w.heap.size + 1) 43 #[.pointer none, .pointer (some ⟨w.heap.size, 0, none⟩)]) := by
    have := At.new (w.alloc (.cells #[.slice none 0 0, .slice none 0 0, .slice none 0 0] 55)) 43 #[.pointer none, .pointer (some ⟨w.heap.size, 0, none⟩)]
    rwa [show (w.alloc (.cells #[.slice none 0 0, .slice none 0 0, .slice none 0 0] 55)).heap.size = w.heap.size + 1 from by simp] at this
  have HF : Hid (Fr [] w ((w.alloc (.cells #[.slice none 0 0, .slice none 0 0, .slice none 0 0] 55)).alloc (.cells #[.pointer none, .pointer (some ⟨w.heap.size, 0, none⟩)] 43))) :=
    ((Fr.refl [] w).alloc _).alloc _
  go_enter Try.func6, Try.ntmps6
  go_wp2_with fail
  generalize hW : (w.alloc (.cells #[.slice none 0 0, .slice none 0 0, .slice none 0 0] 55)).alloc (.cells #[.pointer none, .pointer (some ⟨w.heap.size, 0, none⟩)] 43) = W at HB HC HF ⊢
  have HW := Lib.hid hW
  clear hW
  have c0 := HC.out.cell 0
  have c1 := HC.out.cell 1
  simp at c0 c1
  go_loopg [5, 6, 7, 8] 2 (fun g i _ _ _ wr => ∃ k : Nat, k + g = 2 ∧ i = .int .i64 k ∧ W = wr)
  case atStart => exact ⟨0, rfl, rfl, rfl⟩
  case round =>
    obtain ⟨k, hk, rfl, rfl⟩ := hrel
    have HK := Lib.hid hk
    have hk2 : k ≤ 2 := by omega
    clear hk
    by_cases h0 : k = 0
    · subst h0
      go_wp2_with fail
      refine (heap_grow_nil _ 3).mono ?_
      rintro e w1 ⟨rfl, rfl⟩
      go_wp2_with fail
      refine (heap_raise_nil _ x 1).mono ?_
      rintro e w1 ⟨rfl, rfl⟩
      go_wp2_with fail
      refine (heap_pop_nil _).mono ?_
      rintro e w1 ⟨rfl, rfl⟩
      go_wp2_with fail
      refine (heap_push_nil _ x).mono ?_
      rintro e w1 ⟨rfl, rfl⟩
      go_wp2_with fail
      refine (heap_len_nil _).mono ?_
      rintro e w1 ⟨rfl, rfl⟩
      go_wp2_with fail
      refine (heap_has_nil _ x).mono ?_
      rintro e w1 ⟨rfl, rfl⟩
      go_wp2_with fail
      refine (heap_score_nil _ x).mono ?_
      rintro e w1 ⟨rfl, rfl⟩
      go_wp2_with fail
      go_roundg 1
      case measure => have := HK.out; omega
      case rel => exact ⟨1, rfl, rfl, rfl⟩
    · by_cases h1 : k = 1
      · subst h1
        have HP := Lib.hid (HpAt.bare HB.out)
        go_wp2_with fail
        refine (heap_grow_bare _ _ _ HP.out rfl rfl rfl 3).mono ?_
        rintro e w1 ⟨rfl, rfl⟩
        go_wp2_with fail
        refine (heap_raise_no _ _ _ HP.out x 1 (by rw [none_isB]; simp)).mono ?_
        rintro e w1 ⟨rfl, rfl⟩
        go_wp2_with fail
        refine (heap_pop_no _ _ _ HP.out rfl).mono ?_
        rintro e w1 ⟨rfl, rfl⟩
        go_wp2_with fail
        refine (heap_push_no _ _ _ HP.out x (.inl (none_isB x))).mono ?_
        rintro e w1 ⟨rfl, rfl⟩
        go_wp2_with fail
        refine (heap_len _ _ _ HP.out).mono ?_
        rintro e w1 ⟨rfl, rfl⟩
        have e0 : (Hp.none_.items.length : Int) = 0 := rfl
        rw [e0]
        go_wp2_with fail
        refine (heap_has _ _ _ HP.out x).mono ?_
        rintro e w1 ⟨rfl, rfl⟩
        rw [none_hasB]
        go_wp2_with fail
        refine (heap_score _ _ _ HP.out x).mono ?_
        rintro e w1 ⟨rfl, rfl⟩
        rw [none_scB]
        go_wp2_with fail
        go_roundg 0
        case measure => have := HK.out; omega
        case rel => exact ⟨2, rfl, rfl, rfl⟩
      · obtain rfl : k = 2 := by omega
        go_wp2_with fail
        refine (heap_alive _).mono ?_
        rintro e w1 ⟨rfl, hf⟩
        have HF1 := Lib.hid hf
        clear hf
        go_wp2_with fail
        go_ret
        exact ⟨rfl, HF.out.then_ HF1.out⟩

end Go.Proofs.Ytnbpnpodpnlamaa
