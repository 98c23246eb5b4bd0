/- The heap's small functions, walked. -/
import Derived.Test.YtnbpnpodpnlamaaMem
namespace Go.Proofs.Ytnbpnpodpnlamaa
open Go.RowKit

/-- A heap's state, plainly. -/
structure Hp where
  items : List Int
  at_ : List Int
  score : List Int

/-- Where a heap lies: its struct's block, its three slices. -/
structure HpL where
  a : Nat
  A1 : Option Addr
  c1 : Nat
  A2 : Option Addr
  c2 : Nat
  A3 : Option Addr
  c3 : Nat

def HpL.p (L : HpL) : Value := .pointer (some ⟨L.a, 0, none⟩)
def HpL.fp (L : HpL) : List Nat := L.a :: (blks L.A1 ++ (blks L.A2 ++ blks L.A3))

structure HpAt (w : World) (L : HpL) (H : Hp) : Prop where
  obj : At w L.a 55 #[.slice L.A1 H.items.length L.c1, .slice L.A2 H.at_.length L.c2, .slice L.A3 H.score.length L.c3]
  items : Ints w L.A1 L.c1 H.items
  at_ : Ints w L.A2 L.c2 H.at_
  score : Ints w L.A3 L.c3 H.score
  nodup : L.fp.Nodup
  same : H.at_.length = H.score.length


def Hp.sc (H : Hp) (x : Int) : Int := H.score[x.toNat]!
def Hp.pl (H : Hp) (x : Int) : Int := H.at_[x.toNat]!
def Hp.it (H : Hp) (i : Int) : Int := H.items[i.toNat]!
def Hp.isB (H : Hp) (x : Int) : Bool := decide (0 ≤ x) && decide (x < H.at_.length)
def Hp.aheadB (H : Hp) (x y : Int) : Bool := decide (H.sc y < H.sc x) || (decide (H.sc x = H.sc y) && decide (x < y))

theorem ret_bool {a b : Bool} (h : a = b) : Ending.returned (.bool a) = .returned (.bool b) := by rw [h]
theorem ret_int {k : IntKind} {a b : Int} (h : a = b) : Ending.returned (.int k a) = .returned (.int k b) := by rw [h]

set_option maxHeartbeats 400000 in
theorem heap_is (w : World) (L : HpL) (H : Hp) (h : HpAt w L H) (x : Int) :
    Calls Try.prog 57 #[.pointer (some ⟨L.a, 0, none⟩), .int .i64 x] w fun e w' => e = .returned (.bool (H.isB x)) ∧ w = w' := by
  have c1 := h.obj.cell 1
  simp at c1
  unfold Hp.isB
  by_cases h0 : 0 ≤ x
  · by_cases h1 : x < H.at_.length
    · go_enter Try.func57, Try.ntmps57
      go_wp2
      go_ret
      exact ⟨ret_bool (by simp [h0, h1]), rfl⟩
    · go_enter Try.func57, Try.ntmps57
      go_wp2
      go_ret
      exact ⟨ret_bool (by simp [h1]), rfl⟩
  · go_enter Try.func57, Try.ntmps57
    go_wp2
    go_ret
    exact ⟨ret_bool (by simp; omega), rfl⟩

set_option maxHeartbeats 400000 in
theorem heap_is_nil (w : World) (x : Int) :
    Calls Try.prog 57 #[.pointer none, .int .i64 x] w fun e w' => e = .returned (.bool false) ∧ w = w' := by
  go_enter Try.func57, Try.ntmps57
  go_wp2
  go_ret
  exact ⟨rfl, rfl⟩

theorem HpAt.cellS {w : World} {L : HpL} {H : Hp} (h : HpAt w L H) {x : Int} (h0 : 0 ≤ x) (h1 : x < H.at_.length) :
    ∃ g, L.A3 = some ⟨g, 0, none⟩ ∧ w.cell? ⟨g, x.toNat, none⟩ = some (.int .i64 (H.sc x)) := by
  have hs := h.same
  obtain ⟨g, hg, _⟩ := h.score.pos (i := x.toNat) (by omega)
  refine ⟨g, hg, ?_⟩
  have := h.score
  rw [hg] at this
  exact this.cell (by omega)

set_option maxHeartbeats 1000000 in
theorem heap_ahead (w : World) (L : HpL) (H : Hp) (h : HpAt w L H) (x y : Int) (hx0 : 0 ≤ x) (hx1 : x < H.at_.length) (hy0 : 0 ≤ y) (hy1 : y < H.at_.length) :
    Calls Try.prog 69 #[.pointer (some ⟨L.a, 0, none⟩), .int .i64 x, .int .i64 y] w fun e w' => e = .returned (.bool (H.aheadB x y)) ∧ ∃ n, w.drewN n = w' := by
  have hs := h.same
  have c1 := h.obj.cell 2
  simp at c1
  obtain ⟨g, hg, cx⟩ := h.cellS hx0 hx1
  obtain ⟨g', hg', cy⟩ := h.cellS hy0 hy1
  rw [hg] at hg' c1
  cases hg'
  have hx2 : x < H.score.length := by omega
  have hy2 : y < H.score.length := by omega
  unfold Hp.aheadB
  clear h hs hx1 hy1
  generalize H.sc x = sx at cx ⊢
  generalize H.sc y = sy at cy ⊢
  by_cases h1 : sy < sx
  · go_enter Try.func69, Try.ntmps69
    go_wp2_with fail
    go_quiet (fail)
    go_wp2
    go_ret
    exact ⟨ret_bool (by simp [h1]), _, rfl⟩
  · have h1' : decide (sy < sx) = false := decide_eq_false h1
    by_cases h2 : sx = sy
    · subst h2
      by_cases h3 : x < y
      · go_enter Try.func69, Try.ntmps69
        go_wp2_with fail
        go_quiet (fail)
        go_wp2
        go_ret
        exact ⟨ret_bool (by simp [h3]), _, rfl⟩
      · go_enter Try.func69, Try.ntmps69
        go_wp2_with fail
        go_quiet (fail)
        go_wp2
        go_ret
        exact ⟨ret_bool (by simp), _, rfl⟩
    · have h2' : (sx == sy) = false := beq_eq_false_iff_ne.2 h2
      go_enter Try.func69, Try.ntmps69
      go_wp2_with fail
      go_quiet (fail)
      go_wp2
      go_ret
      exact ⟨ret_bool (by simp [h1', h2]), _, rfl⟩

end Go.Proofs.Ytnbpnpodpnlamaa
