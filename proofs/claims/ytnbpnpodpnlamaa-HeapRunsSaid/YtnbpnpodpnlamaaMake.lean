/- make of ints, whose size is a number. -/
import Derived.Test.YtnbpnpodpnlamaaMemP
import Derived.Laws.MakeOwn
namespace Go.Proofs.Ytnbpnpodpnlamaa
open Go.RowKit

theorem run_make_int (W : World) (z : Int) (h0 : 0 ≤ z) (h1 : z ≤ 1099511627776) :
    (Instr.makeSlice 22 (.int .i64 z) (.int .i64 z)).run Try.prog W = .ok (.slice (some ⟨W.heap.size, 0, none⟩) z.toNat z.toNat) (W.alloc (.cells (madeCells #[.int .i64 0] z.toNat) 3)) := by
  obtain ⟨i0, hi, hz0, hz1, hz2⟩ := info_parts infoInt
  obtain ⟨n, rfl⟩ := Int.eq_ofNat_of_zero_le h0
  have hr := run_make (P := Try.prog) W 22 3 i0 (.int .i64 0) Try.underlying22 hi hz0 .i64 .i64 n n (by omega) (Int.le_refl _) (by rw [hz2]; omega) (by omega)
  simp only [Int.toNat_natCast] at hr ⊢
  rw [hz1, Nat.mul_one] at hr
  exact hr

theorem made_ints (W : World) (n : Nat) (h : n ≤ maxLen) : Ints (W.alloc (.cells (madeCells #[.int .i64 0] n) 3)) (some ⟨W.heap.size, 0, none⟩) n (List.replicate n 0) := by
  have := World.ownsRow_lit (base := 0) (e := 3) (size := 1) W (madeCells #[.int .i64 0] n) n (Nat.zero_le _) h (by rw [size_madeCells]; omega)
  rw [toList_madeCells_one] at this
  unfold Ints
  rw [List.length_replicate, List.map_replicate]
  exact this

end Go.Proofs.Ytnbpnpodpnlamaa
