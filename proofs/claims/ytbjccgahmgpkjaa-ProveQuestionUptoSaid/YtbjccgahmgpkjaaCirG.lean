/- The checker's count, rank and named walked. -/
import Derived.Test.YtbjccgahmgpkjaaCirF
import Derived.IntWalk
namespace Go.Proofs.Ytbjccgahmgpkjaa
open Go.RowKit
set_option linter.unusedVariables false

def cntP (C : Pc) (k : ByteArray) : Int :=
  if (k.toList == [105]) = true then C.ins.length else if (k.toList == [108]) = true then C.lat.length else if (k.toList == [111]) = true then C.outs.length else if (k.toList == [98]) = true then C.bads.length else C.invs.length

set_option maxHeartbeats 1000000 in
theorem pcount_calls (w : World) (H : Hd) (C : Pc) (s : ByteArray) :
    Calls Try.prog 60 #[cval H C, .string s] w fun e w' => e = .returned (.int .i64 (cntP C s)) ∧ Fr [] w w' := by
  have hK : Hid (∀ x, cntP C s = x → Ending.returned (.int .i64 x) = .returned (.int .i64 (cntP C s))) := fun s h => by rw [h]
  obtain ⟨mx, ins, lat, outs, bads, invs, ands, nms⟩ := C
  obtain ⟨iA, iC, lA, lC, oA, oC, bA, bC, vA, vC, gA, gC, nA, nC⟩ := H
  simp only [cval, cvs] at *
  rcases seq_or s.toList [105] with g0 | g0
  · have HC := Lib.hid (show cntP ⟨mx, ins, lat, outs, bads, invs, ands, nms⟩ s = _ from by simp only [cntP, g0, if_true]; rfl)
    go_enter Try.func60, Try.ntmps60
    go_wp2_with fail
    go_ret
    exact ⟨hK.out _ HC.out, box_fr _ _⟩
  rcases seq_or s.toList [108] with g1 | g1
  · have HC := Lib.hid (show cntP ⟨mx, ins, lat, outs, bads, invs, ands, nms⟩ s = _ from by simp only [cntP, g0, g1, if_true, if_false, Bool.false_eq_true]; rfl)
    go_enter Try.func60, Try.ntmps60
    go_wp2_with fail
    go_ret
    exact ⟨hK.out _ HC.out, box_fr _ _⟩
  rcases seq_or s.toList [111] with g2 | g2
  · have HC := Lib.hid (show cntP ⟨mx, ins, lat, outs, bads, invs, ands, nms⟩ s = _ from by simp only [cntP, g0, g1, g2, if_true, if_false, Bool.false_eq_true]; rfl)
    go_enter Try.func60, Try.ntmps60
    go_wp2_with fail
    go_ret
    exact ⟨hK.out _ HC.out, box_fr _ _⟩
  rcases seq_or s.toList [98] with g3 | g3
  · have HC := Lib.hid (show cntP ⟨mx, ins, lat, outs, bads, invs, ands, nms⟩ s = _ from by simp only [cntP, g0, g1, g2, g3, if_true, if_false, Bool.false_eq_true]; rfl)
    go_enter Try.func60, Try.ntmps60
    go_wp2_with fail
    go_ret
    exact ⟨hK.out _ HC.out, box_fr _ _⟩
  have HC := Lib.hid (show cntP ⟨mx, ins, lat, outs, bads, invs, ands, nms⟩ s = _ from by simp only [cntP, g0, g1, g2, g3, if_false, Bool.false_eq_true]; rfl)
  go_enter Try.func60, Try.ntmps60
  go_wp2_with fail
  go_ret
  exact ⟨hK.out _ HC.out, box_fr _ _⟩

theorem posI_bd (c : UInt8) : -1 ≤ posI c ∧ posI c ≤ 4 := by
  simp only [posI, Lib.indexByte]
  repeat' split
  all_goals simp_all
/-- A kind's letter. -/
def letter (k : ByteArray) : UInt8 := k.data.toList.headD 0
def rankI (x : Nm) : Int := posI (letter x.k) * 2048 + x.i

set_option maxHeartbeats 1000000 in
theorem rank_calls (w : World) (c : UInt8) (i : Int) (t : ByteArray) (h0 : 0 ≤ i) (h1 : i ≤ 17592186044416) :
    Calls Try.prog 62 #[.agg #[.string ⟨#[c]⟩, .int .i64 i, .string t]] w fun e w' => e = .returned (.int .i64 (posI c * 2048 + i)) ∧ Fr [] w w' := by
  obtain ⟨p1, p2⟩ := posI_bd c
  have KI := Lib.hid (fun W => strindex W c)
  generalize posI c = p at *
  obtain ⟨W1, hW1⟩ : ∃ W, w.alloc (.cells #[.string ⟨#[c]⟩, .int .i64 i, .string t] 61) = W := ⟨_, rfl⟩
  have hO : At W1 w.heap.size 61 #[.string ⟨#[c]⟩, .int .i64 i, .string t] := hW1 ▸ At.new _ _ _
  have HF1 : Hid (Fr [] w W1) := hW1 ▸ box_fr _ _
  have c0 := hO.cell 0
  have c1 := hO.cell 1
  simp at c0 c1
  have e0 := Ext.cell c0
  have e1 := Ext.cell c1
  have HW := Lib.hid hW1
  have m0 : IntKind.i64.wrap (p * 2048) = p * 2048 := IntWalk.i64_in _ (by omega)
  have m1 : IntKind.i64.wrap (p * 2048 + i) = p * 2048 + i := IntWalk.i64_in _ (by omega)
  clear hW1 hO c0 c1
  go_enter Try.func62, Try.ntmps62
  go_upto_region 1 with fail
  rw [HW.out]
  refine wp_region_ext (by kernel_rfl) (by kernel_rfl) ?_
  repeat (go_big_quiet_step (exact call_same (KI.out _)))
  refine wpQuiet_nil ?_
  rintro w2 ⟨u2, hu2⟩
  have HF_w2 : Hid (Fr [] W1 w2) := hu2 ▸ u2.fr
  clear hu2 u2
  go_wp2_with fail
  go_ret
  exact ⟨rfl, HF1.out.then_ HF_w2.out⟩

end Go.Proofs.Ytbjccgahmgpkjaa
