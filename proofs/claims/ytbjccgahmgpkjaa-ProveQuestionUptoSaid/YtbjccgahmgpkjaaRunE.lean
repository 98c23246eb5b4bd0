/- Next walked. -/
import Derived.Test.YtbjccgahmgpkjaaRunD
namespace Go.Proofs.Ytbjccgahmgpkjaa
open Go.RowKit
set_option linter.unusedVariables false

def nxt1 (v : List UInt8) (x : T3) : UInt8 := bitC (trL v x.b)
def nxtL (C : Pc) (st inp : ByteArray) : List UInt8 := C.lat.map (nxt1 (valL C st inp))
theorem tx_app (a b : List UInt8) : tx a ++ tx b = tx (a ++ b) := by
  refine ByteArray.ext (Array.toList_inj.1 ?_)
  simp [tx, ByteArray.data_append]

/-- What Next answers. -/
def NxP (C : Pc) (st inp : ByteArray) (w : World) (e : Ending) (w' : World) : Prop :=
  ((e = .returned (.tuple #[.string ⟨#[]⟩, .int .i64 9]) ∧ ¬ Valid C) ∨
   (e = .returned (.tuple #[.string ⟨#[]⟩, .int .i64 5]) ∧ Valid C ∧ (bitsB st C.lat.length && bitsB inp C.ins.length) = false) ∨
   (e = .returned (.tuple #[.string (tx (nxtL C st inp)), .int .i64 0]) ∧ Valid C ∧ (bitsB st C.lat.length && bitsB inp C.ins.length) = true)) ∧ Fr [] w w'

set_option maxRecDepth 100000 in
set_option maxHeartbeats 4000000 in
theorem next_calls (w : World) (H : Hd) (C : Pc) (st inp : ByteArray) (h : CiAt w H C) (hnil : H.iA = none → C.ins.length = 0 ∧ H.iC = 0) (hs : st.size ≤ maxLen) (hi : inp.size ≤ maxLen) :
    Calls Try.prog 11 #[cval H C, .string st, .string inp] w (NxP C st inp w) := by
  have HH := Lib.hid h
  have HS := Lib.hid (Cx.start w H C)
  have N1 : Hid (∀ W, ¬ Valid C → Fr [] w W → NxP C st inp w (.returned (.tuple #[.string ⟨#[]⟩, .int .i64 9])) W) := fun W h1 h2 => ⟨.inl ⟨rfl, h1⟩, h2⟩
  have N2 : Hid (∀ W, Valid C → (bitsB st C.lat.length && bitsB inp C.ins.length) = false → Fr [] w W → NxP C st inp w (.returned (.tuple #[.string ⟨#[]⟩, .int .i64 5])) W) := fun W h1 h2 h3 => ⟨.inr (.inl ⟨rfl, h1, h2⟩), h3⟩
  have YES : Hid (∀ W, Valid C → (bitsB st C.lat.length && bitsB inp C.ins.length) = true → Fr [] w W → NxP C st inp w (.returned (.tuple #[.string (tx (nxtL C st inp)), .int .i64 0])) W) := fun W h1 h2 h3 => ⟨.inr (.inr ⟨rfl, h1, h2⟩), h3⟩
  have HVA := Lib.hid (fun W (hf : Fr [] w W) => values_calls W H C st inp (h.keep hf) hnil hs hi)
  clear h hnil
  obtain ⟨mx, ins, lat, outs, bads, invs, ands, nms⟩ := C
  obtain ⟨iA, iC, lA, lC, oA, oC, bA, bC, vA, vC, gA, gC, nA, nC⟩ := H
  simp only [cval, cvs] at *
  go_enter Try.func11, Try.ntmps11
  have hx := HS.out
  obtain ⟨c0, c1, c2, c3, c4, c5, c6, c7⟩ := hx.cells
  clear hx
  simp only at c0 c1 c2 c3 c4 c5 c6 c7
  go_wp2_with fail
  refine (HVA.out _ HS.out.fr).mono ?_
  clear c0 c1 c2 c3 c4 c5 c6 c7
  rintro e W1 ⟨hc, hf1⟩
  have HX1 := Lib.hid (HS.out.keep hf1)
  clear hf1 HS HVA
  rcases hc with ⟨rfl, hv⟩ | ⟨rfl, hv, hb⟩ | ⟨rfl, hv, hb⟩
  · go_wp2_with fail
    go_ret2
    exact N1.out _ hv HX1.out.fr
  · go_wp2_with fail
    go_ret2
    exact N2.out _ hv hb HX1.out.fr
  · have HV := Lib.hid hv
    have HB := Lib.hid hb
    have hvl := valL_len ⟨mx, ins, lat, outs, bads, invs, ands, nms⟩ st inp
    have hzl := zrL_len ⟨mx, ins, lat, outs, bads, invs, ands, nms⟩ hv.m0
    have hm0 := hv.m0
    have hm1 := hv.m1
    have hll := hv.l
    simp only at hzl hm0 hm1 hll
    obtain ⟨v, hvv⟩ : ∃ v, valL ⟨mx, ins, lat, outs, bads, invs, ands, nms⟩ st inp = v := ⟨_, rfl⟩
    have HVV := Lib.hid hvv
    rw [hvv] at hvl ⊢
    have hvs : v.length ≤ 4096 := by omega
    clear hv hb hvv hzl hvl
    go_wp2_with fail
    go_loopg [10, 11] lat.length (fun g s i wr => ∃ k : Nat, k + g = lat.length ∧ s = .string (tx ((lat.take k).map (nxt1 v))) ∧ i = .int .i64 k ∧ Cx w wr ⟨iA, iC, lA, lC, oA, oC, bA, bC, vA, vC, gA, gC, nA, nC⟩ ⟨mx, ins, lat, outs, bads, invs, ands, nms⟩)
    case atStart => exact ⟨0, by omega, rfl, rfl, HX1.out⟩
    case round =>
      obtain ⟨k, hk, rfl, rfl, hx⟩ := hrel
      have HK := Lib.hid hk
      have HX := Lib.hid hx
      have hkn : k ≤ lat.length := by omega
      clear hk HX1
      obtain ⟨c0, c1, c2, c3, c4, c5, c6, c7⟩ := hx.cells
      clear hx
      simp only at c0 c1 c2 c3 c4 c5 c6 c7
      by_cases hlt : k < lat.length
      · obtain ⟨b, o, x, y, z, hA, he, cx, cy, cz, ⟨hx1, hx2⟩, ⟨hy1, hy2⟩, hz1, hz2⟩ := (HH.out.keep HX.out.fr).l.one HH.out.lr hlt
        have hA : lA = some ⟨b, o, none⟩ := hA
        subst hA
        have hlit := lat_lit HV.out k hlt
        rw [he.out] at hlit
        have hlb := lit_le HV.out hlit
        simp only at hlb
        have KB := Lib.hid (fun W => true_calls W v y hlb.1 (by omega) hvs)
        have HE : Hid (tx ((lat.take k).map (nxt1 v)) ++ tx [bitC (trL v y)] = tx ((lat.take (k + 1)).map (nxt1 v))) := (by
          have e : lat[k]! = ⟨x, y, z⟩ := he.out
          rw [tx_app, take_snoc lat k hlt, List.map_append, e]; rfl : tx ((lat.take k).map (nxt1 v)) ++ tx [bitC (trL v y)] = tx ((lat.take (k + 1)).map (nxt1 v)))
        have hsz := tx_size ((lat.take k).map (nxt1 v))
        rw [List.length_map, List.length_take] at hsz
        have hsz2 := tx_size [bitC (trL v y)]
        rw [List.length_singleton] at hsz2
        have KT := Lib.hid (fun W => bit_calls W (trL v y))
        generalize tx ((lat.take k).map (nxt1 v)) = s at HE hsz ⊢
        generalize tx [bitC (trL v y)] = s2 at HE KT hsz2
        have hsl : s.size ≤ 64 := by omega
        clear hlit cx cz hsz
        go_wp2_with fail
        refine (KB.out _).mono ?_
        rintro e wA ⟨rfl, hfA⟩
        have HXA := Lib.hid (HX.out.keep hfA)
        clear hfA HX c0 c1 c2 c3 c4 c5 c6 c7 cy
        go_wp2_with fail
        refine (KT.out _).mono ?_
        rintro e wB ⟨rfl, hfB⟩
        have HXB := Lib.hid (HXA.out.keep hfB)
        clear hfB HXA
        go_wp2_with fail
        go_roundg (gk - 1)
        case measure => have := HK.out; omega
        case rel => exact ⟨k + 1, by have := HK.out; omega, by rw [HE.out], by go_num, HXB.out⟩
      · obtain rfl : k = lat.length := by omega
        have HE : Hid (tx ((lat.take lat.length).map (nxt1 v)) = tx (nxtL ⟨mx, ins, lat, outs, bads, invs, ands, nms⟩ st inp)) := (by rw [nxtL, HVV.out, List.take_length] : tx ((lat.take lat.length).map (nxt1 v)) = tx (nxtL ⟨mx, ins, lat, outs, bads, invs, ands, nms⟩ st inp))
        rw [HE.out]
        go_wp2_with fail
        go_ret2
        exact YES.out _ HV.out HB.out HX.out.fr

end Go.Proofs.Ytbjccgahmgpkjaa
