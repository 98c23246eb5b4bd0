/- The reference's Kind, known and all walked. -/
import Derived.Test.YtbjccgahmgpkjaaCir
namespace Go.Proofs.Ytbjccgahmgpkjaa
open Go.RowKit
set_option linter.unusedVariables false

def hit (v x : Int) : Bool := decide (0 ≤ x) && decide (x / 2 = v)
def knownB (C : Pc) (v : Int) : Bool := decide (v = 0) || C.ins.any (hit v) || C.lat.any (fun x => hit v x.a) || C.ands.any (fun x => hit v x.a)
/-- What a variable is. -/
def kd (C : Pc) (v : Int) : ByteArray :=
  if v = 0 then ⟨#[48]⟩ else if C.ins.any (hit v) = true then ⟨#[105]⟩ else if C.lat.any (fun x => hit v x.a) = true then ⟨#[108]⟩ else if C.ands.any (fun x => hit v x.a) = true then ⟨#[97]⟩ else ⟨#[]⟩

theorem any_hit {α : Type} [Inhabited α] (l : List α) (p : α → Bool) : (l.any p = true ↔ ∃ j : Nat, j < l.length ∧ p l[j]! = true) := by
  rw [List.any_eq_true]
  constructor
  · rintro ⟨x, hx, h⟩
    obtain ⟨j, hj, e⟩ := List.mem_iff_getElem.1 hx
    exact ⟨j, hj, by simp [hj, e, h]⟩
  · rintro ⟨j, hj, h⟩
    simp only [List.getElem!_eq_getElem?_getD, List.getElem?_eq_getElem hj, Option.getD_some] at h
    exact ⟨l[j], List.getElem_mem hj, h⟩
theorem any_not {α : Type} [Inhabited α] (l : List α) (p : α → Bool) (h : ∀ j : Nat, j < l.length → p l[j]! = false) : l.any p = false := by
  rw [Bool.eq_false_iff]
  intro hh
  obtain ⟨j, hj, h1⟩ := (any_hit l p).1 hh
  rw [h j hj] at h1; cases h1
theorem any_yes {α : Type} [Inhabited α] (l : List α) (p : α → Bool) (k : Nat) (hk : k < l.length) (h : p l[k]! = true) : l.any p = true := (any_hit l p).2 ⟨k, hk, h⟩
/-- None of the first k. -/
def NoneTo {α : Type} [Inhabited α] (l : List α) (p : α → Bool) (k : Nat) : Prop := ∀ j : Nat, j < k → p l[j]! = false
theorem NoneTo.zero {α : Type} [Inhabited α] (l : List α) (p : α → Bool) : NoneTo l p 0 := fun j hj => absurd hj (Nat.not_lt_zero _)
theorem NoneTo.step {α : Type} [Inhabited α] {l : List α} {p : α → Bool} {k : Nat} (h : NoneTo l p k) (hk : p l[k]! = false) : NoneTo l p (k + 1) := fun j hj => by
  by_cases e : j = k
  · subst e; exact hk
  · exact h j (by omega)
theorem NoneTo.all {α : Type} [Inhabited α] {l : List α} {p : α → Bool} {k : Nat} (h : NoneTo l p k) (hk : ¬ k < l.length) : l.any p = false := any_not l p fun j hj => h j (by omega)

theorem hit_yes {v x : Int} (h0 : 0 ≤ x) (h : x / 2 = v) : hit v x = true := by simp [hit, h0, h]
theorem hit_neg {v x : Int} (h0 : x < 0) : hit v x = false := by simp [hit, show ¬ 0 ≤ x from by omega]
theorem hit_not {v x : Int} (h : ¬ x / 2 = v) : hit v x = false := by simp [hit, h]

set_option maxHeartbeats 2000000 in
theorem kind_calls (w : World) (H : Hd) (C : Pc) (v : Int) (h : CiAt w H C) :
    Calls Try.prog 9 #[cval H C, .int .i64 v] w fun e w' => e = .returned (.string (kd C v)) ∧ Fr [] w w' := by
  have HH := Lib.hid h
  have hiL := h.iL
  have hlL := h.lL
  have hgL := h.gL
  clear h
  by_cases hv : v = 0
  · subst hv
    simp only [cval, cvs]
    go_enter Try.func9, Try.ntmps9
    go_wp2_with fail
    go_ret
    exact ⟨by simp [kd], box_fr _ _⟩
  · have hv0 : (v == 0) = false := beq_eq_false_iff_ne.2 hv
    have HV := Lib.hid hv
    clear hv
    have hK : Hid (∀ s, kd C v = s → Ending.returned (.string s) = .returned (.string (kd C v))) := fun s h => by rw [h]
    have HS := Lib.hid (Cx.start w H C)
    obtain ⟨mx, ins, lat, outs, bads, invs, ands, nms⟩ := C
    obtain ⟨iA, iC, lA, lC, oA, oC, bA, bC, vA, vC, gA, gC, nA, nC⟩ := H
    simp only [cval, cvs] at *
    go_enter Try.func9, Try.ntmps9
    go_wp2_with fail
    go_loopg [5] ins.length (fun g i wr => ∃ k : Nat, k + g = ins.length ∧ i = .int .i64 k ∧ Cx w wr ⟨iA, iC, lA, lC, oA, oC, bA, bC, vA, vC, gA, gC, nA, nC⟩ ⟨mx, ins, lat, outs, bads, invs, ands, nms⟩ ∧ NoneTo ins (hit v) k)
    case atStart => exact ⟨0, by omega, rfl, HS.out, NoneTo.zero _ _⟩
    case round =>
      obtain ⟨k, hk, rfl, hx, hn⟩ := hrel
      have HK := Lib.hid hk
      have HX := Lib.hid hx
      have HN := Lib.hid hn
      obtain ⟨c0, c1, c2, c3, c4, c5, c6, c7⟩ := hx.cells
      clear hk hx hn
      simp only at c0 c1 c2 c3 c4 c5 c6 c7
      by_cases hlt : k < ins.length
      · obtain ⟨b, o, x, hA, he, cx, hx1, hx2⟩ := (HH.out.keep HX.out.fr).i.one HH.out.ir hlt
        simp only at hA
        subst hA
        by_cases h0 : 0 ≤ x
        · by_cases h1 : x / 2 = v
          · have h1b : (x / 2 == v) = true := beq_iff_eq.2 h1
            have H1 := Lib.hid h1
            clear h1
            go_wp2_with fail
            go_ret
            exact ⟨hK.out _ (by rw [kd, if_neg HV.out, if_pos (any_yes _ _ k hlt (by rw [he.out]; exact hit_yes h0 H1.out))]), HX.out.fr⟩
          · have h1b : (x / 2 == v) = false := beq_eq_false_iff_ne.2 h1
            have H1 := Lib.hid h1
            clear h1
            go_wp2_with fail
            go_roundg (gk - 1)
            case measure => have := HK.out; omega
            case rel => exact ⟨k + 1, by have := HK.out; omega, by go_num, HX.out, HN.out.step (by rw [he.out]; exact hit_not H1.out)⟩
        · have H0 := Lib.hid h0
          go_wp2_with fail
          go_roundg (gk - 1)
          case measure => have := HK.out; omega
          case rel => exact ⟨k + 1, by have := HK.out; omega, by go_num, HX.out, HN.out.step (by rw [he.out]; exact hit_neg H0.out)⟩
      · have HT := Lib.hid (HN.out.all hlt)
        clear HN HK
        go_wp2_with fail
        have HT1 := HT
        clear HT
        have HS2 := HX
        clear HX
        clear c0 c1 c2 c3 c4 c5 c6 c7
        go_loopg [6] lat.length (fun g i wr => ∃ k : Nat, k + g = lat.length ∧ i = .int .i64 k ∧ Cx w wr ⟨iA, iC, lA, lC, oA, oC, bA, bC, vA, vC, gA, gC, nA, nC⟩ ⟨mx, ins, lat, outs, bads, invs, ands, nms⟩ ∧ NoneTo lat (fun x => hit v x.a) k)
        case atStart => exact ⟨0, by omega, rfl, HS2.out, NoneTo.zero _ _⟩
        case round =>
          obtain ⟨k, hk, rfl, hx, hn⟩ := hrel
          have HK := Lib.hid hk
          have HX := Lib.hid hx
          have HN := Lib.hid hn
          obtain ⟨c0, c1, c2, c3, c4, c5, c6, c7⟩ := hx.cells
          clear hk hx hn
          simp only at c0 c1 c2 c3 c4 c5 c6 c7
          by_cases hlt : k < lat.length
          · obtain ⟨b, o, x, y, z, hA, he, cx, cy, cz, ⟨hx1, hx2⟩, _, _⟩ := (HH.out.keep HX.out.fr).l.one HH.out.lr hlt
            simp only at hA
            subst hA
            by_cases h0 : 0 ≤ x
            · by_cases h1 : x / 2 = v
              · have h1b : (x / 2 == v) = true := beq_iff_eq.2 h1
                have H1 := Lib.hid h1
                clear h1
                go_wp2_with fail
                go_ret
                exact ⟨hK.out _ (by rw [kd, if_neg HV.out, if_neg (by rw [HT1.out]; decide), if_pos (any_yes _ _ k hlt (by rw [he.out]; exact hit_yes h0 H1.out))]), HX.out.fr⟩
              · have h1b : (x / 2 == v) = false := beq_eq_false_iff_ne.2 h1
                have H1 := Lib.hid h1
                clear h1
                go_wp2_with fail
                go_roundg (gk - 1)
                case measure => have := HK.out; omega
                case rel => exact ⟨k + 1, by have := HK.out; omega, by go_num, HX.out, HN.out.step (by rw [he.out]; exact hit_not H1.out)⟩
            · have H0 := Lib.hid h0
              go_wp2_with fail
              go_roundg (gk - 1)
              case measure => have := HK.out; omega
              case rel => exact ⟨k + 1, by have := HK.out; omega, by go_num, HX.out, HN.out.step (by rw [he.out]; exact hit_neg H0.out)⟩
          · have HT := Lib.hid (HN.out.all hlt)
            clear HN HK
            go_wp2_with fail
            have HT2 := HT
            clear HT
            have HS3 := HX
            clear HX
            clear c0 c1 c2 c3 c4 c5 c6 c7
            go_loopg [7] ands.length (fun g i wr => ∃ k : Nat, k + g = ands.length ∧ i = .int .i64 k ∧ Cx w wr ⟨iA, iC, lA, lC, oA, oC, bA, bC, vA, vC, gA, gC, nA, nC⟩ ⟨mx, ins, lat, outs, bads, invs, ands, nms⟩ ∧ NoneTo ands (fun x => hit v x.a) k)
            case atStart => exact ⟨0, by omega, rfl, HS3.out, NoneTo.zero _ _⟩
            case round =>
              obtain ⟨k, hk, rfl, hx, hn⟩ := hrel
              have HK := Lib.hid hk
              have HX := Lib.hid hx
              have HN := Lib.hid hn
              obtain ⟨c0, c1, c2, c3, c4, c5, c6, c7⟩ := hx.cells
              clear hk hx hn
              simp only at c0 c1 c2 c3 c4 c5 c6 c7
              by_cases hlt : k < ands.length
              · obtain ⟨b, o, x, y, z, hA, he, cx, cy, cz, ⟨hx1, hx2⟩, _, _⟩ := (HH.out.keep HX.out.fr).g.one HH.out.gr hlt
                simp only at hA
                subst hA
                by_cases h0 : 0 ≤ x
                · by_cases h1 : x / 2 = v
                  · have h1b : (x / 2 == v) = true := beq_iff_eq.2 h1
                    have H1 := Lib.hid h1
                    clear h1
                    go_wp2_with fail
                    go_ret
                    exact ⟨hK.out _ (by rw [kd, if_neg HV.out, if_neg (by rw [HT1.out]; decide), if_neg (by rw [HT2.out]; decide), if_pos (any_yes _ _ k hlt (by rw [he.out]; exact hit_yes h0 H1.out))]), HX.out.fr⟩
                  · have h1b : (x / 2 == v) = false := beq_eq_false_iff_ne.2 h1
                    have H1 := Lib.hid h1
                    clear h1
                    go_wp2_with fail
                    go_roundg (gk - 1)
                    case measure => have := HK.out; omega
                    case rel => exact ⟨k + 1, by have := HK.out; omega, by go_num, HX.out, HN.out.step (by rw [he.out]; exact hit_not H1.out)⟩
                · have H0 := Lib.hid h0
                  go_wp2_with fail
                  go_roundg (gk - 1)
                  case measure => have := HK.out; omega
                  case rel => exact ⟨k + 1, by have := HK.out; omega, by go_num, HX.out, HN.out.step (by rw [he.out]; exact hit_neg H0.out)⟩
              · have HT := Lib.hid (HN.out.all hlt)
                clear HN HK
                go_wp2_with fail
                go_ret
                exact ⟨hK.out _ (by rw [kd, if_neg HV.out, if_neg (by rw [HT1.out]; decide), if_neg (by rw [HT2.out]; decide), if_neg (by rw [HT.out]; decide)]), HX.out.fr⟩

end Go.Proofs.Ytbjccgahmgpkjaa
