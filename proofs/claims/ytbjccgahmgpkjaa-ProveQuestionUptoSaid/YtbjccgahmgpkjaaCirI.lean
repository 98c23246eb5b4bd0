/- The checker's defined walked. -/
import Derived.Test.YtbjccgahmgpkjaaCirH
import Derived.StillTailTactics
namespace Go.Proofs.Ytbjccgahmgpkjaa
open Go.RowKit
set_option linter.unusedVariables false

/-- f tells of just the variables of l. -/
def Dk (f : Int → List UInt8) (l : List Int) : Prop := ∀ v, R64 v → ((f v).isEmpty = true ↔ ∀ x ∈ l, x / 2 ≠ v)
theorem Dk.nil : Dk (fun _ => []) [] := fun v _ => by simp
theorem Dk.step {f : Int → List UInt8} {l : List Int} (h : Dk f l) (x : Int) (s : List UInt8) (hs : s.isEmpty = false) : Dk (fun v => if v = x / 2 then s else f v) (l ++ [x]) := fun v hv => by
  show (if v = x / 2 then s else f v).isEmpty = true ↔ _
  by_cases e : v = x / 2
  · subst e
    rw [if_pos rfl, hs]
    constructor
    · intro h; cases h
    · intro hh
      exact absurd rfl (hh x (by simp))
  · rw [if_neg e, h v hv]
    constructor
    · intro hh y hy
      rcases List.mem_append.1 hy with hy | hy
      · exact hh y hy
      · simp only [List.mem_singleton] at hy
        subst hy
        exact fun h => e h.symm
    · intro hh y hy
      exact hh y (List.mem_append.2 (.inl hy))

theorem own_even {C : Pc} {l : List Int} {k : Nat} (h : OwnTo C l k) {x : Int} (hx : x ∈ l.take k) : 2 ≤ x ∧ x % 2 = 0 ∧ x ≤ 2 * C.mx := by
  obtain ⟨j, hj, e⟩ := List.mem_iff_getElem.1 hx
  rw [List.length_take] at hj
  have := h j (by omega)
  simp only [ownB, Bool.and_eq_true, decide_eq_true_eq] at this
  have e2 : l[j]! = x := by
    rw [List.getElem_take] at e
    rw [List.getElem!_eq_getElem?_getD, List.getElem?_eq_getElem (by omega), ← e]
    rfl
  rw [e2] at this
  exact ⟨this.1.1.1, this.1.1.2, this.1.2⟩

theorem def_eq {C : Pc} {l : List Int} {k : Nat} {f : Int → List UInt8} (h : OwnTo C l k) (hd : Dk f (l.take k)) (hr : R64 l[k]!) : defB f l[k]! C.mx = ownB C l k := by
  unfold defB ownB
  generalize hx : l[k]! = x at *
  by_cases h1 : 2 ≤ x
  · by_cases h2 : x % 2 = 0
    · have e3 : decide (x / 2 ≤ C.mx) = decide (x ≤ 2 * C.mx) := by
        by_cases h3 : x ≤ 2 * C.mx
        · rw [decide_eq_true h3, decide_eq_true (by omega)]
        · rw [decide_eq_false h3, decide_eq_false (by omega)]
      have e4 : (f (x / 2)).isEmpty = !decide (x ∈ l.take k) := by
        have hR : R64 (x / 2) := by
          unfold R64 at hr ⊢
          omega
        by_cases hm : x ∈ l.take k
        · have : (f (x / 2)).isEmpty = false := by
            rw [Bool.eq_false_iff]
            intro h5
            exact (hd _ hR).1 h5 x hm rfl
          rw [this, decide_eq_true hm]
          rfl
        · have : (f (x / 2)).isEmpty = true := by
            rw [hd _ hR]
            intro y hy h5
            obtain ⟨y1, y2, _⟩ := own_even h hy
            have : y = x := by omega
            exact hm (this ▸ hy)
          rw [this, decide_eq_false hm]
          rfl
      rw [e3, e4]
    · rw [decide_eq_false h2]; simp
  · rw [decide_eq_false h1]; simp

theorem get_app1 (a b : List Int) (k : Nat) (h : k < a.length) : (a ++ b)[k]! = a[k]! := by
  simp only [List.getElem!_eq_getElem?_getD, List.getElem?_append_left h]
theorem get_app2 (a b : List Int) (k : Nat) : (a ++ b)[a.length + k]! = b[k]! := by
  simp only [List.getElem!_eq_getElem?_getD, List.getElem?_append_right (Nat.le_add_right _ _), Nat.add_sub_cancel_left]
theorem get_map (l : List T3) (k : Nat) (h : k < l.length) : (l.map fun x => x.a)[k]! = (l[k]!).a := by
  simp [h]
theorem own_in (C : Pc) (k : Nat) (h : k < C.ins.length) : (ownL C)[k]! = C.ins[k]! := by
  unfold ownL
  rw [List.append_assoc, get_app1 _ _ _ h]
theorem own_lat (C : Pc) (k : Nat) (h : k < C.lat.length) : (ownL C)[C.ins.length + k]! = (C.lat[k]!).a := by
  unfold ownL
  rw [List.append_assoc, get_app2, get_app1 _ _ _ (by simpa using h), get_map _ _ h]
theorem own_and (C : Pc) (k : Nat) (h : k < C.ands.length) : (ownL C)[C.ins.length + C.lat.length + k]! = (C.ands[k]!).a := by
  have := get_app2 (C.ins ++ C.lat.map fun x => x.a) (C.ands.map fun x => x.a) k
  rw [List.length_append, List.length_map] at this
  unfold ownL
  rw [this, get_map _ _ h]
theorem ownL_len (C : Pc) : (ownL C).length = C.ins.length + C.lat.length + C.ands.length := by simp [ownL]; omega

/-- What defined asks. -/
structure DefOk (C : Pc) : Prop where
  own : ∀ j : Nat, j < (ownL C).length → ownB C (ownL C) j = true
  rst : ∀ j : Nat, j < C.lat.length → rstB C.lat[j]! = true
  ris : ∀ j : Nat, j < C.ands.length → 0 < j → (C.ands[j - 1]!).a < (C.ands[j]!).a
/-- What defined answers. -/
def DfP (C : Pc) (w : World) (e : Ending) (w' : World) : Prop := ((DefOk C ∧ ∃ g b n f, e = .returned (.pointer (some ⟨g, 0, none⟩)) ∧ Ms w' g b n f ∧ Dk f (ownL C)) ∨ (¬ DefOk C ∧ e = Fault)) ∧ Fr [] w w'

structure Df (w wr : World) (H : Hd) (C : Pc) (g b i : Nat) (f : Int → List UInt8) : Prop where
  cx : Cx w wr H C
  ms : Ms wr g b i f
  dk : Dk f ((ownL C).take i)
  upto : OwnTo C (ownL C) i
theorem Df.keep {w wr w' : World} {H : Hd} {C : Pc} {g b i : Nat} {f : Int → List UInt8} (h : Df w wr H C g b i f) (hf : Fr [] wr w') : Df w w' H C g b i f := ⟨h.cx.keep hf, h.ms.keep hf, h.dk, h.upto⟩
theorem Df.put {w wr w' : World} {H : Hd} {C : Pc} {g b i : Nat} {f : Int → List UInt8} (h : Df w wr H C g b i f) (hi : i < (ownL C).length) (hb : w.heap.size < b) (s : List UInt8) (hs : s.isEmpty = false)
    (ho : ownB C (ownL C) i = true) (hm : Ms w' g b (i + 1) (fun v => if v = (ownL C)[i]! / 2 then s else f v)) (hf : Fr [b] wr w') : Df w w' H C g b (i + 1) (fun v => if v = (ownL C)[i]! / 2 then s else f v) :=
  ⟨⟨h.cx.fr.trans hf (fun x hx => .inr (by simp at hx; omega)), hf.at_ h.cx.bx (by simp; omega)⟩, hm, by rw [take_snoc _ _ hi]; exact h.dk.step _ _ hs, h.upto.step ho⟩
theorem rst_cases {x y z : Int} {rb : Bool} (h : rstB ⟨x, y, z⟩ = rb) : (rb = true ∧ (z = 0 ∨ (z ≠ 0 ∧ z = 1) ∨ (z ≠ 0 ∧ z ≠ 1 ∧ z = x))) ∨ (rb = false ∧ z ≠ 0 ∧ z ≠ 1 ∧ z ≠ x) := by
  subst h
  by_cases a1 : z = 0
  · exact .inl ⟨by simp [rstB, a1], .inl a1⟩
  · by_cases a2 : z = 1
    · exact .inl ⟨by simp [rstB, a2], .inr (.inl ⟨a1, a2⟩)⟩
    · by_cases a3 : z = x
      · exact .inl ⟨by simp [rstB, a3], .inr (.inr ⟨a1, a2, a3⟩)⟩
      · exact .inr ⟨by simp [rstB, a1, a2, a3], a1, a2, a3⟩
theorem Df.start (w : World) (H : Hd) (C : Pc) : Df w (((w.alloc (.cells (cvs H C) 27)).alloc (.map #[] 0)).alloc (.cells #[.map (some (w.heap.size + 1))] 98)) H C (w.heap.size + 1 + 1) (w.heap.size + 1) 0 (fun _ => []) := by
  refine ⟨(((Cx.start w H C).keep (box_fr _ _)).keep (box_fr _ _)), ⟨?_, ?_⟩, ?_, fun j hj => absurd hj (Nat.not_lt_zero _)⟩
  · have := At.new ((w.alloc (.cells (cvs H C) 27)).alloc (.map #[] 0)) 98 #[.map (some (w.heap.size + 1))]
    simpa using this
  · have := (Met.new (w.alloc (.cells (cvs H C) 27))).keep (box_fr _ (.cells #[.map (some (w.heap.size + 1))] 98))
    simpa using this
  · rw [List.take_zero]; exact Dk.nil

set_option maxRecDepth 100000 in
set_option maxHeartbeats 8000000 in
theorem defined_calls (w : World) (H : Hd) (C : Pc) (h : CiAt w H C) (h64 : C.ins.length ≤ 64) (h65 : C.lat.length ≤ 64) (hm0 : 0 ≤ C.mx) (hm1 : C.mx ≤ 2048) :
    Calls Try.prog 40 #[cval H C] w (DfP C w) := by
  have HH := Lib.hid h
  have hgL := h.gL
  clear h
  have NO : Hid (∀ W, ¬ DefOk C → Fr [] w W → DfP C w Fault W) := fun W h1 h2 => ⟨.inr ⟨h1, rfl⟩, h2⟩
  have YES : Hid (∀ W g b n f, DefOk C → Ms W g b n f → Dk f (ownL C) → Fr [] w W → DfP C w (.returned (.pointer (some ⟨g, 0, none⟩))) W) := fun W g b n f h1 h2 h3 h4 => ⟨.inl ⟨h1, g, b, n, f, rfl, h2, h3⟩, h4⟩
  have NOW : Hid (∀ j, j < (ownL C).length → ownB C (ownL C) j = false → ¬ DefOk C) := fun j hj hb hd => by
    have := hd.own j hj
    rw [hb] at this; cases this
  have NRS : Hid (∀ j, j < C.lat.length → rstB C.lat[j]! = false → ¬ DefOk C) := fun j hj hb hd => by
    have := hd.rst j hj
    rw [hb] at this; cases this
  have NRI : Hid (∀ j, j < C.ands.length → 0 < j → ¬ (C.ands[j - 1]!).a < (C.ands[j]!).a → ¬ DefOk C) := fun j hj h0 hb hd => hb (hd.ris j hj h0)
  have HOK := Lib.hid (fun (h1 : ∀ j : Nat, j < (ownL C).length → ownB C (ownL C) j = true) (h2 : ∀ j : Nat, j < C.lat.length → rstB C.lat[j]! = true) (h3 : ∀ j : Nat, j < C.ands.length → 0 < j → (C.ands[j - 1]!).a < (C.ands[j]!).a) => (⟨h1, h2, h3⟩ : DefOk C))
  have HLE := Lib.hid (ownL_len C)
  have HOI := Lib.hid (own_in C)
  have HOL := Lib.hid (own_lat C)
  have HOA := Lib.hid (own_and C)
  have HS := Lib.hid (Cx.start w H C)
  obtain ⟨mx, ins, lat, outs, bads, invs, ands, nms⟩ := C
  obtain ⟨iA, iC, lA, lC, oA, oC, bA, bC, vA, vC, gA, gC, nA, nC⟩ := H
  simp only [cval, cvs] at *
  have hmm := @run_makeMap Try.prog
  have HDS := Lib.hid (Df.start w ⟨iA, iC, lA, lC, oA, oC, bA, bC, vA, vC, gA, gC, nA, nC⟩ ⟨mx, ins, lat, outs, bads, invs, ands, nms⟩)
  simp only [cvs] at HDS
  go_enter Try.func40, Try.ntmps40
  go_upto_region 2 with fail
  obtain ⟨W0, hW0⟩ : ∃ W, ((w.alloc (.cells #[.int .i64 mx, .slice iA ins.length iC, .slice lA lat.length lC, .slice oA outs.length oC, .slice bA bads.length bC, .slice vA invs.length vC, .slice gA ands.length gC, .slice nA nms.length nC] 27)).alloc (.map #[] 0)).alloc (.cells #[.map (some (w.heap.size + 1))] 98) = W := ⟨_, rfl⟩
  rw [hW0] at HDS ⊢
  obtain ⟨gb, hgb⟩ : ∃ gb, w.heap.size + 1 = gb := ⟨_, rfl⟩
  rw [hgb] at HDS ⊢
  obtain ⟨ga, hga⟩ : ∃ ga, gb + 1 = ga := ⟨_, rfl⟩
  rw [hga] at HDS ⊢
  have hgab : ga ≠ gb := by omega
  have hlb : w.heap.size < gb := by omega
  have HGA := Lib.hid hgab
  clear hW0 hga hgb hmm hgab
  have hx := HDS.out.cx
  obtain ⟨c0, c1, c2, c3, c4, c5, c6, c7⟩ := hx.cells
  clear hx
  simp only at c0 c1 c2 c3 c4 c5 c6 c7
  go_wp2_with fail
  clear c0 c1 c2 c3 c4 c5 c6 c7
  go_loopg [16] ins.length (fun g i wr => ∃ (k : Nat) (f : Int → List UInt8), k + g = ins.length ∧ i = .int .i64 k ∧ Df w wr ⟨iA, iC, lA, lC, oA, oC, bA, bC, vA, vC, gA, gC, nA, nC⟩ ⟨mx, ins, lat, outs, bads, invs, ands, nms⟩ ga gb k f)
  case atStart => exact ⟨0, _, by omega, rfl, HDS.out⟩
  case round =>
    clear HDS
    obtain ⟨k, f, hk, rfl, hx⟩ := hrel
    have HK := Lib.hid hk
    have HX := Lib.hid hx
    have hkn : k ≤ ins.length := by omega
    obtain ⟨c0, c1, c2, c3, c4, c5, c6, c7⟩ := hx.cx.cells
    clear hk hx
    simp only at c0 c1 c2 c3 c4 c5 c6 c7
    by_cases hlt : k < ins.length
    · obtain ⟨b, o, x, hA, he, cx, hx1, hx2⟩ := (HH.out.keep HX.out.cx.fr).i.one HH.out.ir hlt
      simp only at hA
      subst hA
      have HO : Hid ((ownL ⟨mx, ins, lat, outs, bads, invs, ands, nms⟩)[k]! = x) := (HOI.out k hlt).trans he.out
      have HJ : Hid (k < (ownL ⟨mx, ins, lat, outs, bads, invs, ands, nms⟩).length) := (by rw [HLE.out]; omega : k < (ownL ⟨mx, ins, lat, outs, bads, invs, ands, nms⟩).length)
      have HDE : Hid (defB f x mx = ownB ⟨mx, ins, lat, outs, bads, invs, ands, nms⟩ (ownL ⟨mx, ins, lat, outs, bads, invs, ands, nms⟩) k) := (by have := def_eq HX.out.upto HX.out.dk (by rw [HO.out]; exact ⟨hx1, hx2⟩); rw [HO.out] at this; exact this : defB f x mx = ownB ⟨mx, ins, lat, outs, bads, invs, ands, nms⟩ (ownL ⟨mx, ins, lat, outs, bads, invs, ands, nms⟩) k)
      obtain ⟨q, HQ⟩ : ∃ q, Hid (ownB ⟨mx, ins, lat, outs, bads, invs, ands, nms⟩ (ownL ⟨mx, ins, lat, outs, bads, invs, ands, nms⟩) k = q) := ⟨_, rfl⟩
      go_wp2_with fail
      cases q with
      | true =>
        refine (define_ok wr ga gb k f x mx _ HX.out.ms HGA.out ⟨hx1, hx2⟩ (HDE.out.trans HQ.out) (by simp [ByteArray.size]) (by omega)).mono ?_
        rintro e w2 ⟨rfl, hm, hf⟩
        have HX2 := Lib.hid (HX.out.put HJ.out hlb [105] rfl HQ.out (by rw [HO.out]; exact hm) hf)
        clear hm hf c0 c1 c2 c3 c4 c5 c6 c7 cx
        go_wp2_with fail
        go_roundg (gk - 1)
        case measure => have := HK.out; omega
        case rel => exact ⟨k + 1, _, by have := HK.out; omega, by go_num, HX2.out⟩
      | false =>
        refine (define_bad wr ga gb k f x mx _ HX.out.ms ⟨hx1, hx2⟩ (HDE.out.trans HQ.out)).mono ?_
        unfold Fault
        rintro e w2 ⟨rfl, rfl⟩
        go_wp2_with fail
        exact ⟨rfl, NO.out _ (NOW.out k HJ.out HQ.out) HX.out.cx.fr⟩
    · obtain rfl : k = ins.length := by omega
      have HD1 := HX
      clear HX HK hkn hlt
      go_wp2_with fail
      clear c0 c1 c2 c3 c4 c5 c6 c7
      go_loopg [29] lat.length (fun g i wr => ∃ (k : Nat) (f : Int → List UInt8), k + g = lat.length ∧ i = .int .i64 k ∧ Df w wr ⟨iA, iC, lA, lC, oA, oC, bA, bC, vA, vC, gA, gC, nA, nC⟩ ⟨mx, ins, lat, outs, bads, invs, ands, nms⟩ ga gb (ins.length + k) f ∧ (∀ j, j < k → rstB lat[j]! = true))
      case atStart => exact ⟨0, _, by omega, rfl, HD1.out, fun j hj => absurd hj (Nat.not_lt_zero _)⟩
      case round =>
        clear HD1 f
        obtain ⟨k, f, hk, rfl, hx, hrs⟩ := hrel
        have HK := Lib.hid hk
        have HX := Lib.hid hx
        have HRS := Lib.hid hrs
        have hkn : k ≤ lat.length := by omega
        obtain ⟨c0, c1, c2, c3, c4, c5, c6, c7⟩ := hx.cx.cells
        clear hk hx hrs
        simp only at c0 c1 c2 c3 c4 c5 c6 c7
        by_cases hlt : k < lat.length
        · obtain ⟨b, o, x, y, z, hA, he, cx, cy, cz, ⟨hx1, hx2⟩, ⟨hy1, hy2⟩, _, _⟩ := (HH.out.keep HX.out.cx.fr).l.one HH.out.lr hlt
          simp only at hA
          subst hA
          have HO : Hid ((ownL ⟨mx, ins, lat, outs, bads, invs, ands, nms⟩)[ins.length + k]! = x) := (HOL.out k hlt).trans (by rw [he.out])
          have HJ : Hid (ins.length + k < (ownL ⟨mx, ins, lat, outs, bads, invs, ands, nms⟩).length) := (by rw [HLE.out]; omega : ins.length + k < (ownL ⟨mx, ins, lat, outs, bads, invs, ands, nms⟩).length)
          have HDE : Hid (defB f x mx = ownB ⟨mx, ins, lat, outs, bads, invs, ands, nms⟩ (ownL ⟨mx, ins, lat, outs, bads, invs, ands, nms⟩) (ins.length + k)) := (by have := def_eq HX.out.upto HX.out.dk (by rw [HO.out]; exact ⟨hx1, hx2⟩); rw [HO.out] at this; exact this : defB f x mx = ownB ⟨mx, ins, lat, outs, bads, invs, ands, nms⟩ (ownL ⟨mx, ins, lat, outs, bads, invs, ands, nms⟩) (ins.length + k))
          obtain ⟨q, HQ⟩ : ∃ q, Hid (ownB ⟨mx, ins, lat, outs, bads, invs, ands, nms⟩ (ownL ⟨mx, ins, lat, outs, bads, invs, ands, nms⟩) (ins.length + k) = q) := ⟨_, rfl⟩
          go_upto_region 10 with fail
          obtain ⟨W1, hW1⟩ : ∃ W, wr.alloc (.cells #[.int .i64 x, .int .i64 y, .int .i64 z] 67) = W := ⟨_, rfl⟩
          rw [hW1]
          have hO : At W1 wr.heap.size 67 #[.int .i64 x, .int .i64 y, .int .i64 z] := hW1 ▸ At.new _ _ _
          have HX1 : Hid (Fr [] wr W1) := hW1 ▸ box_fr _ _
          have HOB : Hid (wr.heap.size ≠ gb) := fun e => Nat.lt_irrefl _ (e ▸ HX.out.ms.met.lt)
          clear hW1 c0 c1 c2 c3 c4 c5 c6 c7 cx cy cz
          generalize wr.heap.size = ob at hO HOB ⊢
          have HX2 := Lib.hid (HX.out.keep HX1.out)
          have HO1 := Lib.hid hO
          have n0 : W1.cell? ⟨ob, 0, none⟩ = some (.int .i64 x) := by rw [hO.cell]; rfl
          clear hO
          obtain ⟨c0, c1, c2, c3, c4, c5, c6, c7⟩ := HX2.out.cx.cells
          simp only at c0 c1 c2 c3 c4 c5 c6 c7
          go_wp2_with fail
          cases q with
          | true =>
            refine (define_ok W1 ga gb (ins.length + k) f x mx _ HX2.out.ms HGA.out ⟨hx1, hx2⟩ (HDE.out.trans HQ.out) (by simp [ByteArray.size]) (by omega)).mono ?_
            rintro e w2 ⟨rfl, hm, hf⟩
            have HO2 := Lib.hid (hf.at_ HO1.out (by simp; exact HOB.out))
            have HX3 := Lib.hid (HX2.out.put HJ.out hlb [108] rfl HQ.out (by rw [HO.out]; exact hm) hf)
            clear hm hf c0 c1 c2 c3 c4 c5 c6 c7 n0
            have n0 : w2.cell? ⟨ob, 0, none⟩ = some (.int .i64 x) := by rw [HO2.out.cell]; rfl
            have n2 : w2.cell? ⟨ob, 2, none⟩ = some (.int .i64 z) := by rw [HO2.out.cell]; rfl
            obtain ⟨rb, HRB⟩ : ∃ rb, Hid (rstB ⟨x, y, z⟩ = rb) := ⟨_, rfl⟩
            go_upto_region 11 with fail
            have hz := rst_cases HRB.out
            rcases hz with ⟨rfl, z0 | ⟨z0, z1⟩ | ⟨z0, z1, z2⟩⟩ | ⟨rfl, z0, z1, z2⟩
            · have b0 : (z == 0) = true := by simp [z0]
              clear z0
              go_wp2_with fail
              refine (need_yes _).mono ?_
              rintro e w3 ⟨rfl, rfl⟩
              go_wp2_with fail
              go_roundg (gk - 1)
              case measure => have := HK.out; omega
              case rel => exact ⟨k + 1, _, by have := HK.out; omega, by go_num, HX3.out, fun j hj => by
                by_cases ej : j = k
                · subst ej; rw [he.out]; exact HRB.out
                · exact HRS.out j (by omega)⟩
            · have b0 : (z == 0) = false := by simp [z0]
              have b1 : (z == 1) = true := by simp [z1]
              clear z0 z1
              go_wp2_with fail
              refine (need_yes _).mono ?_
              rintro e w3 ⟨rfl, rfl⟩
              go_wp2_with fail
              go_roundg (gk - 1)
              case measure => have := HK.out; omega
              case rel => exact ⟨k + 1, _, by have := HK.out; omega, by go_num, HX3.out, fun j hj => by
                by_cases ej : j = k
                · subst ej; rw [he.out]; exact HRB.out
                · exact HRS.out j (by omega)⟩
            · have b0 : (z == 0) = false := by simp [z0]
              have b1 : (z == 1) = false := by simp [z1]
              have b2 : (z == x) = true := by simp [z2]
              clear z0 z1 z2
              go_wp2_with fail
              refine (need_yes _).mono ?_
              rintro e w3 ⟨rfl, rfl⟩
              go_wp2_with fail
              go_roundg (gk - 1)
              case measure => have := HK.out; omega
              case rel => exact ⟨k + 1, _, by have := HK.out; omega, by go_num, HX3.out, fun j hj => by
                by_cases ej : j = k
                · subst ej; rw [he.out]; exact HRB.out
                · exact HRS.out j (by omega)⟩
            · have b0 : (z == 0) = false := by simp [z0]
              have b1 : (z == 1) = false := by simp [z1]
              have b2 : (z == x) = false := by simp [z2]
              clear z0 z1 z2
              go_wp2_with fail
              refine (need_no _).mono ?_
              unfold Fault
              rintro e w3 ⟨rfl, rfl⟩
              go_wp2_with fail
              exact ⟨rfl, NO.out _ (NRS.out k hlt (by rw [he.out]; exact HRB.out)) HX3.out.cx.fr⟩
          | false =>
            refine (define_bad W1 ga gb (ins.length + k) f x mx _ HX2.out.ms ⟨hx1, hx2⟩ (HDE.out.trans HQ.out)).mono ?_
            unfold Fault
            rintro e w2 ⟨rfl, rfl⟩
            go_wp2_with fail
            exact ⟨rfl, NO.out _ (NOW.out _ HJ.out HQ.out) HX2.out.cx.fr⟩
        · obtain rfl : k = lat.length := by omega
          have HD1 := HX
          have HRT := HRS
          clear HX HK hkn hlt HRS
          go_wp2_with fail
          clear c0 c1 c2 c3 c4 c5 c6 c7
          go_loopg [59] ands.length (fun g i wr => ∃ (k : Nat) (f : Int → List UInt8), k + g = ands.length ∧ i = .int .i64 k ∧ Df w wr ⟨iA, iC, lA, lC, oA, oC, bA, bC, vA, vC, gA, gC, nA, nC⟩ ⟨mx, ins, lat, outs, bads, invs, ands, nms⟩ ga gb (ins.length + lat.length + k) f ∧ (∀ j, j < k → 0 < j → (ands[j - 1]!).a < (ands[j]!).a))
          case atStart => exact ⟨0, _, by omega, rfl, HD1.out, fun j hj => absurd hj (Nat.not_lt_zero _)⟩
          case round =>
            clear HD1 f
            obtain ⟨k, f, hk, rfl, hx, hrs⟩ := hrel
            have HK := Lib.hid hk
            have HX := Lib.hid hx
            have HRS := Lib.hid hrs
            have hkn : k ≤ ands.length := by omega
            obtain ⟨c0, c1, c2, c3, c4, c5, c6, c7⟩ := hx.cx.cells
            clear hk hx hrs
            simp only at c0 c1 c2 c3 c4 c5 c6 c7
            by_cases hlt : k < ands.length
            · obtain ⟨b, o, x, y, z, hA, he, cx, cy, cz, ⟨hx1, hx2⟩, ⟨hy1, hy2⟩, _, _⟩ := (HH.out.keep HX.out.cx.fr).g.one HH.out.gr hlt
              simp only at hA
              subst hA
              have HO : Hid ((ownL ⟨mx, ins, lat, outs, bads, invs, ands, nms⟩)[ins.length + lat.length + k]! = x) := (HOA.out k hlt).trans (by rw [he.out])
              have HJ : Hid (ins.length + lat.length + k < (ownL ⟨mx, ins, lat, outs, bads, invs, ands, nms⟩).length) := (by rw [HLE.out]; omega : ins.length + lat.length + k < (ownL ⟨mx, ins, lat, outs, bads, invs, ands, nms⟩).length)
              have HDE : Hid (defB f x mx = ownB ⟨mx, ins, lat, outs, bads, invs, ands, nms⟩ (ownL ⟨mx, ins, lat, outs, bads, invs, ands, nms⟩) (ins.length + lat.length + k)) := (by have := def_eq HX.out.upto HX.out.dk (by rw [HO.out]; exact ⟨hx1, hx2⟩); rw [HO.out] at this; exact this : defB f x mx = ownB ⟨mx, ins, lat, outs, bads, invs, ands, nms⟩ (ownL ⟨mx, ins, lat, outs, bads, invs, ands, nms⟩) (ins.length + lat.length + k))
              obtain ⟨q, HQ⟩ : ∃ q, Hid (ownB ⟨mx, ins, lat, outs, bads, invs, ands, nms⟩ (ownL ⟨mx, ins, lat, outs, bads, invs, ands, nms⟩) (ins.length + lat.length + k) = q) := ⟨_, rfl⟩
              go_upto_region 16 with fail
              obtain ⟨W1, hW1⟩ : ∃ W, wr.alloc (.cells #[.int .i64 x, .int .i64 y, .int .i64 z] 70) = W := ⟨_, rfl⟩
              rw [hW1]
              have hO : At W1 wr.heap.size 70 #[.int .i64 x, .int .i64 y, .int .i64 z] := hW1 ▸ At.new _ _ _
              have HX1 : Hid (Fr [] wr W1) := hW1 ▸ box_fr _ _
              have HOB : Hid (wr.heap.size ≠ gb) := fun e => Nat.lt_irrefl _ (e ▸ HX.out.ms.met.lt)
              clear hW1 c0 c1 c2 c3 c4 c5 c6 c7 cx cy cz
              generalize wr.heap.size = ob at hO HOB ⊢
              have HX2 := Lib.hid (HX.out.keep HX1.out)
              have HO1 := Lib.hid hO
              have n0 : W1.cell? ⟨ob, 0, none⟩ = some (.int .i64 x) := by rw [hO.cell]; rfl
              clear hO
              obtain ⟨c0, c1, c2, c3, c4, c5, c6, c7⟩ := HX2.out.cx.cells
              simp only at c0 c1 c2 c3 c4 c5 c6 c7
              go_wp2_with fail
              cases q with
              | true =>
                refine (define_ok W1 ga gb (ins.length + lat.length + k) f x mx _ HX2.out.ms HGA.out ⟨hx1, hx2⟩ (HDE.out.trans HQ.out) (by simp [ByteArray.size]) (by omega)).mono ?_
                rintro e w2 ⟨rfl, hm, hf⟩
                have HO2 := Lib.hid (hf.at_ HO1.out (by simp; exact HOB.out))
                have HX3 := Lib.hid (HX2.out.put HJ.out hlb [97] rfl HQ.out (by rw [HO.out]; exact hm) hf)
                clear hm hf c0 c1 c2 c3 c4 c5 c6 c7 n0
                have n0 : w2.cell? ⟨ob, 0, none⟩ = some (.int .i64 x) := by rw [HO2.out.cell]; rfl
                obtain ⟨c0, c1, c2, c3, c4, c5, c6, c7⟩ := HX3.out.cx.cells
                simp only at c0 c1 c2 c3 c4 c5 c6 c7
                go_upto_region 17 with fail
                by_cases hk0 : 0 < k
                · have hkz : ((k : Int) == 0) = false := by rw [beq_eq_false_iff_ne]; omega
                  obtain ⟨j, rfl⟩ : ∃ j, k = j + 1 := ⟨k - 1, by omega⟩
                  obtain ⟨b', o', x', y', z', hA', he', cx', cy', cz', ⟨hx1', hx2'⟩, _, _, _⟩ := (HH.out.keep HX3.out.cx.fr).g.one HH.out.gr (show j < ands.length by omega)
                  simp only [Option.some.injEq, Addr.mk.injEq, and_true] at hA'
                  obtain ⟨rfl, rfl⟩ := hA'
                  clear cy' cz'
                  have wj : IntKind.i64.wrap (j : Int) = j := IntWalk.i64_in _ (by omega)
                  have wj1 : IntKind.i64.wrap ((j : Int) + 1 - 1) = j := by rw [Int.add_sub_cancel]; exact wj
                  have hj1 : j < ands.length := by omega
                  have hj2 : (j : Int) < (ands.length : Int) := by omega
                  have hj3 : 0 ≤ (j : Int) := by omega
                  have hkz2 : ((j : Int) + 1 == 0) = false := by rw [beq_eq_false_iff_ne]; omega
                  clear wj1
                  by_cases hr : x' < x
                  · have dr : decide (x' < x) = true := decide_eq_true hr
                    have HR := Lib.hid hr
                    clear hr
                    go_still_tail 14, (by kernel_rfl)
                    change wpList _ _ _ _ _ w2.drew
                    have HX4 := Lib.hid (HX3.out.keep (Fr.refl [] w2).drew)
                    generalize w2.drew = w4 at HX4 ⊢
                    clear c0 c1 c2 c3 c4 c5 c6 c7 n0 cx'
                    go_wp2_with fail
                    refine (need_yes _).mono ?_
                    rintro e w5 ⟨rfl, rfl⟩
                    go_wp2_with fail
                    have HRN : Hid (∀ i, i < j + 2 → 0 < i → (ands[i - 1]!).a < (ands[i]!).a) := fun i hi h0 => by
                      by_cases ei : i = j + 1
                      · subst ei; rw [Nat.add_sub_cancel, he.out, he'.out]; exact HR.out
                      · exact HRS.out i (by omega) h0
                    have HX5 : Hid (Df w w4 _ ⟨mx, ins, lat, outs, bads, invs, ands, nms⟩ ga gb (ins.length + lat.length + (j + 2)) _) := HX4.out
                    go_roundg (gk - 1)
                    case measure => have := HK.out; omega
                    case rel =>
                      refine ⟨j + 2, _, ?_, ?_, HX5.out, HRN.out⟩
                      · have := HK.out; omega
                      · go_num
                  · have dr : decide (x' < x) = false := decide_eq_false hr
                    have HR : Hid (¬ (ands[j + 1 - 1]!).a < (ands[j + 1]!).a) := (by rw [Nat.add_sub_cancel, he.out, he'.out]; exact hr : ¬ (ands[j + 1 - 1]!).a < (ands[j + 1]!).a)
                    have HND := Lib.hid (NRI.out (j + 1) hlt hk0 (Int.not_lt.1 HR.out))
                    clear hr
                    go_still_tail 14, (by kernel_rfl)
                    change wpList _ _ _ _ _ w2.drew
                    have HX4 := Lib.hid (HX3.out.keep (Fr.refl [] w2).drew)
                    generalize w2.drew = w4 at HX4 ⊢
                    clear c0 c1 c2 c3 c4 c5 c6 c7 n0 cx'
                    go_wp2_with fail
                    refine (need_no _).mono ?_
                    unfold Fault
                    rintro e w5 ⟨rfl, rfl⟩
                    go_wp2_with fail
                    exact ⟨rfl, NO.out _ HND.out HX4.out.cx.fr⟩
                · obtain rfl : k = 0 := by omega
                  refine wp_region_ext (by kernel_rfl) (by kernel_rfl) ?_
                  repeat (go_big_quiet_step (exact call_same (need_yes _)))
                  refine wpQuiet_nil ?_
                  rintro w4 ⟨u2, hu2⟩
                  have HF_w4 : Hid (Fr [] w2 w4) := hu2 ▸ u2.fr
                  clear hu2 u2
                  have HX4 := Lib.hid (HX3.out.keep HF_w4.out)
                  clear c0 c1 c2 c3 c4 c5 c6 c7 n0
                  go_wp2_with fail
                  go_roundg (gk - 1)
                  case measure => have := HK.out; omega
                  case rel =>
                    refine ⟨1, _, ?_, ?_, HX4.out, fun i hi h0 => absurd h0 (by omega)⟩
                    · have := HK.out; omega
                    · go_num
              | false =>
                refine (define_bad W1 ga gb (ins.length + lat.length + k) f x mx _ HX2.out.ms ⟨hx1, hx2⟩ (HDE.out.trans HQ.out)).mono ?_
                unfold Fault
                rintro e w2 ⟨rfl, rfl⟩
                go_wp2_with fail
                exact ⟨rfl, NO.out _ (NOW.out _ HJ.out HQ.out) HX2.out.cx.fr⟩
            · obtain rfl : k = ands.length := by omega
              have HT : Hid (∀ j : Nat, j < (ownL ⟨mx, ins, lat, outs, bads, invs, ands, nms⟩).length → ownB ⟨mx, ins, lat, outs, bads, invs, ands, nms⟩ (ownL ⟨mx, ins, lat, outs, bads, invs, ands, nms⟩) j = true) := fun j hj => HX.out.upto j (by rw [HLE.out] at hj; exact hj)
              have HDK : Hid (Dk f (ownL ⟨mx, ins, lat, outs, bads, invs, ands, nms⟩)) := (by have := HX.out.dk; rw [← HLE.out, List.take_length] at this; exact this : Dk f (ownL ⟨mx, ins, lat, outs, bads, invs, ands, nms⟩))
              go_wp2_with fail
              go_ret
              exact YES.out _ _ _ _ _ (HOK.out HT.out HRT.out HRS.out) HX.out.ms HDK.out HX.out.cx.fr

end Go.Proofs.Ytbjccgahmgpkjaa
