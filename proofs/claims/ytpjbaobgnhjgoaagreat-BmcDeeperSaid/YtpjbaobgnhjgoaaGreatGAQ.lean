/- Parts of a proof. -/
import Derived.Test.YtpjbaobgnhjgoaaGreatGAP
import Derived.Lib.Builder
import Derived.Shelf.Strings.Builder1
set_option linter.unusedVariables false
set_option linter.unusedSimpArgs false
set_option maxHeartbeats 8000000
set_option maxRecDepth 100000
namespace Go.Proofs.YtpjbaobgnhjgoaaGreat
open Go.RowKit Go.Shelf
theorem Hi : (Tryz.prog.info? 5).map (fun i => (i.zero, i.size, i.bytes)) = some (some (.int .u8 0), 1, 1) := by kernel_rfl
theorem J9 : (Tryz.prog.info? 173).map (·.size) = some 2 := by kernel_rfl
theorem SV : liesAt Tryz.prog Tryz.prog.depth 173 (2 / Tryz.prog.cellsOf 173) 0 173 1 = true := by kernel_rfl
abbrev Zg (B b : Nat) (bs : List Value) (w : World) : Prop := Lib.IsBuilder 173 5 B b bs w
theorem BY (b : Nat) (w : World) (h0 : w.cell? ⟨b, 0, none⟩ = some (.pointer (some ⟨b, 0, none⟩))) :
  Calls Tryz.prog 169 #[.pointer (some ⟨b, 0, none⟩)] w fun e w' => e = .returned (.tuple #[]) ∧ w' = w := by
 obtain ⟨j, hj, _⟩ := Option.map_eq_some_iff.1 J9
 go_enter Tryz.func169, Tryz.ntmps169
 go_wp2
 rw [Lib.run_neq_ptr_same w _ Tryz.underlying171 hj]
 go_wp2
 go_end0
 exact ⟨rfl, rfl⟩
theorem ze (b : Nat) (w : World) (h0 : w.cell? ⟨b, 0, none⟩ = some (.pointer none)) (hsh : w.shape? b = some (173, 2)) (rz : w.frozen? ⟨b, 0, none⟩ = false) :
  Calls Tryz.prog 169 #[.pointer (some ⟨b, 0, none⟩)] w fun e w' => e = .returned (.tuple #[]) ∧ w' = w.setCell ⟨b, 0, none⟩ (.pointer (some ⟨b, 0, none⟩)) := by
 obtain ⟨j, hj, hjs⟩ := Option.map_eq_some_iff.1 J9
 go_enter Tryz.func169, Tryz.ntmps169
 go_wp2
 rw [Lib.run_to_unsafe w ⟨b, 0, none⟩ Tryz.underlying171 Tryz.underlying196 hj (by rw [hjs]; decide) hsh (Nat.zero_lt_succ 1)]
 simp only [Result.andThen]
 rw [Oper.upon_value]
 go_wp2
 rw [run_callFunc_extern Tryz.func184 (by kernel_rfl) (by kernel_rfl) (by kernel_rfl) (e := Extern.AbiNoEscape.same) (by kernel_rfl)]
 rw [Lib.run_noEscape]
 simp only [Result.andThen]
 rw [Oper.upon_value]
 go_wp2
 rw [Lib.run_from_unsafe w ⟨b, 0, none⟩ Tryz.underlying196 Tryz.underlying171 hj hsh SV]
 simp only [Result.andThen]
 rw [Oper.upon_value]
 go_wp2
 go_end0
 exact ⟨rfl, rfl⟩
theorem zf (B b : Nat) (bs : List Value) (w : World) (h : Zg B b bs w) :
  Calls Tryz.prog 169 #[.pointer (some ⟨b, 0, none⟩)] w fun e w' => e = .returned (.tuple #[]) ∧ (Lib.BuilderAt 173 5 B b (.pointer (some ⟨b, 0, none⟩)) bs w' ∧ Below B w w') := by
 rcases h with h | h
 ·refine (ze b w h.cell0 h.shape h.frozen0).mono ?_
  rintro e w' ⟨rfl, rfl⟩
  exact ⟨rfl, h.used _, (Below.refl B w).setCell (p := ⟨b, 0, none⟩) h.1 _⟩
 ·refine (BY b w h.cell0).mono ?_
  rintro e w' ⟨rfl, rfl⟩
  exact ⟨rfl, h, Below.refl B _⟩
theorem za (B b : Nat) (bs : List Value) (c : Int) (w : World) (h : Zg B b bs w) (hlen : bs.length + 1 ≤ 140737488355328) (hBw : B ≤ w.heap.size) :
  Calls Tryz.prog 150 #[.pointer (some ⟨b, 0, none⟩), .int .u8 c] w fun e w' => e = .returned .nilIface ∧ (Lib.BuilderAt 173 5 B b (.pointer (some ⟨b, 0, none⟩)) (bs ++ [.int .u8 c]) w' ∧ Below B w w') := by
 obtain ⟨i0, hi, vK, ow, Co⟩ := info_parts Hi
 have KC := zf B b bs w h
 go_enter Tryz.func150, Tryz.ntmps150
 go_wp2_with fail
 refine KC.mono ?_
 rintro e w1 ⟨rfl, h1, sT⟩
 obtain ⟨hB, v, xm, dj, dN⟩ := h1
 have c0 : w1.cell? ⟨b, 0, none⟩ = some (.pointer (some ⟨b, 0, none⟩)) := by rw [Lib.cell_of_heap xm]; rfl
 have c1 : w1.cell? ⟨b, 1, none⟩ = some v := by rw [Lib.cell_of_heap xm]; rfl
 go_wp2_with (at_builtin; refine wpList_append_own _ rfl _ _ 98 rfl B 5 i0 (.int .u8 0) 1 1 Tryz.underlying98 hi vK ow Co rfl (by decide) _ _ _ rfl (dj.alloc _) ⟨w1.heap.size, 0, none⟩ 1 1 [.int .u8 c] rfl rfl ?c1 ?c2 ?c3 ?c4 ?c5 ?_)
 case c1 =>
  intro j u hj
  match j, hj with
  | 0, hj => simp at hj; subst hj; simp [Addr.add]
 case c2 => intro u hu; simp at hu; subst hu; rfl
 case c3 => unfold maxLen; omega
 case c4 => omega
 case c5 => have := sT.size; simp; omega
 intro v' w2 RH xk _
 have bM : b < w1.heap.size := by
  rcases bl b w1.heap.size with h' | h'
  ·exact h'
  ·simp [ff h'] at xm
 have rA : w2.heap[b]? = some (.cells #[.pointer (some ⟨b, 0, none⟩), v] 173 (0, 0)) := by
  rw [xk.block b (by simp; omega) (fun e => dN e.symm), Lib.alloc_old w1 _ b bM]
  exact xm
 have d0 : w2.cell? ⟨b, 0, none⟩ = some (.pointer (some ⟨b, 0, none⟩)) := by rw [Lib.cell_of_heap rA]; rfl
 have d1 : w2.cell? ⟨b, 1, none⟩ = some v := by rw [Lib.cell_of_heap rA]; rfl
 have f1 : w2.frozen? ⟨b, 1, none⟩ = false := Lib.frozen_of_heap rA 1
 obtain ⟨g, cap, rfl⟩ : ∃ g cap, v' = .slice (some ⟨g, 0, none⟩) (bs.length + 1) cap := by
  rcases RH.2 with ⟨_, h0⟩ | ⟨g, cap, cur, hv, _⟩
  ·omega
  ·exact ⟨g, cap, hv⟩
 go_wp2
 go_ret
 refine ⟨rfl, ?_, ?_⟩
 ·exact Lib.BuilderAt.put (T := 173) (e := 5) hB rA (bs' := bs ++ [.int .u8 c]) (by simpa using RH) (by decide)
 ·exact ((sT.alloc (by have := sT.size; omega) _).grown xk (by have := sT.size; simp; omega) (fun k hk => (dj.lt k hk).1)).setCell (p := ⟨b, 1, none⟩) hB _
structure nN (B b : Nat) (l : List UInt8) (w : World) : Prop where
 is : Zg B b (Lib.byteCells l) w
 le : B ≤ w.heap.size
 fresh : l = [] → w.heap[b]? = some (.cells #[.pointer none, .slice none 0 0] 173 (0, 0))
theorem nN.start (w : World) : nN w.heap.size w.heap.size [] (w.alloc (.cells #[.pointer none, .slice none 0 0] 173)) :=
 ⟨Lib.fresh_isBuilder _ _ w, ((Fr.refl [] w).alloc _).size, fun _ => heap_alloc_new w _⟩
theorem K5 {B b : Nat} {bs : List Value} {w w' : World} (h : Zg B b bs w) (hf : Fr [] w w') : Zg B b bs w' := by
 have key : ∀ p, Lib.BuilderAt 173 5 B b p bs w → Lib.BuilderAt 173 5 B b p bs w' := fun p ⟨h1, v, h2, h3, h4⟩ => by
  have bM : b < w.heap.size := by
   rcases bl b w.heap.size with h' | h'
   ·exact h'
   ·simp [ff h'] at h2
  exact ⟨h1, v, (hf.block b bM (by simp)).trans h2, hf.own h3 (by simp), h4⟩
 exact h.elim (fun h => .inl (key _ h)) (fun h => .inr (key _ h))
theorem nN.keep {B b : Nat} {l : List UInt8} {w w' : World} (h : nN B b l w) (hf : Fr [] w w') : nN B b l w' :=
 ⟨K5 h.is hf, aE h.le hf.size, fun e => by
  have h2 := h.fresh e
  have bM : b < w.heap.size := by
   rcases bl b w.heap.size with h' | h'
   ·exact h'
   ·simp [ff h'] at h2
  exact (hf.block b bM (by simp)).trans h2⟩
theorem nN.write {B b : Nat} {l : List UInt8} {w : World} (h : nN B b l w) (c : UInt8) (hl : l.length + 1 ≤ 140737488355328) :
  Calls Tryz.prog 150 #[.pointer (some ⟨b, 0, none⟩), .int .u8 (c.toNat : Int)] w fun e w' => e = .returned .nilIface ∧ nN B b (l ++ [c]) w' ∧ Below B w w' :=
 (za B b (Lib.byteCells l) c.toNat w h.is (by simpa [Lib.byteCells] using hl) h.le).mono fun e w' ⟨h1, h2, h3⟩ =>
  ⟨h1, ⟨.inr (by simpa [Lib.byteCells] using h2), aE h.le h3.size, fun e => by simp at e⟩, h3⟩
theorem nN.string {B b : Nat} {l : List UInt8} {w : World} (hb : nN B b l w) :
  Calls Tryz.prog 151 #[.pointer (some ⟨b, 0, none⟩)] w fun e w' => e = .returned (.string ⟨l.toArray⟩) ∧ Below B w w' := by
 have mixed : Tryz.prog.follows Departure.mixedOrders = true := by kernel_rfl
 by_cases h0 : l = []
 ·subst h0
  have xm := hb.fresh rfl
  have c1 : w.drew.cell? ⟨b, 1, none⟩ = some (.slice none 0 0) := by
   have : w.drew.heap[b]? = some (.cells #[.pointer none, .slice none 0 0] 173 (0, 0)) := xm
   rw [Lib.cell_of_heap this]; rfl
  have hUS : (Builtin.unsafeString_ #[189, 3] 9 #[.pointer none, .int .i64 0]).run Tryz.prog w.drew = .ok (.string .empty) w.drew := Lib.run_unsafeString_none w.drew _ _ _ _
  have hSD : (Builtin.unsafeSliceData_ #[98] 189 #[.slice none 0 0]).run Tryz.prog w.drew = .ok (.pointer none) w.drew := rfl
  clear hb xm
  go_enter Tryz.func151, Tryz.ntmps151
  go_wp2
  go_region_o
  all_goals (go_wp2; go_ret; exact ⟨rfl, Below.drew (Below.refl B w)⟩)
 ·obtain ⟨p, hB, v, xm, dj, dN⟩ : ∃ p, Lib.BuilderAt 173 5 B b p (Lib.byteCells l) w := by
   rcases hb.is with h | h
   ·exact ⟨_, h⟩
   ·exact ⟨_, h⟩
  have JD : l.length ≠ 0 := by simpa using h0
  rw [Lib.byteCells_length] at dj
  obtain ⟨g, cap, cur, rfl, Me, hg, qf, Bj, vw, Rx⟩ : ∃ g cap cur, v = .slice (some ⟨g, 0, none⟩) l.length cap ∧ B ≤ g ∧ w.heap[g]? = some (.cells cur 5 (0, 0)) ∧ l.length ≤ cap ∧ cap ≤ maxLen ∧ cur.size = cap * 1 ∧ cur.toList.take (l.length * 1) = Lib.byteCells l := by
   rcases dj.2 with ⟨_, hz⟩ | ⟨g, cap, cur, hv, r⟩
   ·exact absurd hz JD
   ·exact ⟨g, cap, cur, hv, r⟩
  have c1 : w.drew.cell? ⟨b, 1, none⟩ = some (.slice (some ⟨g, 0, none⟩) l.length cap) := by
   have : w.drew.heap[b]? = some (.cells #[p, .slice (some ⟨g, 0, none⟩) l.length cap] 173 (0, 0)) := xm
   rw [Lib.cell_of_heap this]; rfl
  have hSD : (Builtin.unsafeSliceData_ #[98] 189 #[.slice (some ⟨g, 0, none⟩) l.length cap]).run Tryz.prog w.drew = .ok (.pointer (some ⟨g, 0, none⟩)) w.drew :=
   Lib.run_unsafeSliceData_row _ _ _ _ _ _ (by omega)
  have hUS : (Builtin.unsafeString_ #[189, 3] 9 #[.pointer (some ⟨g, 0, none⟩), .int .i64 l.length]).run Tryz.prog w.drew = .ok (.string ⟨l.toArray⟩) (w.drew.freeze ⟨g, 0, none⟩ l.length) := by
   refine Lib.run_unsafeString_row w.drew 189 3 9 5 Tryz.underlying189 (by kernel_rfl) g cur.size (by have nq : w.drew.heap[g]? = some (.cells cur 5 (0, 0)) := hg; simp [World.shape?, nq]) l h0 (by omega) (by unfold maxLen at Bj; omega) ?_
   intro j x hx
   have := dj.cells (g := g) rfl j (.int .u8 x.toNat) (by simp [Lib.byteCells, hx])
   exact this
  clear hb xm
  go_enter Tryz.func151, Tryz.ntmps151
  go_wp2
  go_region_o
  all_goals (go_wp2; go_ret; exact ⟨rfl, Lib.below_freeze (Below.drew (Below.refl B w)) (p := ⟨g, 0, none⟩) Me _⟩)
theorem py (w : World) (H : Hd) (C : Pc) (h : iE w H C) (hv : Valid C) (f : Int) (hf : 0 ≤ f ∧ f ≤ 80) :
  Calls Tryz.prog 118 #[dn H C, .int .i64 f] w fun e w' => e = .returned (.bool true) ∧ Fr [] w w' := by
 have HX := aa (Cx.start w H C)
 have KC : Hid (Calls Tryz.prog 22 #[dn H C] (w.alloc (.cells (gH H C) 27)) fun e w' => e = .returned (.int .i64 0) ∧ Fr [] (w.alloc (.cells (gH H C) 27)) w') := (j6 _ H C (h.keep HX.out.fr)).mono fun e w' ⟨h1, h2⟩ => by
  rcases h1 with ⟨h3, _⟩ | ⟨_, h3⟩
  ·exact ⟨h3, h2⟩
  ·exact absurd hv h3
 have d0 : decide (0 ≤ f) = true := decide_eq_true hf.1
 have d1 : decide (f ≤ 80) = true := decide_eq_true hf.2
 clear h hv
 obtain ⟨mx, ins, aX, outs, aO, aN, au, bO⟩ := C
 obtain ⟨iA, iC, lA, lC, oA, oC, bA, bC, vA, vC, gA, gC, nA, nC⟩ := H
 simp only [dn, gH] at *
 obtain ⟨c0, c1, c2, c3, c4, c5, c6, c7⟩ := HX.out.cells
 simp only at c0 c1 c2 c3 c4 c5 c6 c7
 go_enter Tryz.func118, Tryz.ntmps118
 go_wp2_with fail
 refine KC.out.mono ?_
 rintro e w1 ⟨rfl, cE⟩
 have HF := aa (HX.out.fr.ag cE)
 clear cE
 go_wp2_with fail
 go_ret
 exact ⟨rfl, HF.out⟩
theorem Cx.below {w wr w' : World} {H : Hd} {C : Pc} {B : Nat} (h : Cx w wr H C) (hB : w.heap.size < B) (hb : Below B wr w') : Cx w w' H C :=
 ⟨⟨hb.os.trans h.fr.os, hb.tape.trans h.fr.tape, hb.output.trans h.fr.output, aE h.fr.size hb.size, fun k hk hm => (hb.block k (by omega)).trans (h.fr.block k hk hm)⟩, (hb.block _ hB).trans h.bx⟩
def IW (S : Sv) (b : Int) (x : Int) : UInt8 := if S.GJ (b + x / 2 + 1) = true then 49 else 48
def lH (S : Sv) (b : Int) (l : List Int) : List UInt8 := l.map (IW S b)
theorem IV (S : Sv) (b : Int) (l : List Int) (k : Nat) (h : k < l.length) : lH S b (l.take (k + 1)) = lH S b (l.take k) ++ [IW S b l[k]!] := by
 unfold lH
 rw [List.take_succ_eq_append_getElem h, bP, ae, af h]
 rfl
theorem qX (w : World) (L : aH) (S : Sv) (hs : aK w L S) (hm : S.has = true → S.model.length = S.vars + 1) (H : Hd) (C : Pc) (h : iE w H C) (hv : Valid C) (f : Int) (hf : 0 ≤ f ∧ f ≤ 80) (A : Option Addr) (c : Nat) (l : List Int) (hr : Rd w A l) (oP : Ra l) (hx : ∀ x ∈ l, 0 ≤ x ∧ x ≤ 4097) (hl : l.length ≤ 1000000) :
  Calls Tryz.prog 119 #[.pointer (some ⟨L.a, 0, none⟩), dn H C, .int .i64 f, .slice A l.length c] w fun e w' => e = .returned (.string ⟨(lH S (eH C f) l).toArray⟩) ∧ Fr [] w w' := by
 have HX := aa (Cx.start w H C)
 have hb := lJ hv.m0 hv.m1 (f := f) (by omega)
 have HS := aa hs
 have HM := aa hm
 have HR := aa hr
 have vz := aa oP
 have nZ := aa hx
 have KB := aa (fun W (hw : iE W H C) => ml W H C hw hv f hf)
 have HH := aa h
 obtain ⟨ba, JK⟩ : ∃ ba, eH C f = ba := ⟨_, rfl⟩
 simp only [JK] at KB hb ⊢
 have HBA := aa hb
 have ZD := aa (nN.start (w.alloc (.cells (gH H C) 27)))
 obtain ⟨w1, ep⟩ : ∃ W, w.alloc (.cells (gH H C) 27) = W := ⟨_, rfl⟩
 rw [ep] at ZD HX
 obtain ⟨w2, kD⟩ : ∃ W, w1.alloc (.cells #[.pointer none, .slice none 0 0] 173) = W := ⟨_, rfl⟩
 rw [kD] at ZD
 have HW2 : Hid (Fr [] w1 w2) := kD ▸ aP _ _
 have ie := aa (HX.out.keep HW2.out)
 obtain ⟨B, hB⟩ : ∃ B, w1.heap.size = B := ⟨_, rfl⟩
 have HBE := aa hB
 clear h hv hs hm hr oP hx hb JK
 obtain ⟨mx, ins, aX, outs, aO, aN, au, bO⟩ := C
 obtain ⟨iA, iC, lA, lC, oA, oC, bA, bC, vA, vC, gA, gC, nA, nC⟩ := H
 simp only [dn, gH] at *
 go_enter Tryz.func119, Tryz.ntmps119
 go_upto_region 2 with fail
 clear ep kD
 have U6 : Hid (w.heap.size < B) := (by
  have := HX.out.bx.lt
  rwa [hB] at this : w.heap.size < B)
 rw [hB] at ZD
 clear hB
 go_wp2_with fail
 go_loopg [16] l.length (fun g Ol wr => ∃ k : Nat, k + g = l.length ∧ Ol = .int .i64 k ∧ Hid (nN B B (lH S ba (l.take k)) wr) ∧ Hid (Cx w wr ⟨iA, iC, lA, lC, oA, oC, bA, bC, vA, vC, gA, gC, nA, nC⟩ ⟨mx, ins, aX, outs, aO, aN, au, bO⟩))
 case atStart => exact ⟨0, by omega, rfl, ZD, ie⟩
 case round =>
  obtain ⟨k, hk, rfl, HB, eR⟩ := hrel
  have HK := aa hk
  have j4 : k ≤ l.length := by omega
  obtain ⟨d0, d1, d2, d3, d4, d5, d6, d7⟩ := eR.out.cells
  simp only at d0 d1 d2 d3 d4 d5 d6 d7
  clear hk ie ZD
  by_cases bM : k < l.length
  ·obtain ⟨b, o, x, hA, he, cx, -, -⟩ := (HR.out.keep eR.out.fr).one vz.out bM
   subst hA
   have Cp := nZ.out x (by rw [← he.out]; exact bw bM)
   have qI := HBA.out
   have KBR := aa (KB.out wr (HH.out.keep eR.out.fr))
   have KV := aa (fun W => ii W x Cp.1 (by omega))
   have ep : IntKind.i64.wrap (ba + x / 2) = ba + x / 2 := IntWalk.i64_in _ (by omega)
   have kD : IntKind.i64.wrap (ba + x / 2 + 1) = ba + x / 2 + 1 := IntWalk.i64_in _ (by omega)
   have tj := aa (IV S ba l k bM)
   rw [he.out] at tj
   have vq : (lH S ba (l.take k)).length + 1 ≤ 140737488355328 := by
    unfold lH
    rw [ax, bk]
    omega
   have oN := aa vq
   have KL := aa (fun W (hW : Fr [] w W) => zI W L S (HS.out.keep hW) HM.out (ba + x / 2 + 1))
   obtain ⟨vb, Tb⟩ : ∃ vb, S.GJ (ba + x / 2 + 1) = vb := ⟨_, rfl⟩
   rw [Tb] at KL
   have QK : Hid (IW S ba x = if vb = true then 49 else 48) := by
    show _ = _
    unfold IW
    rw [Tb]
   clear vq Tb Cp qI
   go_upto_region 6 with fail
   refine KBR.out.mono ?_
   rintro e w3 ⟨rfl, cY⟩
   have iU := aa (eR.out.keep cY)
   have Q5 := aa (HB.out.keep cY)
   clear cY d0 d1 d2 d3 d4 d5 d6 d7 cx KBR
   go_upto_region 6 with fail
   refine (KV.out w3).mono ?_
   rintro e w4 ⟨rfl, rfl⟩
   go_upto_region 6 with fail
   cases vb with
   | true =>
    have HC : Hid (IW S ba x = 49) := QK.out
    have KW := Q5.out.write 49 oN.out
    have KW := aa KW
    clear QK
    go_wp2_with fail
    refine (KL.out w3 iU.out.fr).mono ?_
    rintro e w5 ⟨rfl, rfl⟩
    go_wp2_with fail
    refine KW.out.mono ?_
    rintro e w6 ⟨rfl, h6, b6⟩
    have Cm : Hid (nN B B (lH S ba (l.take (k + 1))) w6) := by
     show nN _ _ _ _
     rw [tj.out, HC.out]
     exact h6
    have Gv := aa (iU.out.below U6.out b6)
    clear h6 b6 KW
    go_wp2_with fail
    go_roundg (gk - 1)
    case measure => have := HK.out; omega
    case rel => exact ⟨k + 1, by have := HK.out; omega, by go_num, Cm, Gv⟩
   | false =>
    have HC : Hid (IW S ba x = 48) := QK.out
    have KW := Q5.out.write 48 oN.out
    have KW := aa KW
    clear QK
    go_wp2_with fail
    refine (KL.out w3 iU.out.fr).mono ?_
    rintro e w5 ⟨rfl, rfl⟩
    go_wp2_with fail
    refine KW.out.mono ?_
    rintro e w6 ⟨rfl, h6, b6⟩
    have Cm : Hid (nN B B (lH S ba (l.take (k + 1))) w6) := by
     show nN _ _ _ _
     rw [tj.out, HC.out]
     exact h6
    have Gv := aa (iU.out.below U6.out b6)
    clear h6 b6 KW
    go_wp2_with fail
    go_roundg (gk - 1)
    case measure => have := HK.out; omega
    case rel => exact ⟨k + 1, by have := HK.out; omega, by go_num, Cm, Gv⟩
  ·obtain rfl : k = l.length := by omega
   rw [fO] at HB
   have KE := aa HB.out.string
   clear HK d0 d1 d2 d3 d4 d5 d6 d7
   go_wp2_with fail
   refine KE.out.mono ?_
   rintro e w6 ⟨rfl, b6⟩
   have Gv := aa (eR.out.below U6.out b6)
   clear b6
   go_wp2_with fail
   go_ret
   exact ⟨rfl, Gv.out.fr⟩
end Go.Proofs.YtpjbaobgnhjgoaaGreat
namespace Go.Proofs.YtpjbaobgnhjgoaaGreat
open Go.RowKit
theorem yn (w : World) (L : aH) (S : Sv) (hs : aK w L S) (hm : S.has = true → S.model.length = S.vars + 1) (H : Hd) (C : Pc) (h : iE w H C) (hv : Valid C) (f : Int) (hf : 0 ≤ f ∧ f ≤ 80) :
  Calls Tryz.prog 80 #[.pointer (some ⟨L.a, 0, none⟩), dn H C, .int .i64 f] w fun e w' => e = .returned (.string ⟨(lH S (eH C f) (C.aX.map (·.a))).toArray⟩) ∧ Fr [] w w' := by
 have HX := aa (Cx.start w H C)
 have KR := aa (py _ H C (h.keep HX.out.fr) hv f hf)
 have T4 := hv.l
 have VY : ∀ x ∈ C.aX.map (·.a), 0 ≤ x ∧ x ≤ 4097 := fun x hx => by
  obtain ⟨t, ht, rfl⟩ := bE.1 hx
  obtain ⟨j, hj, rfl⟩ := List.getElem_of_mem ht
  have := ji hv j hj
  have h1 := hv.m1
  rw [ae, af hj] at this
  simp only [aq] at this
  omega
 have oP : Ra (C.aX.map (·.a)) := fun j hj => by
  have := VY _ (bw hj)
  exact ⟨by omega, by omega⟩
 have KB := aa (fun W (hW : Fr [] w W) A c (hi : Ints W A c (C.aX.map (·.a))) => qX W L S (hs.keep hW) hm H C (h.keep hW) hv f hf A c _ hi.rd oP VY (by rw [ax]; omega))
 have HH := aa h
 have oM := aa h.lr
 obtain ⟨ms, AT⟩ : ∃ ms, C.aX.map (·.a) = ms := ⟨_, rfl⟩
 have zr : ms.length = C.aX.length := by rw [← AT, ax]
 have yx : ∀ k, k < C.aX.length → ms.take (k + 1) = ms.take k ++ [(C.aX[k]!).a] := fun k hk => by
  rw [List.take_succ_eq_append_getElem (by omega), ae, af hk]
  simp only [← AT, List.getElem_map, aq]
 have nZ := aa yx
 rw [AT] at KB ⊢
 obtain ⟨RES, co⟩ : ∃ RES, lH S (eH C f) ms = RES := ⟨_, rfl⟩
 simp only [co] at KB ⊢
 have Jh := aa zr
 clear h hv hs hm VY oP yx co AT zr
 obtain ⟨mx, ins, aX, outs, aO, aN, au, bO⟩ := C
 obtain ⟨iA, iC, lA, lC, oA, oC, bA, bC, vA, vC, gA, gC, nA, nC⟩ := H
 simp only [dn, gH] at *
 obtain ⟨c0, c1, c2, c3, c4, c5, c6, c7⟩ := HX.out.cells
 simp only at c0 c1 c2 c3 c4 c5 c6 c7
 go_enter Tryz.func80, Tryz.ntmps80
 go_wp2_with fail
 refine KR.out.mono ?_
 rintro e w1 ⟨rfl, cE⟩
 have hG := aa (HX.out.keep cE)
 obtain ⟨e0, e1, e2, e3, e4, e5, e6, e7⟩ := hG.out.cells
 simp only at e0 e1 e2 e3 e4 e5 e6 e7
 clear cE c0 c1 c2 c3 c4 c5 c6 c7 KR
 go_wp2_with fail
 go_loopg [7, 17] aX.length (fun g x7 GH wr => ∃ (k : Nat) (A' : Option Addr) (c' : Nat), k + g = aX.length ∧ x7 = .slice A' k c' ∧ GH = .int .i64 k ∧ Hid (Ints wr A' c' (ms.take k)) ∧ Hid (∀ j ∈ ah A', w.heap.size < j) ∧ Hid (Cx w wr ⟨iA, iC, lA, lC, oA, oC, bA, bC, vA, vC, gA, gC, nA, nC⟩ ⟨mx, ins, aX, outs, aO, aN, au, bO⟩))
 case atStart => exact ⟨0, none, 0, by omega, rfl, rfl, Ints.nil _, (fun j hj => by simp [ah] at hj), hG.out⟩
 case round =>
  obtain ⟨k, A', c', hk, rfl, rfl, HI, HN, eR⟩ := hrel
  have HK := aa hk
  have j4 : k ≤ aX.length := by omega
  obtain ⟨d0, d1, d2, d3, d4, d5, d6, d7⟩ := eR.out.cells
  simp only at d0 d1 d2 d3 d4 d5 d6 d7
  clear hk hG e0 e1 e2 e3 e4 e5 e6 e7
  have Dw : (ms.take k).length = k := by rw [bk, Jh.out]; exact iH j4
  by_cases bM : k < aX.length
  ·obtain ⟨b, o, x, y, z, hA, he, cx, cy, cz, hx, hy, hz⟩ := (HH.out.keep eR.out.fr).l.one oM.out bM
   simp only at hA he
   subst hA
   have yx := nZ.out k bM
   simp only [he.out] at yx
   have HT := aa yx
   clear yx
   go_upto_region 7 with fail
   obtain ⟨wx, mP⟩ : ∃ W, wr.alloc (.cells #[.int .i64 x, .int .i64 y, .int .i64 z] 62) = W := ⟨_, rfl⟩
   have rZ : At wx wr.heap.size 62 #[.int .i64 x, .int .i64 y, .int .i64 z] := mP ▸ At.new _ _ _
   have kR : Hid (Fr [] wr wx) := mP ▸ aP _ _
   have f0 := rZ.cell 0
   simp at f0
   rw [mP]
   have zA := aa (eR.out.keep kR.out)
   clear mP rZ d0 d1 d2 d3 d4 d5 d6 d7 cx cy cz
   obtain ⟨wb, fd⟩ : ∃ W, wx.alloc (.cells #[.int .i64 x] 3) = W := ⟨_, rfl⟩
   have gu : Hid (Fr [] wx wb) := fd ▸ aP _ _
   have nJ : wb.cell? ⟨wx.heap.size, 0, none⟩ = some (.int .i64 x) := by
    have := (At.new wx 3 #[.int .i64 x]).cell 0
    rw [fd] at this
    simpa using this
   have CG : Hid (w.heap.size < wr.heap.size) := (eR.out.bx.lt : w.heap.size < wr.heap.size)
   go_wp2_with (at_builtin; (refine cM _ rfl _ _ rfl A' c' (ms.take k) k rfl Dw.symm ((HI.out.fr kR.out (by simp)).fr gu.out (by simp)) ⟨wx.heap.size, 0, none⟩ 1 x rfl nJ (by omega) ?_; intro ga aff w5 sO dK JI hs5; have So := aa sO; have ta := aa ((zA.out.keep gu.out).push dK HN.out); have Sk : Hid (∀ j ∈ ah (some (⟨ga, 0, none⟩ : Addr)), w.heap.size < j) := (fun j hj => by simp [ah] at hj; subst hj; rcases JI with h | h; exact HN.out _ h; rw [h]; exact aQ CG.out (aE kR.out.size gu.out.size)); clear sO dK JI hs5))
   clear fd
   go_roundg (gk - 1)
   case measure => have := HK.out; omega
   case rel => exact ⟨k + 1, some ⟨ga, 0, none⟩, aff, by have := HK.out; omega, rfl, by go_num, (by show Ints _ _ _ _; rw [HT.out]; exact So.out), Sk.out, ta.out⟩
  ·obtain rfl : k = aX.length := by omega
   clear HK
   have KE := KB.out wr eR.out.fr A' c' (by have := HI.out; rwa [dh (by rw [Jh.out]; exact ao _)] at this)
   rw [Jh.out] at KE
   have KE := aa KE
   go_wp2_with fail
   refine KE.out.mono ?_
   rintro e w2 ⟨rfl, cd⟩
   have HF := aa (eR.out.fr.ag cd)
   clear cd
   go_wp2_with fail
   go_ret
   exact ⟨rfl, HF.out⟩
theorem yo (w : World) (L : aH) (S : Sv) (hs : aK w L S) (hm : S.has = true → S.model.length = S.vars + 1) (H : Hd) (C : Pc) (h : iE w H C) (hv : Valid C) (f : Int) (hf : 0 ≤ f ∧ f ≤ 80) :
  Calls Tryz.prog 81 #[.pointer (some ⟨L.a, 0, none⟩), dn H C, .int .i64 f] w fun e w' => e = .returned (.string ⟨(lH S (eH C f) C.ins).toArray⟩) ∧ Fr [] w w' := by
 have HX := aa (Cx.start w H C)
 have KR := aa (py _ H C (h.keep HX.out.fr) hv f hf)
 have VY : ∀ x ∈ C.ins, 0 ≤ x ∧ x ≤ 4097 := fun x hx => by
  have := dw hv x (aW _ (aW _ hx))
  have h1 := hv.m1
  omega
 have KB := aa (fun W (hW : Fr [] w W) => qX W L S (hs.keep hW) hm H C (h.keep hW) hv f hf H.iA H.iC _ (h.keep hW).i (h.keep hW).ir VY (by have := hv.i; omega))
 obtain ⟨RES, co⟩ : ∃ RES, lH S (eH C f) C.ins = RES := ⟨_, rfl⟩
 simp only [co] at KB ⊢
 clear h hv hs hm VY co
 obtain ⟨mx, ins, aX, outs, aO, aN, au, bO⟩ := C
 obtain ⟨iA, iC, lA, lC, oA, oC, bA, bC, vA, vC, gA, gC, nA, nC⟩ := H
 simp only [dn, gH] at *
 obtain ⟨c0, c1, c2, c3, c4, c5, c6, c7⟩ := HX.out.cells
 simp only at c0 c1 c2 c3 c4 c5 c6 c7
 go_enter Tryz.func81, Tryz.ntmps81
 go_wp2_with fail
 refine KR.out.mono ?_
 rintro e w1 ⟨rfl, cE⟩
 have hG := aa (HX.out.keep cE)
 obtain ⟨e0, e1, e2, e3, e4, e5, e6, e7⟩ := hG.out.cells
 simp only at e0 e1 e2 e3 e4 e5 e6 e7
 clear cE c0 c1 c2 c3 c4 c5 c6 c7 KR
 go_wp2_with fail
 refine (KB.out w1 hG.out.fr).mono ?_
 rintro e w2 ⟨rfl, cd⟩
 have HF := aa (hG.out.fr.ag cd)
 clear cd
 go_wp2_with fail
 go_ret
 exact ⟨rfl, HF.out⟩
theorem K9 : (Tryz.prog.info? 9).map (fun i => (i.zero, i.size, i.bytes)) = some (some (.string ⟨#[]⟩), 1, 16) := by kernel_rfl
def sv (s : List UInt8) : Value := .string ⟨s.toArray⟩
def jg (w : World) (A : Option Addr) (c : Nat) (l : List (List UInt8)) : Prop := w.ownsRow 0 9 1 (.slice A l.length c) l.length (l.map sv)
theorem jg.keep {w w' : World} {A : Option Addr} {c : Nat} {l : List (List UInt8)} (h : jg w A c l) (hf : Fr [] w w') : jg w' A c l := hf.own h (by simp)
def vm (S : Sv) (C : Pc) (n : Nat) : List (List UInt8) := (List.range n).map fun k : Nat => lH S (eH C (k : Int)) C.ins
theorem La (S : Sv) (C : Pc) (n : Nat) : vm S C (n + 1) = vm S C n ++ [lH S (eH C (n : Int)) C.ins] := by
 unfold vm
 rw [List.range_succ, bP]
 rfl
theorem FO (S : Sv) (C : Pc) (n : Nat) : (vm S C n).length = n := by simp [vm]
def Fw (S : Sv) (C : Pc) : List UInt8 := lH S (eH C 0) (C.aX.map (·.a))
def PaP (S : Sv) (C : Pc) (n : Nat) (bad : Int) (w : World) (e : Ending) (w' : World) : Prop := ∃ A c, e = .returned (.agg #[.int .i64 bad, sv (Fw S C), .slice A n c]) ∧ jg w' A c (vm S C n) ∧ (∀ k ∈ ah A, w.heap.size ≤ k) ∧ Fr [] w w'
theorem Am (w : World) (L : aH) (S : Sv) (hs : aK w L S) (hm : S.has = true → S.model.length = S.vars + 1) (H : Hd) (C : Pc) (h : iE w H C) (hv : Valid C) (last : Nat) (hl : last ≤ 79) (bad : Int) :
  Calls Tryz.prog 43 #[.pointer (some ⟨L.a, 0, none⟩), dn H C, .int .i64 (last : Int), .int .i64 bad] w (PaP S C (last + 1) bad w) := by
 have HX := aa (Cx.start w H C)
 have KS := aa (fun W (hW : Fr [] w W) => yn W L S (hs.keep hW) hm H C (h.keep hW) hv 0 (by omega))
 have KI := aa (fun W (hW : Fr [] w W) (k : Nat) (hk : k ≤ last) => yo W L S (hs.keep hW) hm H C (h.keep hW) hv k (by omega))
 have VX : min (last : Int) 80 = last := by omega
 obtain ⟨st, ni⟩ : ∃ st, Fw S C = st := ⟨_, rfl⟩
 have HPA : Hid (∀ A c W, jg W A c (vm S C (last + 1)) → (∀ k ∈ ah A, w.heap.size ≤ k) → Fr [] w W → PaP S C (last + 1) bad w (.returned (.agg #[.int .i64 bad, sv st, .slice A (last + 1) c])) W) := fun A c W h1 h2 h3 => ⟨A, c, by rw [ni], h1, h2, h3⟩
 obtain ⟨PP, hPP⟩ : ∃ PP, PaP S C (last + 1) bad w = PP := ⟨_, rfl⟩
 rw [hPP] at HPA ⊢
 change lH S (eH C 0) (C.aX.map (·.a)) = st at ni
 rw [ni] at KS
 have QY := aa (fun k => La S C k)
 have HIZ : Hid (vm S C 0 = []) := (rfl : vm S C 0 = [])
 obtain ⟨IN, hIN⟩ : ∃ IN, vm S C = IN := ⟨_, rfl⟩
 have QZ : Hid (∀ k, (IN k).length = k) := hIN ▸ FO S C
 rw [hIN] at HPA HIZ
 simp only [hIN] at QY
 obtain ⟨BI, hBI⟩ : ∃ BI : Nat → List UInt8, (fun k : Nat => lH S (eH C (k : Int)) C.ins) = BI := ⟨_, rfl⟩
 have YO : ∀ k : Nat, lH S (eH C (k : Int)) C.ins = BI k := fun k => congrFun hBI k
 simp only [YO] at KI QY
 clear h hv hs hm ni hIN hPP hBI YO
 obtain ⟨mx, ins, aX, outs, aO, aN, au, bO⟩ := C
 obtain ⟨iA, iC, lA, lC, oA, oC, bA, bC, vA, vC, gA, gC, nA, nC⟩ := H
 simp only [dn, gH] at *
 obtain ⟨c0, c1, c2, c3, c4, c5, c6, c7⟩ := HX.out.cells
 simp only at c0 c1 c2 c3 c4 c5 c6 c7
 go_enter Tryz.func43, Tryz.ntmps43
 go_upto_region 1 with fail
 obtain ⟨wa, NX⟩ : ∃ W, w.alloc (.cells #[.int .i64 mx, .slice iA ins.length iC, .slice lA aX.length lC, .slice oA outs.length oC, .slice bA aO.length bC, .slice vA aN.length vC, .slice gA au.length gC, .slice nA bO.length nC] 27) = W := ⟨_, rfl⟩
 rw [NX] at HX c0 c1 c2 c3 c4 c5 c6 c7 ⊢
 have pG : wa.heap.size = w.heap.size + 1 := by rw [← NX]; simp
 obtain ⟨w1, ep⟩ : ∃ W, wa.alloc (.cells #[.int .i64 0, .string ⟨#[]⟩, .slice none 0 0] 32) = W := ⟨_, rfl⟩
 rw [ep]
 have oY : Hid (At w1 wa.heap.size 32 #[.int .i64 0, .string ⟨#[]⟩, .slice none 0 0]) := ep ▸ At.new _ _ _
 have dv : Hid (Fr [] wa w1) := ep ▸ aP _ _
 have hG := aa (HX.out.keep dv.out)
 obtain ⟨d0, d1, d2, d3, d4, d5, d6, d7⟩ := hG.out.cells
 simp only at d0 d1 d2 d3 d4 d5 d6 d7
 clear NX ep c0 c1 c2 c3 c4 c5 c6 c7 HX
 go_upto_region 2 with fail
 refine (KS.out w1 hG.out.fr).mono ?_
 rintro e w2 ⟨rfl, cd⟩
 have ie := aa (hG.out.keep cd)
 have qi := aa (oY.out.keep cd)
 clear cd d0 d1 d2 d3 d4 d5 d6 d7 hG oY dv
 go_upto_region 2 with fail
 obtain ⟨o, ho⟩ : ∃ o, w2.heap.size = o := ⟨_, rfl⟩
 obtain ⟨w3, kW⟩ : ∃ W, w2.alloc (.cells #[.int .i64 bad, .string ⟨st.toArray⟩, .slice none 0 0] 32) = W := ⟨_, rfl⟩
 have oK : Hid (At w3 o 32 #[.int .i64 bad, .string ⟨st.toArray⟩, .slice none 0 0]) := kW ▸ ho ▸ At.new _ _ _
 have cY : Fr [] w2 w3 := kW ▸ aP _ _
 have iU := aa (ie.out.keep cY)
 have oX := aa (qi.out.keep cY)
 have AK := qi.out.lt
 rw [ho] at AK
 have Sg : Hid (wa.heap.size < o) := AK
 have hso := ie.out.fr.size
 rw [ho] at hso
 have HSO : Hid (w.heap.size ≤ o) := hso
 have HO4 : Hid (o < w3.heap.size) := oK.out.lt
 rw [pG] at oX Sg
 rw [kW, ho]
 clear cY kW ho AK hso ie qi
 go_wp2_with fail
 go_loopg [10] (last + 1) (fun g wD wr => ∃ (k : Nat) (A' : Option Addr) (c' : Nat), k + g = last + 1 ∧ wD = .int .i64 k ∧ Hid (At wr o 32 #[.int .i64 bad, .string ⟨st.toArray⟩, .slice A' k c']) ∧ Hid (jg wr A' c' (IN k)) ∧ Hid (∀ j ∈ ah A', o < j) ∧ Hid (Cx w wr ⟨iA, iC, lA, lC, oA, oC, bA, bC, vA, vC, gA, gC, nA, nC⟩ ⟨mx, ins, aX, outs, aO, aN, au, bO⟩) ∧ Hid (At wr (w.heap.size + 1) 32 #[.int .i64 0, .string ⟨#[]⟩, .slice none 0 0]))
 case atStart => exact ⟨0, none, 0, by omega, rfl, oK, (by show jg _ _ _ _; rw [HIZ.out]; exact World.ownsRow_nil _ 0 _ 1), (fun j hj => by simp [ah] at hj), iU, oX⟩
 case round =>
  obtain ⟨k, A', c', hk, rfl, HO, HS, HN, eR, Gy⟩ := hrel
  have HK := aa hk
  have j4 : k ≤ last + 1 := by omega
  clear hk iU oX oK
  by_cases bM : k < last + 1
  ·have pI : (k : Int) ≤ (last : Int) := by omega
   have sN := QZ.out k
   obtain ⟨d0, d1, d2, d3, d4, d5, d6, d7⟩ := eR.out.cells
   simp only at d0 d1 d2 d3 d4 d5 d6 d7
   have D0 := aa d0
   have D1 := aa d1
   have D2 := aa d2
   have D3 := aa d3
   have D4 := aa d4
   have D5 := aa d5
   have D6 := aa d6
   have D7 := aa d7
   have o2 := HO.out.cell 2
   simp at o2
   have kS := aa o2
   have cJ := aa (HO.out.frozen 2)
   have Jg : Hid (o ∉ ah A') := (fun hm => Nat.lt_irrefl _ (HN.out _ hm))
   have vc : Hid (w.heap.size ∉ ah A') := (fun hm => by have := HN.out _ hm; have := HSO.out; omega)
   have QQ : Hid (w.heap.size + 1 ∉ ah A') := (fun hm => by have := HN.out _ hm; have := Sg.out; omega)
   have lR : Hid (∀ W, Fr (ah A') wr W → Fr [] w W) := (fun W hW => eR.out.fr.trans hW (fun j hj => .inr (by have := HN.out j hj; have := HSO.out; omega)))
   have qN : Hid (o < wr.heap.size) := HO.out.lt
   have fJ : wr.ownsRow 0 9 1 (.slice A' k c') k ((IN k).map sv) := by
    have := HS.out
    unfold jg at this
    rwa [sN] at this
   have jM := aa fJ
   clear fJ o2 d0 d1 d2 d3 d4 d5 d6 d7
   go_upto_region 5 with fail
   refine wp_region_noPanic ?_
   refine bj (fun w' : World => Fr (ah A') wr w') 9 (by kernel_rfl) ((Fr.refl _ wr).drew) (fun dd => ?_)
   apply TB 5 [(0, []), (1, [1, 9]), (2, []), (3, [3, 9]), (4, [])]; kernel_rfl; rfl; · (repeat (apply ef; rfl; rfl; (· intro w aY; (try (have aY := aY.resolve_left (aF _ _); ((have s2 := aY.aZ Jg.out kS.out); (have b0 := aY.aZ vc.out D0.out); (have b1 := aY.aZ vc.out D1.out); (have b2 := aY.aZ vc.out D2.out); (have b3 := aY.aZ vc.out D3.out); (have b4 := aY.aZ vc.out D4.out); (have b5 := aY.aZ vc.out D5.out); (have b6 := aY.aZ vc.out D6.out); (have b7 := aY.aZ vc.out D7.out)))); go_simp <;> with_reducible rfl); try simp only [Act.put, q5, q6, q7])); exact ee
   exact dd; intro dd
   refine R2 5 (by kernel_rfl) (by rfl) dd fun K hK ap => ?_
   (go_simp; refine (KI.out _ (lR.out _ ap) k (by omega)).mono ?_; rintro e w5 ⟨rfl, dK⟩; have xz : Hid (w5.ownsRow 0 9 1 (.slice A' k c') k ((IN k).map sv)) := dK.own (by exact jM.out) (by simp); dsimp only)
   refine hK.out _ _ (.inr ?_) (fun zv => ?_)
   ·first | exact ap.ag jl | exact ap.trans dK (fun _ h => by cases h) | exact ap.alloc _ | exact ap
   clear hK K
   try simp only [Act.put, q5, q6, q7]
   refine R2 6 (by kernel_rfl) (by rfl) zv fun K hK ap => ?_
   go_simp
   refine hK.out _ _ (.inr ?_) (fun Cy => ?_)
   ·first | exact ap.ag jl | exact ap.trans dK (fun _ h => by cases h) | exact ap.alloc _ | exact ap
   clear hK K
   try simp only [Act.put, q5, q6, q7]
   refine R2 7 (by kernel_rfl) (by rfl) Cy fun K hK ap => ?_
   (refine lN rfl _ _ 30 rfl 9 (.string ⟨#[]⟩) 1 16 Tryz.underlying30 K9 rfl (by decide) A' c' k rfl ((IN k).map sv) ?Lo _ 1 rfl [sv (BI k)] rfl ?Iz ?UB (by unfold maxLen; omega) (by omega) ?_; (case Lo => first | exact World.ownsRow.alloc xz.out _ | exact xz.out); (case Iz => intro j u hj; match j, hj with | 0, hj => (simp at hj; subst hj; simp [dM, sv])); (case UB => intro u hu; simp at hu; subst hu; rfl); intro g3 BN w7 yA jl Ue)
   refine hK.out _ _ (.inr ?_) (fun Ml => ?_)
   ·first | exact ap.ag jl | exact ap.trans dK (fun _ h => by cases h) | exact ap.alloc _ | exact ap
   clear hK K
   try simp only [Act.put, q5, q6, q7]
   apply TB 1 [(8, [])]; kernel_rfl; rfl; · (repeat (apply ef; rfl; rfl; (· intro w aY; go_simp <;> with_reducible rfl); try simp only [Act.put, q5, q6, q7])); exact ee
   exact Ml; intro Ml
   refine R2 9 (by kernel_rfl) (by rfl) Ml fun K hK ap => ?_
   (have sb := ap.aZ Jg.out kS.out; have fb : World.frozen? _ _ = _ := (World.frozen?_of_block (ap.block o qN.out Jg.out)).trans cJ.out; go_simp)
   refine hK.out _ _ (.inl rfl) (fun ix => ?_)
   clear hK K
   try simp only [Act.put, q5, q6, q7]
   refine az (by kernel_rfl) ?_ _
   refine NoPanic.normal ?_
   obtain ⟨W, hW⟩ : ∃ W, w7.setCell ⟨o, 2, none⟩ (.slice (some ⟨g3, 0, none⟩) (k + 1) BN) = W := ⟨_, rfl⟩
   rw [hW]
   have F2 : Fr [o] w7 W := hW ▸ (Fr.refl _ w7).setCell (.inl (by simp)) _
   have HO8 : Hid (At W o 32 #[.int .i64 bad, .string ⟨st.toArray⟩, .slice (some ⟨g3, 0, none⟩) (k + 1) BN]) := by
    have := (ap.at_ HO.out Jg.out).cV 2 (.slice (some ⟨g3, 0, none⟩) (k + 1) BN)
    rw [hW] at this
    exact this
   have HG8 : Hid (o < g3) := (by
    rcases Ue with h | h
    ·exact HN.out _ h
    ·rw [h]
     have := dK.size
     have := qN.out
     simp at *
     omega : o < g3)
   have HN8 : Hid (∀ j ∈ ah (some (⟨g3, 0, none⟩ : Addr)), o < j) := (fun j hj => by simp [ah] at hj; subst hj; exact HG8.out)
   have HR8 := aa (F2.at_ (ap.at_ Gy.out QQ.out) (by have := Sg.out; simp; omega))
   have HX8 : Hid (Cx w W ⟨iA, iC, lA, lC, oA, oC, bA, bC, vA, vC, gA, gC, nA, nC⟩ ⟨mx, ins, aX, outs, aO, aN, au, bO⟩) := ⟨(lR.out w7 ap).trans F2 (fun j hj => .inr (by simp at hj; subst hj; exact HSO.out)), F2.at_ (ap.at_ eR.out.bx vc.out) (by have := Sg.out; simp; omega)⟩
   have HS8 : Hid (jg W (some ⟨g3, 0, none⟩) BN (IN (k + 1))) := by
    show jg _ _ _ _
    unfold jg
    rw [QZ.out, QY.out, bP]
    exact F2.own yA (fun j hj => by simp [Value.ownBlock] at hj; subst hj; have := HG8.out; simp; omega)
   clear hW F2 yA jl Ue ap
   go_wp2_with fail
   go_roundg (gk - 1)
   case measure => have := HK.out; omega
   case rel => exact ⟨k + 1, some ⟨g3, 0, none⟩, BN, by have := HK.out; omega, by go_num, HO8, HS8, HN8, HX8, HR8⟩
  ·obtain rfl : k = last + 1 := by omega
   have oz : ¬ (((last + 1 : Nat) : Int) ≤ (last : Int)) := by omega
   have o0 := HO.out.cell 0
   have o1 := HO.out.cell 1
   have o2 := HO.out.cell 2
   simp at o0 o1 o2
   clear HK
   have r0 := Gy.out.cell 0
   have r1 := Gy.out.cell 1
   have r2 := Gy.out.cell 2
   simp at r0 r1 r2
   have f0 := Gy.out.frozen 0
   have f1 := Gy.out.frozen 1
   have f2 := Gy.out.frozen 2
   go_upto_region 6 with fail
   go_wp2_with fail
   obtain ⟨W, hW⟩ : ∃ W, ((wr.setCell ⟨w.heap.size + 1, 0, none⟩ (.int .i64 bad)).setCell ⟨w.heap.size + 1, 1, none⟩ (.string ⟨st.toArray⟩)).setCell ⟨w.heap.size + 1, 2, none⟩ (.slice A' (last + 1) c') = W := ⟨_, rfl⟩
   rw [hW]
   have kk : At W (w.heap.size + 1) 32 #[.int .i64 bad, .string ⟨st.toArray⟩, .slice A' (last + 1) c'] := by
    have := ((Gy.out.cV 0 (.int .i64 bad)).cV 1 (.string ⟨st.toArray⟩)).cV 2 (.slice A' (last + 1) c')
    rw [hW] at this
    exact this
   have F2 : Fr [w.heap.size + 1] wr W := hW ▸ (((Fr.refl _ wr).setCell (.inl (by simp)) _).setCell (.inl (by simp)) _).setCell (.inl (by simp)) _
   have QQ : Hid (w.heap.size + 1 ∉ ah A') := (fun hm => by have := HN.out _ hm; have := Sg.out; omega)
   have FF := aa (HPA.out A' c' W (by
    have h1 := HS.out
    unfold jg at h1 ⊢
    exact F2.own h1 (fun j hj => by
     intro hm
     rw [an.1 hm] at hj
     refine QQ.out ?_
     cases A' with
     | none => cases hj
     | some ad => simp [Value.ownBlock] at hj; simp [ah]; exact hj.symm)) (fun j hj => by have := HN.out j hj; have := HSO.out; omega) (eR.out.fr.trans F2 (fun j hj => .inr (by rw [an.1 hj]; omega))))
   have e0 := kk.cell 0
   have e1 := kk.cell 1
   have e2 := kk.cell 2
   simp at e0 e1 e2
   clear hW F2 kk
   refine bodyPost_ret (v := .agg #[.int .i64 bad, .string ⟨st.toArray⟩, .slice A' (last + 1) c']) (by simp [results, go_sem, e0, e1, e2]) rfl ?_
   exact FF.out
structure Vd where
 kind : Int
 pb : Int
 st : List UInt8
 A : Option Addr
 n : Nat
 c : Nat
 used : Int
def fY (H : Qh) (q : Qn) (v : Vd) : Array Value :=
 #[.int .i64 q.C.mx, .slice H.H.iA q.C.ins.length H.H.iC, .slice H.H.lA q.C.aX.length H.H.lC, .slice H.H.oA q.C.outs.length H.H.oC, .slice H.H.bA q.C.aO.length H.H.bC, .slice H.H.vA q.C.aN.length H.H.vC, .slice H.H.gA q.C.au.length H.H.gC, .slice H.H.nA q.C.bO.length H.H.nC, .slice H.aA q.am.length H.aC, .slice H.lA q.ls.length H.lC, .slice H.kA q.ks.length H.kC, .int .i64 q.bad, .int .i64 q.dep, .int .i64 q.gT, .int .i64 v.kind, .int .i64 v.pb, sv v.st, .slice v.A v.n v.c, .slice none 0 0, .slice none 0 0, .int .i64 v.used]
theorem ue {w : World} {g : Nat} {H : Qh} {q : Qn} {v : Vd} (h : At w g 58 (fY H q v)) : w.cell? ⟨g, 0, none⟩ = some (.int .i64 q.C.mx) ∧ w.cell? ⟨g, 1, none⟩ = some (.slice H.H.iA q.C.ins.length H.H.iC) ∧ w.cell? ⟨g, 2, none⟩ = some (.slice H.H.lA q.C.aX.length H.H.lC) ∧ w.cell? ⟨g, 3, none⟩ = some (.slice H.H.oA q.C.outs.length H.H.oC) ∧ w.cell? ⟨g, 4, none⟩ = some (.slice H.H.bA q.C.aO.length H.H.bC) ∧ w.cell? ⟨g, 5, none⟩ = some (.slice H.H.vA q.C.aN.length H.H.vC) ∧ w.cell? ⟨g, 6, none⟩ = some (.slice H.H.gA q.C.au.length H.H.gC) ∧ w.cell? ⟨g, 7, none⟩ = some (.slice H.H.nA q.C.bO.length H.H.nC) ∧ w.cell? ⟨g, 8, none⟩ = some (.slice H.aA q.am.length H.aC) ∧ w.cell? ⟨g, 9, none⟩ = some (.slice H.lA q.ls.length H.lC) ∧ w.cell? ⟨g, 10, none⟩ = some (.slice H.kA q.ks.length H.kC) ∧ w.cell? ⟨g, 11, none⟩ = some (.int .i64 q.bad) ∧ w.cell? ⟨g, 12, none⟩ = some (.int .i64 q.dep) ∧ w.cell? ⟨g, 13, none⟩ = some (.int .i64 q.gT) ∧ w.cell? ⟨g, 14, none⟩ = some (.int .i64 v.kind) ∧ w.cell? ⟨g, 15, none⟩ = some (.int .i64 v.pb) ∧ w.cell? ⟨g, 16, none⟩ = some (sv v.st) ∧ w.cell? ⟨g, 17, none⟩ = some (.slice v.A v.n v.c) ∧ w.cell? ⟨g, 18, none⟩ = some (.slice none 0 0) ∧ w.cell? ⟨g, 19, none⟩ = some (.slice none 0 0) ∧ w.cell? ⟨g, 20, none⟩ = some (.int .i64 v.used) := by
 refine ⟨?_, ?_, ?_, ?_, ?_, ?_, ?_, ?_, ?_, ?_, ?_, ?_, ?_, ?_, ?_, ?_, ?_, ?_, ?_, ?_, ?_⟩ <;> (rw [h.cell]; rfl)
theorem Lf {w : World} {g : Nat} {x0 x1 x2 x3 x4 x5 x6 x7 x8 x9 wD xC NU NT x14 Wx Ol GH x18 x19 Q9 : Value} (h : At w g 58 #[x0, x1, x2, x3, x4, x5, x6, x7, x8, x9, wD, xC, NU, NT, x14, Wx, Ol, GH, x18, x19, Q9]) :
  w.cell? ⟨g, 0, none⟩ = some x0 ∧ w.cell? ⟨g, 1, none⟩ = some x1 ∧ w.cell? ⟨g, 2, none⟩ = some x2 ∧ w.cell? ⟨g, 3, none⟩ = some x3 ∧ w.cell? ⟨g, 4, none⟩ = some x4 ∧ w.cell? ⟨g, 5, none⟩ = some x5 ∧ w.cell? ⟨g, 6, none⟩ = some x6 ∧ w.cell? ⟨g, 7, none⟩ = some x7 ∧ w.cell? ⟨g, 11, none⟩ = some xC ∧ w.cell? ⟨g, 15, none⟩ = some Wx ∧ w.cell? ⟨g, 16, none⟩ = some Ol ∧ w.cell? ⟨g, 17, none⟩ = some GH := by
 refine ⟨?_, ?_, ?_, ?_, ?_, ?_, ?_, ?_, ?_, ?_, ?_, ?_⟩ <;> (rw [h.cell]; rfl)
theorem Do (w : World) (a : Nat) (H : Qh) (q : Qn) (v : Vd) (h : At w a 58 (fY H q v)) (hv : 0 ≤ v.used ∧ v.used ≤ q.gT ∧ q.gT ≤ 1099511627776) :
  Calls Tryz.prog 40 #[.pointer (some ⟨a, 0, none⟩)] w fun e w' => e = .returned (.int .i64 (q.gT - v.used)) ∧ Fr [] w w' := by
 obtain ⟨-, -, -, -, -, -, -, -, -, -, -, -, -, BO, -, -, -, -, -, -, c20⟩ := ue h
 have e13 := Ext.cell BO
 have e20 := Ext.cell c20
 have hw : IntKind.i64.wrap (q.gT - v.used) = q.gT - v.used := IntWalk.i64_in _ (by omega)
 clear h
 go_enter Tryz.func40, Tryz.ntmps40
 go_upto_region 1 with fail
 refine al (by kernel_rfl) (by kernel_rfl) ?_
 repeat (go_big_quiet_step (fail))
 refine wpQuiet_nil ?_
 rintro w2 ⟨u2, bJ⟩
 have aT : Hid (Fr [] w w2) := bJ ▸ u2.fr
 clear bJ u2
 go_wp2_with fail
 go_ret
 exact ⟨rfl, aT.out⟩
noncomputable def jG (q : Qn) (used : Int) (m : Nat) : Option (Sv × Int) :=
 Sv.lf (q.gT - used) [cT (eH q.C m) q.C.aO[q.bad.toNat]!] (zb q.C (q.am.map (·.l)) (m + 1) (m + 1))
def Vd.next (v : Vd) (q : Qn) (S : Sv) (r : Int) (m : Nat) (A : Option Addr) (c : Nat) : Vd :=
 if r = 1 then ⟨2, q.bad, Fw S q.C, A, m + 1, c, min (v.used + S.used) q.gT⟩ else { v with used := min (v.used + S.used) q.gT }
def ReP (w : World) (a : Nat) (H : Qh) (q : Qn) (v : Vd) (m : Nat) (S : Sv) (r : Int) (e : Ending) (w' : World) : Prop :=
 ∃ A c, e = .returned (.tuple #[.bool (r == 0 || r == 1), .int .i64 0]) ∧ At w' a 58 (fY H q (v.next q S r m A c)) ∧ Fr [a] w w' ∧ (r = 1 → jg w' A c (vm S q.C (m + 1)) ∧ ∀ k ∈ ah A, w.heap.size ≤ k)
theorem GN {w0 w W : World} {L : aH} {S : Sv} (h : Own w0 w L S) {vars V : Nat} (hk : S.gE vars 0 V) (hV : V ≤ 8388608) (hW : Fr [] w W) {A : Option Addr} {c : Nat} {us : List Int} (hi : Ints W A c us) (kG : ∀ k ∈ ah A, w.heap.size ≤ k) (oP : Ra us) (vo : us.length ≤ 1099511627776)
  {budget : Int} (hb : budget ≤ 1099511627776) :
  Calls Tryz.prog 39 #[.pointer (some ⟨L.a, 0, none⟩), .int .i64 budget, .slice A us.length c] W fun e w' => ∃ S1 r L1, Sv.lf budget us S = some (S1, r) ∧ Sv.Tx us vars S1 ∧ e = .returned (.int .i64 r) ∧ L1.a = L.a ∧ Own w0 w' L1 S1 := by
 have sl : us.length ≤ c := by
  rcases hi.form with ⟨_, h1, h2⟩ | ⟨g, _, _, h2, _⟩
  ·rw [h2]; exact bV _
  ·exact h2
 refine ((h.seal.keep hW).solve true (fun _ => yg) hk.inv.ok A c us ⟨hi.rd, fun _ k hk => aH.gJ (kG k hk)⟩ oP sl vo budget _ _ _ (by have := hk.used; omega) (Sv.Ow hk hb (by omega) hV oP vo)).mono ?_
 rintro e w' ⟨S1, r, ⟨k1, k2⟩, _, rfl, L1, k3, k4⟩
 exact ⟨S1, r, L1, k1, k2, rfl, k3, k4⟩
theorem Ac (w0 w : World) (a : Nat) (H : Qh) (q : Qn) (v : Vd) (IE : u5 w0 H q) (P8 : Fr [] w0 w) (V8 : w0.heap.size ≤ a) (hu : od q = 0) (hl : q.ls = []) (hk : q.ks = []) (kk : At w a 58 (fY H q v)) (m : Nat) (hm : m ≤ 79) (hb : eH q.C ((m + 1 : Nat) : Int) ≤ 262143) (hvu : 0 ≤ v.used ∧ v.used ≤ q.gT) :
  Calls Tryz.prog 21 #[.pointer (some ⟨a, 0, none⟩), .int .i64 ((m : Int) + 1)] w fun e w' => ∃ S r, jG q v.used m = some (S, r) ∧ ReP w a H q v m S r e w' := by
 have h := IE.keep P8
 have hal := kk.lt
 have Z7 := aa hal
 obtain ⟨hv, zu, uq⟩ := xH hu
 have UQ := vI w H q h hu hl hk (m + 1) (by omega) hb
 rw [show ((m + 1 : Nat) : Int) = (m : Int) + 1 by omega] at UQ
 have KSO := aa UQ
 clear UQ
 have KLE := aa (fun W (hW : Fr [] w W) => Do W a H q v (hW.at_ kk (by simp)) ⟨hvu.1, hvu.2, zu.2.2.2.2.2⟩)
 have KBA := aa (fun W (hW : Fr [] w W) => ml W H.H q.C (h.c.keep hW) hv m (by omega))
 have gU := p8 hv.m0 (f := (m : Int)) (by omega)
 have FU := fU hv.m0 (f := (m : Int)) (g := ((m + 1 : Nat) : Int)) (by omega)
 have Ql : q.bad.toNat < q.C.aO.length := by omega
 obtain ⟨bb, bo, bx, hbA, hbe, cbx, -⟩ := h.c.b.one h.c.br Ql
 have oG : 0 ≤ bx ∧ bx ≤ 2 * q.C.mx + 1 := by
  have h1 := hv.b
  unfold sz at h1
  rw [aD, List.all_eq_true] at h1
  rw [← hbe.out]
  exact jh hv (h1.1 _ (bw Ql))
 have lX := hv.m1
 have KLT := aa (fun W => qC W (eH q.C m) bx (by omega) (by omega))
 have qI : ((q.bad.toNat : Nat) : Int) = q.bad := by omega
 have vt := BV hv uq (ao (m + 1)) (by omega) hb
 have aew := pW hv uq.1 (m + 1)
 have bM := mK (b := eH q.C m) (l := bx) (by omega) (by omega)
 obtain ⟨ba, JK⟩ : ∃ ba, eH q.C (m : Int) = ba := ⟨_, rfl⟩
 have YK : jG q v.used m = Sv.lf (q.gT - v.used) [cT ba bx] (zb q.C (q.am.map (·.l)) (m + 1) (m + 1)) := by
  unfold jG
  rw [JK, hbe.out]
 rw [JK] at KBA KLT bM gU FU
 obtain ⟨lt, XY⟩ : ∃ lt, cT ba bx = lt := ⟨_, rfl⟩
 rw [XY] at KLT bM YK
 have hR : dB lt := ⟨by omega, by omega⟩
 have HRL := aa hR
 obtain ⟨RES, co⟩ : ∃ RES, jG q v.used m = RES := ⟨_, rfl⟩
 have KSV : Hid (∀ (w2 : World) (L2 : aH), Own w w2 L2 (zb q.C (q.am.map (·.l)) (m + 1) (m + 1)) → ∀ W, Fr [] w2 W → ∀ A c, Ints W A c [lt] → (∀ k ∈ ah A, w2.heap.size ≤ k) → Calls Tryz.prog 39 #[.pointer (some ⟨L2.a, 0, none⟩), .int .i64 (q.gT - v.used), .slice A 1 c] W fun e w' => ∃ S1 r L1, RES = some (S1, r) ∧ ((S1.has = true → S1.model.length = S1.vars + 1) ∧ S1.used < 4611686018427387904) ∧ e = .returned (.int .i64 r) ∧ L1.a = L2.a ∧ Own w w' L1 S1) := fun w2 L2 ho W hW A c hi kG => by
  refine (GN ho vt (by omega) hW hi kG (Kf hR) (by simp) (by omega)).mono ?_
  rintro e w' ⟨S1, r, L1, g1, g2, g3, g4, g5⟩
  exact ⟨S1, r, L1, by rw [← co, YK]; exact g1, ⟨g2.model, g2.used⟩, g3, g4, g5⟩
 obtain ⟨SB, hSB⟩ : ∃ SB, zb q.C (q.am.map (·.l)) (m + 1) (m + 1) = SB := ⟨_, rfl⟩
 rw [hSB] at KSV KSO
 have afF := ue kk
 have KPA : Hid (∀ (W : World) (L : aH) (S : Sv), aK W L S → (S.has = true → S.model.length = S.vars + 1) → Fr [a] w W → Calls Tryz.prog 43 #[.pointer (some ⟨L.a, 0, none⟩), dn H.H q.C, .int .i64 (m : Int), .int .i64 q.bad] W fun e w' => ∃ A c, e = .returned (.agg #[.int .i64 q.bad, sv (Fw S q.C), .slice A (m + 1) c]) ∧ jg w' A c (vm S q.C (m + 1)) ∧ (∀ k ∈ ah A, W.heap.size ≤ k) ∧ Fr [] W w') := fun W L S hs TR hW => Am W L S hs TR H.H q.C (IE.c.keep (P8.trans hW (fun k hk => .inr (by simp at hk; subst hk; exact V8)))) hv m hm q.bad
 have HR0 : Hid (∀ (S : Sv) (r : Int) (W : World) (b : Bool), r ≠ 1 → (r == 0) = b → At W a 58 (fY H q { v with used := min (v.used + S.used) q.gT }) → Fr [a] w W → ReP w a H q v m S r (.returned (.tuple #[.bool b, .int .i64 0])) W) := fun S r W b h1 h2 h3 h4 => ⟨none, 0, by rw [h2, show (r == 1) = false by simpa using h1, Bool.or_false], by unfold Vd.next; rw [if_neg h1]; exact h3, h4, fun e => absurd e h1⟩
 have oY : Hid (∀ (S : Sv) (W : World) (A : Option Addr) (c : Nat), At W a 58 (fY H q ⟨2, q.bad, Fw S q.C, A, m + 1, c, min (v.used + S.used) q.gT⟩) → Fr [a] w W → jg W A c (vm S q.C (m + 1)) → (∀ k ∈ ah A, w.heap.size ≤ k) → ReP w a H q v m S 1 (.returned (.tuple #[.bool true, .int .i64 0])) W) := fun S W A c h3 h4 h5 h6 => ⟨A, c, rfl, by unfold Vd.next; rw [if_pos rfl]; exact h3, h4, fun _ => ⟨h5, h6⟩⟩
 obtain ⟨RP, hRP⟩ : ∃ RP, ReP w a H q v m = RP := ⟨_, rfl⟩
 obtain ⟨ST, Bn⟩ : ∃ ST : Sv → List UInt8, (fun S => Fw S q.C) = ST := ⟨_, rfl⟩
 obtain ⟨IN, Bp⟩ : ∃ IN : Sv → Nat → List (List UInt8), (fun S => vm S q.C) = IN := ⟨_, rfl⟩
 have Bo : ∀ S, Fw S q.C = ST S := fun S => congrFun Bn S
 have yJ : ∀ S, vm S q.C = IN S := fun S => congrFun Bp S
 simp only [hRP, Bo, yJ] at HR0 oY KPA ⊢
 rw [co]
 have hmw : IntKind.i64.wrap ((m : Int) + 1 - 1) = (m : Int) := by rw [show (m : Int) + 1 - 1 = m by omega]; exact IntWalk.i64_in _ (by omega)
 have alG : IntKind.i64.wrap (m : Int) = (m : Int) := IntWalk.i64_in _ (by omega)
 have HVU := aa hvu
 have V6 := zu.2.2.2.2.2
 have amm : q.bad < (q.C.aO.length : Int) := zu.2.1
 have amo : 0 ≤ q.bad := zu.1
 have Z1 : Hid (w.cell? ⟨bb, bo + q.bad.toNat, none⟩ = some (.int .i64 bx)) := cbx
 obtain ⟨bn, aev⟩ : ∃ bn : Nat, q.bad = bn := ⟨q.bad.toNat, qI.symm⟩
 have hbt : q.bad.toNat = bn := by omega
 rw [hbt] at Z1
 have NR := aa kk
 clear h IE P8 V8 hal hu hv zu uq kk gU FU Ql hbe cbx oG lX qI vt aew bM JK YK XY hR co hSB hRP Bn Bp Bo yJ hb hbt
 obtain ⟨⟨mx, ins, aX, outs, aO, aN, au, bO⟩, am, ls, ks, bad, dep, gT⟩ := q
 obtain ⟨⟨iA, iC, lA, lC, oA, oC, bA, bC, vA, vC, gA, gC, nA, nC⟩, aA, aC, mA, mC, kA, kC⟩ := H
 obtain ⟨kd, pb, st, pA, pn, pc, us⟩ := v
 try simp only at hl hk
 subst hl hk
 simp only [qt, tI, dn, gH, fY, List.length_nil] at *
 subst aev hbA
 obtain ⟨c0, c1, c2, c3, c4, c5, c6, c7, c8, c9, N4, zz, zy, BO, JN, c15, Y3, c17, c18, c19, c20⟩ := afF
 simp only [sv] at Y3
 go_enter Tryz.func21, Tryz.ntmps21
 go_upto_region 1 with fail
 go_wp2_with fail
 refine KSO.out.mono ?_
 rintro e w2 ⟨L2, rfl, xh⟩
 have sB := aa xh
 have C0 := aa (xh.fr.av c0)
 have C1 := aa (xh.fr.av c1)
 have C2 := aa (xh.fr.av c2)
 have C3 := aa (xh.fr.av c3)
 have C4 := aa (xh.fr.av c4)
 have C5 := aa (xh.fr.av c5)
 have C6 := aa (xh.fr.av c6)
 have C7 := aa (xh.fr.av c7)
 have C8 := aa (xh.fr.av c8)
 have C9 := aa (xh.fr.av c9)
 have C10 := aa (xh.fr.av N4)
 have C11 := aa (xh.fr.av zz)
 have C12 := aa (xh.fr.av zy)
 have C13 := aa (xh.fr.av BO)
 have CB := aa (xh.fr.av Z1.out)
 clear xh KSO c0 c1 c2 c3 c4 c5 c6 c7 c8 c9 N4 zz zy BO JN c15 Y3 c17 c18 c19 c20
 go_upto_region 4 with fail
 refine wp_region_noPanic ?_
 refine bj (fun w' : World => Fr [] w2 w') 26 (by kernel_rfl) ((Fr.refl _ w2).drew) (fun dd => ?_)
 apply TB 22 [(0, []), (1, []), (3, []), (4, []), (5, []), (6, []), (7, [7, 10, 24, 26]), (8, []), (9, []), (11, []), (12, []), (13, []), (14, []), (15, []), (16, [16, 22, 23, 24, 26]), (17, []), (18, []), (19, []), (20, []), (21, [21, 22, 23, 24, 26]), (22, []), (23, [23, 24, 26])]; kernel_rfl; rfl; · (repeat (apply ef; rfl; rfl; (· intro w aY; (try (have aY := aY.resolve_left (aF _ _); ((have s0 := aY.av C0.out); (have s1 := aY.av C1.out); (have s2 := aY.av C2.out); (have s3 := aY.av C3.out); (have s4 := aY.av C4.out); (have s5 := aY.av C5.out); (have s6 := aY.av C6.out); (have s7 := aY.av C7.out); (have s8 := aY.av C8.out); (have s9 := aY.av C9.out); (have s10 := aY.av C10.out); (have s11 := aY.av C11.out); (have s12 := aY.av C12.out); (have s13 := aY.av C13.out); (have sb := aY.av CB.out)))); go_simp <;> with_reducible rfl); try simp only [Act.put, q5, q6, q7])); exact ee
 exact dd; intro dd
 refine R2 2 (by kernel_rfl) (by rfl) dd fun K hK ap => ?_
 (go_simp; refine (KLE.out _ (sB.out.fr.ag ap)).mono ?_; rintro e w3 ⟨rfl, cY⟩; dsimp only)
 refine hK.out _ _ (.inr ?_) (fun vS => ?_)
 ·first | exact ap.ag eF | exact ap.ag cY | exact ap.alloc _ | exact ap
 clear hK K
 try simp only [Act.put, q5, q6, q7]
 refine R2 10 (by kernel_rfl) (by rfl) vS fun K hK ap => ?_
 (go_simp; refine (KBA.out _ (sB.out.fr.ag ap)).mono ?_; rintro e w4 ⟨rfl, eF⟩; dsimp only)
 refine hK.out _ _ (.inr ?_) (fun aeN => ?_)
 ·first | exact ap.ag eF | exact ap.ag cY | exact ap.alloc _ | exact ap
 clear hK K
 try simp only [Act.put, q5, q6, q7]
 refine R2 24 (by kernel_rfl) (by rfl) aeN fun K hK ap => ?_
 (go_simp; refine (KLT.out _).mono ?_; rintro e w5 ⟨rfl, rfl⟩; dsimp only)
 refine hK.out _ _ (.inr ?_) (fun aeM => ?_)
 ·first | exact ap.ag eF | exact ap.ag cY | exact ap.alloc _ | exact ap
 clear hK K
 try simp only [Act.put, q5, q6, q7]
 refine R2 25 (by kernel_rfl) (by rfl) aeM fun K hK ap => ?_
 (have U6 := aa ap.size; go_simp)
 refine hK.out _ _ (.inr ?_) (fun aeL => ?_)
 ·first | exact ap.ag eF | exact ap.ag cY | exact ap.alloc _ | exact ap
 clear hK K
 try simp only [Act.put, q5, q6, q7]
 refine R2 26 (by kernel_rfl) (by rfl) aeL fun K hK ap => ?_
 (go_simp; refine (KSV.out w2 L2 sB.out _ ap _ _ (gM _ [lt] (by simp [maxLen])) (fun j hj => by simp [ah] at hj; subst hj; exact U6.out)).mono ?_; rintro e w6 ⟨S1, r, L1, g1, ⟨g2, g3⟩, rfl, g4, g5⟩; dsimp only)
 refine hK.out _ _ (.inl rfl) (fun amt => ?_)
 clear hK K
 try simp only [Act.put, q5, q6, q7]
 refine R1 (i := 27) (o := ?acq) (by kernel_rfl) (by rfl) ?_
 intro K hK
 go_simp
 refine hK.out _ _ (.inl rfl) (fun ams => ?_)
 clear hK K
 try simp only [Act.put, q5, q6, q7]
 refine az (by kernel_rfl) ?_ _
 refine NoPanic.normal ?_
 have Wm := aa g1
 have rN := aa g2
 have te := aa g5
 have yC := g3
 have GD := aa (g5.fr.at_ NR.out (by simp))
 have KUS : Hid (∀ W, Fr [] w6 W → Calls Tryz.prog 42 #[.pointer (some ⟨L2.a, 0, none⟩)] W fun e w' => e = .returned (.int .i64 S1.used) ∧ W = w') := fun W hW => g4 ▸ CP W L1 S1 (g5.sv.keep hW)
 have KPP : Hid (∀ W, aK W L1 S1 → Fr [a] w W → Calls Tryz.prog 43 #[.pointer (some ⟨L2.a, 0, none⟩), .agg #[.int .i64 mx, .slice iA ins.length iC, .slice lA aX.length lC, .slice oA outs.length oC, .slice (some ⟨bb, bo, none⟩) aO.length bC, .slice vA aN.length vC, .slice gA au.length gC, .slice nA bO.length nC], .int .i64 (m : Int), .int .i64 (bn : Int)] W fun e w' => ∃ A c, e = .returned (.agg #[.int .i64 (bn : Int), .string ⟨(ST S1).toArray⟩, .slice A (m + 1) c]) ∧ jg w' A c (IN S1 (m + 1)) ∧ (∀ k ∈ ah A, W.heap.size ≤ k) ∧ Fr [] W w') := fun W h1 h2 => g4 ▸ KPA.out W L1 S1 h1 g2 h2
 have S9 : IntKind.i64.wrap (us + (S1.used : Int)) = us + S1.used := IntWalk.i64_in _ (by have := HVU.out; omega)
 have C13 := aa (by have := GD.out.cell 13; simpa using this : w6.cell? ⟨a, 13, none⟩ = some (.int .i64 gT))
 have C20 := aa (by have := GD.out.cell 20; simpa using this : w6.cell? ⟨a, 20, none⟩ = some (.int .i64 us))
 have F20 := aa (GD.out.frozen 20)
 have HAL := aa GD.out.lt
 clear g1 g2 g3 g4 g5 ap C0 C1 C2 C3 C4 C5 C6 C7 C8 C9 C10 C11 C12 CB
 go_upto_region 5 with fail
 refine wp_region_noPanic ?_
 refine bj (fun w' : World => Fr [] w6 w') 18 (by kernel_rfl) ((Fr.refl _ w6).drew) (fun dd => ?_)
 apply TB 12 [(0, []), (1, []), (2, []), (3, []), (4, []), (5, [5, 18]), (6, []), (9, []), (10, []), (11, []), (12, []), (13, [13, 18])]; kernel_rfl; rfl; · (repeat (apply ef; rfl; rfl; (· intro w aY; (try (have aY := aY.resolve_left (aF _ _); ((have s13 := aY.av C13.out); (have s20 := aY.av C20.out)))); go_simp <;> with_reducible rfl); try simp only [Act.put, q5, q6, q7])); exact ee
 exact dd; intro dd
 refine R2 7 (by kernel_rfl) (by rfl) dd fun K hK ap => ?_
 (go_simp; refine (KUS.out _ ap).mono ?_; rintro e w7 ⟨rfl, rfl⟩; dsimp only)
 refine hK.out _ _ (.inr ?_) (fun iu => ?_)
 ·exact ap
 clear hK K
 try simp only [Act.put, q5, q6, q7]
 apply TB 5 [(8, []), (14, []), (15, []), (16, []), (17, [])]; kernel_rfl; rfl; · (repeat (apply ef; rfl; rfl; (· intro w aY; go_simp <;> with_reducible rfl); try simp only [Act.put, q5, q6, q7])); exact ee
 exact iu; intro iu
 refine R2 18 (by kernel_rfl) (by rfl) iu fun K hK ap => ?_
 (have sb := ap.av C20.out; have fb : World.frozen? _ _ = _ := (World.frozen?_of_block (ap.block a HAL.out (by simp))).trans F20.out; go_simp)
 refine hK.out _ _ (.inl rfl) (fun aeO => ?_)
 clear hK K
 try simp only [Act.put, q5, q6, q7]
 refine az (by kernel_rfl) ?_ _
 refine NoPanic.normal ?_
 obtain ⟨W8, N2⟩ : ∃ W, (w6.setCell ⟨a, 20, none⟩ (.int .i64 (min (us + (S1.used : Int)) gT))).drew = W := ⟨_, rfl⟩
 rw [N2]
 have kh : Fr [a] w6 W8 := N2 ▸ ((Fr.refl _ w6).setCell (.inl (by simp)) _).drew
 have Ws : Hid (At W8 a 58 #[.int .i64 mx, .slice iA ins.length iC, .slice lA aX.length lC, .slice oA outs.length oC, .slice (some ⟨bb, bo, none⟩) aO.length bC, .slice vA aN.length vC, .slice gA au.length gC, .slice nA bO.length nC, .slice aA am.length aC, .slice mA 0 mC, .slice kA 0 kC, .int .i64 bn, .int .i64 dep, .int .i64 gT, .int .i64 kd, .int .i64 pb, sv st, .slice pA pn pc, .slice none 0 0, .slice none 0 0, .int .i64 (min (us + (S1.used : Int)) gT)]) := by
  have := (GD.out.cV 20 (.int .i64 (min (us + (S1.used : Int)) gT))).drew
  rw [N2] at this
  exact this
 have HS8 : Hid (aK W8 L1 S1) := te.out.sv.fr kh (fun k hk _ => by simp at hk; subst hk; exact te.out.nw _ Z7.out)
 have GB : Hid (Fr [a] w W8) := (te.out.fr.mono (fun _ h => by cases h)).ag kh
 clear N2 kh ap C13 C20 F20 S9 GD
 by_cases gU : r = 0
 ·subst gU
  have FF := aa (HR0.out S1 0 W8 true (by decide) rfl Ws.out GB.out)
  go_wp2_with fail
  go_ret2
  exact ⟨S1, 0, Wm.out, FF.out⟩
 ·have d0 : (r == (0 : Int)) = false := by simpa using gU
  by_cases FU : r = 1
  ·subst FU
   have JN := Ws.out.cell 14
   simp at JN
   have f14 := Ws.out.frozen 14
   clear gU
   go_upto_region 11 with fail
   obtain ⟨W9, hW9⟩ : ∃ W, W8.setCell ⟨a, 14, none⟩ (.int .i64 2) = W := ⟨_, rfl⟩
   rw [hW9]
   have sh : Fr [a] W8 W9 := hW9 ▸ (Fr.refl _ W8).setCell (.inl (by simp)) _
   have Sy : Hid (At W9 a 58 #[.int .i64 mx, .slice iA ins.length iC, .slice lA aX.length lC, .slice oA outs.length oC, .slice (some ⟨bb, bo, none⟩) aO.length bC, .slice vA aN.length vC, .slice gA au.length gC, .slice nA bO.length nC, .slice aA am.length aC, .slice mA 0 mC, .slice kA 0 kC, .int .i64 bn, .int .i64 dep, .int .i64 gT, .int .i64 2, .int .i64 pb, sv st, .slice pA pn pc, .slice none 0 0, .slice none 0 0, .int .i64 (min (us + (S1.used : Int)) gT)]) := by
    have := Ws.out.cV 14 (.int .i64 2)
    rw [hW9] at this
    exact this
   have HS9 : Hid (aK W9 L1 S1) := HS8.out.fr sh (fun k hk _ => by simp at hk; subst hk; exact te.out.nw _ Z7.out)
   have vf : Hid (Fr [a] w W9) := GB.out.ag sh
   have hc := Lf Sy.out
   obtain ⟨c0, c1, c2, c3, c4, c5, c6, c7, zz, c15, Y3, c17⟩ := hc
   have C0 := aa c0
   have C1 := aa c1
   have C2 := aa c2
   have C3 := aa c3
   have C4 := aa c4
   have C5 := aa c5
   have C6 := aa c6
   have C7 := aa c7
   have C11 := aa zz
   have C15 := aa c15
   have C16 := aa Y3
   have C17 := aa c17
   have F15 := aa (Sy.out.frozen 15)
   have F16 := aa (Sy.out.frozen 16)
   have F17 := aa (Sy.out.frozen 17)
   have Q6 := aa Sy.out.lt
   clear hW9 sh c0 c1 c2 c3 c4 c5 c6 c7 zz c15 Y3 c17 JN f14 Ws HS8 GB
   refine wp_region_noPanic ?_
   refine bj (fun w' : World => Fr [] W9 w') 18 (by kernel_rfl) ((Fr.refl _ W9).drew) (fun dd => ?_)
   apply TB 14 [(0, []), (1, []), (2, []), (3, []), (4, []), (5, []), (6, [6, 18]), (7, []), (8, []), (9, []), (10, []), (11, []), (12, []), (13, [13, 18])]; kernel_rfl; rfl; · (repeat (apply ef; rfl; rfl; (· intro w aY; (try (have aY := aY.resolve_left (aF _ _); ((have s0 := aY.av C0.out); (have s1 := aY.av C1.out); (have s2 := aY.av C2.out); (have s3 := aY.av C3.out); (have s4 := aY.av C4.out); (have s5 := aY.av C5.out); (have s6 := aY.av C6.out); (have s7 := aY.av C7.out); (have s11 := aY.av C11.out)))); go_simp <;> with_reducible rfl); try simp only [Act.put, q5, q6, q7])); exact ee
   exact dd; intro dd
   refine R2 14 (by kernel_rfl) (by rfl) dd fun K hK ap => ?_
   (go_simp; refine (KPP.out _ (HS9.out.keep ap) (vf.out.trans ap (fun _ h => by cases h))).mono ?_; rintro e w10 ⟨Wt, N4, rfl, XK, AS, Ys⟩; dsimp only)
   refine hK.out _ _ (.inr ?_) (fun Qo => ?_)
   ·first | exact ap.ag Ys | exact ap
   clear hK K
   try simp only [Act.put, q5, q6, q7]
   apply TB 3 [(15, []), (16, []), (17, [])]; kernel_rfl; rfl; · (repeat (apply ef; rfl; rfl; (· intro w aY; go_simp <;> with_reducible rfl); try simp only [Act.put, q5, q6, q7])); exact ee
   exact Qo; intro Qo
   refine R2 18 (by kernel_rfl) (by rfl) Qo fun K hK ap => ?_
   (have s15 := ap.av C15.out; have s16 := ap.av C16.out; have s17 := ap.av C17.out; have g15 : World.frozen? _ _ = _ := (World.frozen?_of_block (ap.block a Q6.out (by simp))).trans F15.out; have g16 : World.frozen? _ _ = _ := (World.frozen?_of_block (ap.block a Q6.out (by simp))).trans F16.out; have g17 : World.frozen? _ _ = _ := (World.frozen?_of_block (ap.block a Q6.out (by simp))).trans F17.out; go_simp)
   refine hK.out _ _ (.inl rfl) (fun aeO => ?_)
   clear hK K
   try simp only [Act.put, q5, q6, q7]
   refine az (by kernel_rfl) ?_ _
   refine NoPanic.normal ?_
   obtain ⟨W11, hW⟩ : ∃ W, ((w10.setCell ⟨a, 15, none⟩ (.int .i64 (bn : Int))).setCell ⟨a, 16, none⟩ (.string ⟨(ST S1).toArray⟩)).setCell ⟨a, 17, none⟩ (.slice Wt (m + 1) N4) = W := ⟨_, rfl⟩
   rw [hW]
   have kk : At W11 a 58 #[.int .i64 mx, .slice iA ins.length iC, .slice lA aX.length lC, .slice oA outs.length oC, .slice (some ⟨bb, bo, none⟩) aO.length bC, .slice vA aN.length vC, .slice gA au.length gC, .slice nA bO.length nC, .slice aA am.length aC, .slice mA 0 mC, .slice kA 0 kC, .int .i64 bn, .int .i64 dep, .int .i64 gT, .int .i64 2, .int .i64 bn, sv (ST S1), .slice Wt (m + 1) N4, .slice none 0 0, .slice none 0 0, .int .i64 (min (us + (S1.used : Int)) gT)] := by
    have := (((ap.at_ Sy.out (by simp)).cV 15 (.int .i64 (bn : Int))).cV 16 (.string ⟨(ST S1).toArray⟩)).cV 17 (.slice Wt (m + 1) N4)
    rw [hW] at this
    exact this
   have hf : Fr [a] w10 W11 := hW ▸ (((Fr.refl _ w10).setCell (.inl (by simp)) _).setCell (.inl (by simp)) _).setCell (.inl (by simp)) _
   have RJ : ∀ k ∈ ah Wt, W9.heap.size ≤ k := fun k hk => AS k hk
   have FF := aa (oY.out S1 W11 Wt N4 kk ((vf.out.trans ap (fun _ h => by cases h)).ag hf) (hf.own XK (fun j hj hm => by
    rw [an.1 hm] at hj
    have hla := Q6.out
    cases Wt with
    | none => cases hj
    | some ad =>
     have : a ∈ ah (some ad) := by simp [Value.ownBlock] at hj; simp [ah]; exact hj.symm
     have := RJ a this
     omega)) (fun k hk => aE vf.out.size (RJ k hk)))
   clear hW kk hf RJ AS XK Ys
   go_wp2_with fail
   go_ret2
   exact ⟨S1, 1, Wm.out, FF.out⟩
  ·have d1 : (r == (1 : Int)) = false := by simpa using FU
   have FF := aa (HR0.out S1 r W8 false FU d0 Ws.out GB.out)
   go_wp2_with fail
   go_ret2
   exact ⟨S1, r, Wm.out, FF.out⟩
noncomputable def gV (q : Qn) : Nat → Nat → Int → Option (Option (Sv × Nat) × Int)
 | 0, _, us => some (none, us)
 | f + 1, m, us =>
  match jG q us m with
  | none => none
  | some (S, r) =>
   if r = 1 then some (some (S, m), min (us + S.used) q.gT)
   else if r = 0 then some (none, min (us + S.used) q.gT)
   else gV q f (m + 1) (min (us + S.used) q.gT)
theorem kM {q : Qn} {f m : Nat} {us : Int} {S : Sv} {r : Int} (h : jG q us m = some (S, r)) :
  gV q (f + 1) m us = if r = 1 then some (some (S, m), min (us + S.used) q.gT) else if r = 0 then some (none, min (us + S.used) q.gT) else gV q f (m + 1) (min (us + S.used) q.gT) := by
 rw [gV, h]
def tn (kind pb : Int) (st : List UInt8) (A : Option Addr) (n c : Nat) (us : Int) : Value :=
 .agg #[.int .i64 kind, .int .i64 pb, .string ⟨st.toArray⟩, .slice A n c, .slice none 0 0, .slice none 0 0, .int .i64 us]
def BcP (q : Qn) (w : World) (e : Ending) (w' : World) : Prop :=
 Fr [] w w' ∧ ∃ xq us, gV q (q.dep.toNat + 1) 0 0 = some (xq, us) ∧
  match xq with
  | none => e = .returned (.tuple #[tn 0 0 [] none 0 0 us, .int .i64 0])
  | some (S, m) => ∃ A c, e = .returned (.tuple #[tn 2 q.bad (Fw S q.C) A (m + 1) c us, .int .i64 0]) ∧ jg w' A c (vm S q.C (m + 1))
theorem R7 {w : World} {g : Nat} {t : TypeId} {x0 x1 x2 x3 x4 x5 x6 x7 x8 x9 wD xC NU NT : Value} (h : At w g t #[x0, x1, x2, x3, x4, x5, x6, x7, x8, x9, wD, xC, NU, NT]) :
  w.cell? ⟨g, 0, none⟩ = some x0 ∧ w.cell? ⟨g, 1, none⟩ = some x1 ∧ w.cell? ⟨g, 2, none⟩ = some x2 ∧ w.cell? ⟨g, 3, none⟩ = some x3 ∧ w.cell? ⟨g, 4, none⟩ = some x4 ∧ w.cell? ⟨g, 5, none⟩ = some x5 ∧ w.cell? ⟨g, 6, none⟩ = some x6 ∧ w.cell? ⟨g, 7, none⟩ = some x7 ∧
  w.cell? ⟨g, 8, none⟩ = some x8 ∧ w.cell? ⟨g, 9, none⟩ = some x9 ∧ w.cell? ⟨g, 10, none⟩ = some wD ∧ w.cell? ⟨g, 11, none⟩ = some xC ∧ w.cell? ⟨g, 12, none⟩ = some NU ∧ w.cell? ⟨g, 13, none⟩ = some NT := by
 refine ⟨?_, ?_, ?_, ?_, ?_, ?_, ?_, ?_, ?_, ?_, ?_, ?_, ?_, ?_⟩ <;> (rw [h.cell]; rfl)
theorem iT {w : World} {g : Nat} {t : TypeId} {x0 x1 x2 x3 x4 x5 x6 : Value} (h : At w g t #[x0, x1, x2, x3, x4, x5, x6]) :
  w.cell? ⟨g, 0, none⟩ = some x0 ∧ w.cell? ⟨g, 1, none⟩ = some x1 ∧ w.cell? ⟨g, 2, none⟩ = some x2 ∧ w.cell? ⟨g, 3, none⟩ = some x3 ∧ w.cell? ⟨g, 4, none⟩ = some x4 ∧ w.cell? ⟨g, 5, none⟩ = some x5 ∧ w.cell? ⟨g, 6, none⟩ = some x6 := by
 refine ⟨?_, ?_, ?_, ?_, ?_, ?_, ?_⟩ <;> (rw [h.cell]; rfl)
theorem ud {w : World} {g : Nat} {x0 x1 x2 x3 x4 x5 x6 x7 x8 x9 wD xC NU NT x14 Wx Ol GH x18 x19 Q9 : Value} (h : At w g 58 #[x0, x1, x2, x3, x4, x5, x6, x7, x8, x9, wD, xC, NU, NT, x14, Wx, Ol, GH, x18, x19, Q9]) :
  w.cell? ⟨g, 14, none⟩ = some x14 ∧ w.cell? ⟨g, 15, none⟩ = some Wx ∧ w.cell? ⟨g, 16, none⟩ = some Ol ∧ w.cell? ⟨g, 17, none⟩ = some GH ∧ w.cell? ⟨g, 18, none⟩ = some x18 ∧ w.cell? ⟨g, 19, none⟩ = some x19 ∧ w.cell? ⟨g, 20, none⟩ = some Q9 := by
 refine ⟨?_, ?_, ?_, ?_, ?_, ?_, ?_⟩ <;> (rw [h.cell]; rfl)
theorem Oy {w : World} {g : Nat} {t : TypeId} {x0 x1 x2 x3 x4 x5 x6 : Value} (h : At w g t #[x0, x1, x2, x3, x4, x5, x6]) (y0 y1 y2 y3 y4 y5 y6 : Value) :
  ∃ W, ((((((w.setCell ⟨g, 0, none⟩ y0).setCell ⟨g, 1, none⟩ y1).setCell ⟨g, 2, none⟩ y2).setCell ⟨g, 3, none⟩ y3).setCell ⟨g, 4, none⟩ y4).setCell ⟨g, 5, none⟩ y5).setCell ⟨g, 6, none⟩ y6 = W ∧ Fr [g] w W ∧
   W.cell? ⟨g, 0, none⟩ = some y0 ∧ W.cell? ⟨g, 1, none⟩ = some y1 ∧ W.cell? ⟨g, 2, none⟩ = some y2 ∧ W.cell? ⟨g, 3, none⟩ = some y3 ∧ W.cell? ⟨g, 4, none⟩ = some y4 ∧ W.cell? ⟨g, 5, none⟩ = some y5 ∧ W.cell? ⟨g, 6, none⟩ = some y6 := by
 have h0 : At (w.setCell ⟨g, 0, none⟩ y0) g t #[y0, x1, x2, x3, x4, x5, x6] := h.cV 0 y0
 have h1 : At ((w.setCell ⟨g, 0, none⟩ y0).setCell ⟨g, 1, none⟩ y1) g t #[y0, y1, x2, x3, x4, x5, x6] := h0.cV 1 y1
 have h2 : At (((w.setCell ⟨g, 0, none⟩ y0).setCell ⟨g, 1, none⟩ y1).setCell ⟨g, 2, none⟩ y2) g t #[y0, y1, y2, x3, x4, x5, x6] := h1.cV 2 y2
 have h3 : At ((((w.setCell ⟨g, 0, none⟩ y0).setCell ⟨g, 1, none⟩ y1).setCell ⟨g, 2, none⟩ y2).setCell ⟨g, 3, none⟩ y3) g t #[y0, y1, y2, y3, x4, x5, x6] := h2.cV 3 y3
 have h4 : At (((((w.setCell ⟨g, 0, none⟩ y0).setCell ⟨g, 1, none⟩ y1).setCell ⟨g, 2, none⟩ y2).setCell ⟨g, 3, none⟩ y3).setCell ⟨g, 4, none⟩ y4) g t #[y0, y1, y2, y3, y4, x5, x6] := h3.cV 4 y4
 have h5 : At ((((((w.setCell ⟨g, 0, none⟩ y0).setCell ⟨g, 1, none⟩ y1).setCell ⟨g, 2, none⟩ y2).setCell ⟨g, 3, none⟩ y3).setCell ⟨g, 4, none⟩ y4).setCell ⟨g, 5, none⟩ y5) g t #[y0, y1, y2, y3, y4, y5, x6] := h4.cV 5 y5
 have h6 : At (((((((w.setCell ⟨g, 0, none⟩ y0).setCell ⟨g, 1, none⟩ y1).setCell ⟨g, 2, none⟩ y2).setCell ⟨g, 3, none⟩ y3).setCell ⟨g, 4, none⟩ y4).setCell ⟨g, 5, none⟩ y5).setCell ⟨g, 6, none⟩ y6) g t #[y0, y1, y2, y3, y4, y5, y6] := h5.cV 6 y6
 obtain ⟨W, hW⟩ : ∃ W, ((((((w.setCell ⟨g, 0, none⟩ y0).setCell ⟨g, 1, none⟩ y1).setCell ⟨g, 2, none⟩ y2).setCell ⟨g, 3, none⟩ y3).setCell ⟨g, 4, none⟩ y4).setCell ⟨g, 5, none⟩ y5).setCell ⟨g, 6, none⟩ y6 = W := ⟨_, rfl⟩
 rw [hW] at h6
 have hf : Fr [g] w W := hW ▸ (((((((Fr.refl _ w).setCell (.inl (by simp)) _).setCell (.inl (by simp)) _).setCell (.inl (by simp)) _).setCell (.inl (by simp)) _).setCell (.inl (by simp)) _).setCell (.inl (by simp)) _).setCell (.inl (by simp)) _
 exact ⟨W, hW, hf, by rw [h6.cell]; rfl, by rw [h6.cell]; rfl, by rw [h6.cell]; rfl, by rw [h6.cell]; rfl, by rw [h6.cell]; rfl, by rw [h6.cell]; rfl, by rw [h6.cell]; rfl⟩
theorem IX (w : World) (H : Qh) (q : Qn) (h : u5 w H q) (hu : od q ≠ 0) :
  Calls Tryz.prog 6 #[qt H q] w fun e w' => e = .returned (.tuple #[tn 0 0 [] none 0 0 0, .int .i64 (od q)]) ∧ Fr [] w w' := by
 obtain ⟨w1, ep⟩ : ∃ W, w.alloc (.cells (tI H q) 40) = W := ⟨_, rfl⟩
 have cE : Fr [] w w1 := ep ▸ aP _ _
 have E4 : At w1 w.heap.size 40 (tI H q) := ep ▸ At.new _ _ _
 obtain ⟨w2, kD⟩ : ∃ W, w1.alloc (.cells #[.int .i64 0, .int .i64 0, .string ⟨#[]⟩, .slice none 0 0, .slice none 0 0, .slice none 0 0, .int .i64 0] 35) = W := ⟨_, rfl⟩
 have cd : Fr [] w1 w2 := kD ▸ aP _ _
 have qi : Hid (At w2 w1.heap.size 35 #[.int .i64 0, .int .i64 0, .string ⟨#[]⟩, .slice none 0 0, .slice none 0 0, .slice none 0 0, .int .i64 0]) := kD ▸ At.new _ _ _
 have kX : w1.heap.size = w.heap.size + 1 := by rw [← ep]; simp
 rw [kX] at qi
 have KC := aa (kY w2 H q (h.keep (cE.ag cd)))
 have cJ := aa (cE.ag cd)
 obtain ⟨u, hue⟩ : ∃ u, od q = u := ⟨_, rfl⟩
 rw [hue] at KC hu ⊢
 have d0 : (u != (0 : Int)) = true := by simpa using hu
 have HQ := om (E4.keep cd)
 have HB : Hid (w1.heap.size = w.heap.size + 1) := kX
 clear h hu hue cE cd E4
 obtain ⟨⟨mx, ins, aX, outs, aO, aN, au, bO⟩, am, ls, ks, bad, dep, gT⟩ := q
 obtain ⟨⟨iA, iC, lA, lC, oA, oC, bA, bC, vA, vC, gA, gC, nA, nC⟩, aA, aC, mA, mC, kA, kC⟩ := H
 simp only [qt, tI] at *
 obtain ⟨q0, q1, q2, q3, q4, q5, q6, q7, q8, q9, lT, mG, mc, mF⟩ := HQ
 go_enter Tryz.func6, Tryz.ntmps6
 go_wp2_with fail
 refine KC.out.mono ?_
 rintro e w3 ⟨rfl, cY⟩
 have cR := aa (cJ.out.ag cY)
 have oX := aa (qi.out.keep cY)
 clear cY q0 q1 q2 q3 q4 q5 q6 q7 q8 q9 lT mG mc mF KC ep kD
 have r0 := oX.out.cell 0
 have r1 := oX.out.cell 1
 have r2 := oX.out.cell 2
 have r3 := oX.out.cell 3
 have r4 := oX.out.cell 4
 have r5 := oX.out.cell 5
 have r6 := oX.out.cell 6
 simp at r0 r1 r2 r3 r4 r5 r6
 have f0 := oX.out.frozen 0
 have f1 := oX.out.frozen 1
 have f2 := oX.out.frozen 2
 have f3 := oX.out.frozen 3
 have f4 := oX.out.frozen 4
 have f5 := oX.out.frozen 5
 have f6 := oX.out.frozen 6
 go_wp2_with fail
 obtain ⟨W, hW, LT, e0, e1, e2, e3, e4, e5, e6⟩ := Oy oX.out (.int .i64 0) (.int .i64 0) (.string ⟨#[]⟩) (.slice none 0 0) (.slice none 0 0) (.slice none 0 0) (.int .i64 0)
 rw [hW]
 refine bodyPost_ret (v := .tuple #[tn 0 0 [] none 0 0 0, .int .i64 u]) (by simp [results, go_sem, e0, e1, e2, e3, e4, e5, e6, tn]) rfl ?_
 exact ⟨rfl, cR.out.trans LT (fun k hk => .inr (by simp at hk; omega))⟩
theorem xu (w : World) (H : Qh) (q : Qn) (h : u5 w H q) (hu : od q = 0) (hl : q.ls = []) (hk : q.ks = []) (hdp : q.dep ≤ 70) (hb : eH q.C (q.dep + 1) ≤ 262143) :
  Calls Tryz.prog 6 #[qt H q] w (BcP q w) := by
 obtain ⟨hv, zu, uq⟩ := xH hu
 obtain ⟨d, hd⟩ : ∃ d : Nat, q.dep = d := ⟨q.dep.toNat, by omega⟩
 have hdt : q.dep.toNat = d := by omega
 obtain ⟨w1, ep⟩ : ∃ W, w.alloc (.cells (tI H q) 40) = W := ⟨_, rfl⟩
 have cE : Fr [] w w1 := ep ▸ aP _ _
 have E4 : At w1 w.heap.size 40 (tI H q) := ep ▸ At.new _ _ _
 obtain ⟨w2, kD⟩ : ∃ W, w1.alloc (.cells #[.int .i64 0, .int .i64 0, .string ⟨#[]⟩, .slice none 0 0, .slice none 0 0, .slice none 0 0, .int .i64 0] 35) = W := ⟨_, rfl⟩
 have cd : Fr [] w1 w2 := kD ▸ aP _ _
 have qi : Hid (At w2 w1.heap.size 35 #[.int .i64 0, .int .i64 0, .string ⟨#[]⟩, .slice none 0 0, .slice none 0 0, .slice none 0 0, .int .i64 0]) := kD ▸ At.new _ _ _
 have kX : w1.heap.size = w.heap.size + 1 := by rw [← ep]; simp
 rw [kX] at qi
 have cJ := aa (cE.ag cd)
 have KC := kY w2 H q (h.keep cJ.out)
 rw [hu] at KC
 have KC := aa KC
 have KV := aa (fun W (hW : Fr [] w W) => qQ W H.H q.C (h.c.keep hW) hv (q.dep + 1) (by omega))
 have hq2 := E4.keep cd
 have wu := aa hq2
 obtain ⟨RES, co⟩ : ∃ RES, gV q (d + 1) 0 0 = RES := ⟨_, rfl⟩
 have dC := aa co
 have KRE : Hid (∀ (a : Nat) (W : World) (us : Int) (m : Nat), Fr [] w W → w.heap.size ≤ a → At W a 58 (fY H q ⟨0, 0, [], none, 0, 0, us⟩) → m ≤ d → 0 ≤ us → us ≤ q.gT → ∀ g, gV q (g + 1) m us = RES →
   Calls Tryz.prog 21 #[.pointer (some ⟨a, 0, none⟩), .int .i64 ((m : Int) + 1)] W fun e W' => ∃ (b : Bool) (Cn : Int), e = .returned (.tuple #[.bool b, .int .i64 0]) ∧ Fr [a] W W' ∧ (0 ≤ Cn ∧ Cn ≤ q.gT) ∧
    ((b = false ∧ At W' a 58 (fY H q ⟨0, 0, [], none, 0, 0, Cn⟩) ∧ gV q g (m + 1) Cn = RES) ∨
    (b = true ∧ At W' a 58 (fY H q ⟨0, 0, [], none, 0, 0, Cn⟩) ∧ RES = some (none, Cn)) ∨
    (b = true ∧ ∃ S m' A c, At W' a 58 (fY H q ⟨2, q.bad, Fw S q.C, A, m' + 1, c, Cn⟩) ∧ RES = some (some (S, m'), Cn) ∧ jg W' A c (vm S q.C (m' + 1)) ∧ ∀ k ∈ ah A, W.heap.size ≤ k))) := fun a W us m hW ha kk hm h0 h1 g hr => by
  have IA : eH q.C ((m + 1 : Nat) : Int) ≤ 262143 := by
   have := fU hv.m0 (f := ((m + 1 : Nat) : Int)) (g := q.dep + 1) (by omega)
   omega
  refine (Ac w W a H q ⟨0, 0, [], none, 0, 0, us⟩ h hW ha hu hl hk kk m (by omega) IA ⟨h0, h1⟩).mono ?_
  rintro e W' ⟨S, r, ni, A, c, rfl, IB, hf, fJ⟩
  have lW := kM (f := g) ni
  rw [hr] at lW
  refine ⟨_, min (us + S.used) q.gT, rfl, hf, by omega, ?_⟩
  unfold Vd.next at IB
  by_cases e1 : r = 1
  ·subst e1
   rw [if_pos rfl] at IB lW
   exact .inr (.inr ⟨rfl, S, m, A, c, IB, lW, fJ rfl⟩)
  ·rw [if_neg e1] at IB lW
   by_cases e0 : r = 0
   ·subst e0
    rw [if_pos rfl] at lW
    exact .inr (.inl ⟨rfl, IB, lW⟩)
   ·rw [if_neg e0] at lW
    exact .inl ⟨by simp [e0, e1], IB, lW.symm⟩
 have HB0 : Hid (∀ W us, Fr [] w W → RES = some (none, us) → BcP q w (.returned (.tuple #[tn 0 0 [] none 0 0 us, .int .i64 0])) W) := fun W us h1 h2 => ⟨h1, none, us, by rw [hdt, co, h2], rfl⟩
 have Wr : Hid (∀ W us S m A c, Fr [] w W → RES = some (some (S, m), us) → jg W A c (vm S q.C (m + 1)) → BcP q w (.returned (.tuple #[tn 2 q.bad (Fw S q.C) A (m + 1) c us, .int .i64 0])) W) := fun W us S m A c h1 h2 h3 => ⟨h1, some (S, m), us, by rw [hdt, co, h2], A, c, rfl, h3⟩
 have HSE : Hid (∀ us, gV q 0 (d + 1) us = RES → RES = some (none, us)) := fun us h => h.symm
 obtain ⟨BP, hBP⟩ : ∃ BP, BcP q w = BP := ⟨_, rfl⟩
 obtain ⟨BR, Uy⟩ : ∃ BR, gV q = BR := ⟨_, rfl⟩
 obtain ⟨ST, Bn⟩ : ∃ ST : Sv → List UInt8, (fun S => Fw S q.C) = ST := ⟨_, rfl⟩
 obtain ⟨IN, Bp⟩ : ∃ IN : Sv → Nat → List (List UInt8), (fun S => vm S q.C) = IN := ⟨_, rfl⟩
 have Bo : ∀ S, Fw S q.C = ST S := fun S => congrFun Bn S
 have yJ : ∀ S, vm S q.C = IN S := fun S => congrFun Bp S
 simp only [hBP, Uy, Bo, yJ] at HB0 Wr KRE dC HSE ⊢
 simp only [hd] at KV hb
 obtain ⟨ba, JK⟩ : ∃ ba, eH q.C ((d : Int) + 1) = ba := ⟨_, rfl⟩
 simp only [JK] at KV hb
 have V6 := zu.2.2.2.2
 have d1 : decide (262144 ≤ ba) = false := decide_eq_false (by omega)
 have hwd : IntKind.i64.wrap ((d : Int) + 1) = (d : Int) + 1 := IntWalk.i64_in _ (by omega)
 have amg : d ≤ 70 := by omega
 clear h hu hv zu uq cE cd E4 hdt co hBP Uy Bn Bp Bo yJ JK hb
 obtain ⟨⟨mx, ins, aX, outs, aO, aN, au, bO⟩, am, ls, ks, bad, dep, gT⟩ := q
 obtain ⟨⟨iA, iC, lA, lC, oA, oC, bA, bC, vA, vC, gA, gC, nA, nC⟩, aA, aC, mA, mC, kA, kC⟩ := H
 try simp only at hl hk hd hdp
 subst hl hk hd
 have HQ := om hq2
 simp only [qt, tI, dn, gH, fY, sv, List.length_nil] at *
 obtain ⟨q0, q1, q2, q3, q4, q5, q6, q7, q8, q9, lT, mG, mc, mF⟩ := HQ
 clear hq2
 go_enter Tryz.func6, Tryz.ntmps6
 go_wp2_with fail
 refine KC.out.mono ?_
 rintro e w3 ⟨rfl, cY⟩
 have cR := aa (cJ.out.ag cY)
 have oX := aa (qi.out.keep cY)
 have JS := aa (wu.out.keep cY)
 clear cY q0 q1 q2 q3 q4 q5 q6 q7 q8 q9 lT mG mc mF KC ep kD cJ qi wu
 obtain ⟨q0, q1, q2, q3, q4, q5, q6, q7, q8, q9, lT, mG, mc, mF⟩ := R7 JS.out
 go_wp2_with fail
 refine (KV.out w3 cR.out).mono ?_
 rintro e w4 ⟨rfl, eF⟩
 have gS := aa (cR.out.ag eF)
 have Nj := aa (oX.out.keep eF)
 have HQ4 := aa (JS.out.keep eF)
 clear eF q0 q1 q2 q3 q4 q5 q6 q7 q8 q9 lT mG mc mF cR oX JS
 obtain ⟨q0, q1, q2, q3, q4, q5, q6, q7, q8, q9, lT, mG, mc, mF⟩ := R7 HQ4.out
 go_upto_region 7 with fail
 obtain ⟨a, ha⟩ : ∃ a, w4.heap.size = a := ⟨_, rfl⟩
 obtain ⟨w5, nh⟩ : ∃ W, w4.alloc (.cells #[.int .i64 mx, .slice iA ins.length iC, .slice lA aX.length lC, .slice oA outs.length oC, .slice bA aO.length bC, .slice vA aN.length vC, .slice gA au.length gC, .slice nA bO.length nC, .slice aA am.length aC, .slice mA 0 mC, .slice kA 0 kC, .int .i64 bad, .int .i64 (d : Int), .int .i64 gT, .int .i64 0, .int .i64 0, .string ⟨#[]⟩, .slice none 0 0, .slice none 0 0, .slice none 0 0, .int .i64 0] 58) = W := ⟨_, rfl⟩
 have dK : Fr [] w4 w5 := nh ▸ aP _ _
 have Z8 : Hid (At w5 a 58 #[.int .i64 mx, .slice iA ins.length iC, .slice lA aX.length lC, .slice oA outs.length oC, .slice bA aO.length bC, .slice vA aN.length vC, .slice gA au.length gC, .slice nA bO.length nC, .slice aA am.length aC, .slice mA 0 mC, .slice kA 0 kC, .int .i64 bad, .int .i64 (d : Int), .int .i64 gT, .int .i64 0, .int .i64 0, .string ⟨#[]⟩, .slice none 0 0, .slice none 0 0, .slice none 0 0, .int .i64 0]) := nh ▸ ha ▸ At.new _ _ _
 have qj := aa (gS.out.ag dK)
 have xz := aa (Nj.out.keep dK)
 have oP : w.heap.size + 1 < a := ha ▸ Nj.out.lt
 have vz := aa oP
 have ak9 := dK.av mc
 rw [nh, ha]
 clear nh ha dK oP q0 q1 q2 q3 q4 q5 q6 q7 q8 q9 lT mG mc mF gS Nj HQ4
 go_wp2_with fail
 go_loopg [31] (d + 1) (fun g x31 wr => ∃ (k : Nat) (us : Int), k + g = d + 1 ∧ x31 = .int .i64 k ∧ Hid (0 ≤ us ∧ us ≤ gT) ∧ Hid (Fr [] w wr) ∧ Hid (At wr (w.heap.size + 1) 35 #[.int .i64 0, .int .i64 0, .string ⟨#[]⟩, .slice none 0 0, .slice none 0 0, .slice none 0 0, .int .i64 0]) ∧ Hid (At wr a 58 #[.int .i64 mx, .slice iA ins.length iC, .slice lA aX.length lC, .slice oA outs.length oC, .slice bA aO.length bC, .slice vA aN.length vC, .slice gA au.length gC, .slice nA bO.length nC, .slice aA am.length aC, .slice mA 0 mC, .slice kA 0 kC, .int .i64 bad, .int .i64 (d : Int), .int .i64 gT, .int .i64 0, .int .i64 0, .string ⟨#[]⟩, .slice none 0 0, .slice none 0 0, .slice none 0 0, .int .i64 us]) ∧ Hid (BR (d + 1 - k) k us = RES))
 case atStart => exact ⟨0, 0, by omega, rfl, ⟨kf _, V6.1⟩, qj, xz, Z8, dC⟩
 case round =>
  clear qj xz Z8 dC
  obtain ⟨k, us, hk, rfl, HU, HF, HR, HA, HS⟩ := hrel
  have HK := aa hk
  have j4 : k ≤ d + 1 := by omega
  clear hk
  by_cases bM : k < d + 1
  ·have pI : (k : Int) < (d : Int) + 1 := by omega
   have hwk : IntKind.i64.wrap ((k : Int) + 1) = (k : Int) + 1 := IntWalk.i64_in _ (by omega)
   have hg : d + 1 - k = (d - k) + 1 := by omega
   rw [hg] at HS
   have KR := aa (KRE.out a wr us k HF.out (by have := vz.out; omega) HA.out (by omega) HU.out.1 HU.out.2 (d - k) HS.out)
   clear hg
   go_upto_region 11 with fail
   refine KR.out.mono ?_
   rintro e w6 ⟨b, Cn, rfl, fZ, hu6, h6⟩
   have iG : Hid (Fr [] w w6) := HF.out.trans fZ (fun j hj => .inr (by simp at hj; have := vz.out; omega))
   have lM : Hid (At w6 (w.heap.size + 1) 35 #[.int .i64 0, .int .i64 0, .string ⟨#[]⟩, .slice none 0 0, .slice none 0 0, .slice none 0 0, .int .i64 0]) := fZ.at_ HR.out (by simp; have := vz.out; omega)
   have HU6 := aa hu6
   have HRL := aa HR.out.lt
   clear fZ hu6 KR HF HR HA HS HU
   rcases h6 with ⟨rfl, RU, DU⟩ | ⟨rfl, RU, DU⟩ | ⟨rfl, S, m', A, c, RU, DU, hr6, XT⟩
   ·have GD := aa RU
    have Ob := aa DU
    clear RU DU
    go_wp2_with fail
    go_roundg (gk - 1)
    case measure => have := HK.out; omega
    case rel => exact ⟨k + 1, Cn, by have := HK.out; omega, by go_num, HU6, iG, lM, GD, (by show _ = _; rw [show d + 1 - (k + 1) = d - k by omega]; exact Ob.out)⟩
   ·have GD := aa RU
    have FB := aa (fun W hW => HB0.out W Cn hW DU)
    clear RU DU
    obtain ⟨p14, p15, p16, p17, p18, p19, p20⟩ := ud GD.out
    obtain ⟨r0, r1, r2, r3, r4, r5, r6⟩ := iT lM.out
    have f0 := lM.out.frozen 0
    have f1 := lM.out.frozen 1
    have f2 := lM.out.frozen 2
    have f3 := lM.out.frozen 3
    have f4 := lM.out.frozen 4
    have f5 := lM.out.frozen 5
    have f6 := lM.out.frozen 6
    go_wp2_with fail
    obtain ⟨W, hW, LT, e0, e1, e2, e3, e4, e5, e6⟩ := Oy lM.out (.int .i64 0) (.int .i64 0) (.string ⟨#[]⟩) (.slice none 0 0) (.slice none 0 0) (.slice none 0 0) (.int .i64 Cn)
    rw [hW]
    have FF := aa (FB.out W (iG.out.trans LT (fun j hj => .inr (by simp at hj; omega))))
    clear hW LT
    refine bodyPost_ret (v := .tuple #[.agg #[.int .i64 0, .int .i64 0, .string ⟨#[]⟩, .slice none 0 0, .slice none 0 0, .slice none 0 0, .int .i64 Cn], .int .i64 0]) (by simp [results, go_sem, e0, e1, e2, e3, e4, e5, e6]) rfl ?_
    exact FF.out
   ·have GD := aa RU
    have FB := aa (fun W hW hs => Wr.out W Cn S m' A c hW DU hs)
    have Se := aa hr6
    have HNA : Hid (w.heap.size + 1 ∉ ah A) := (fun hm => by have := XT _ hm; have := HRL.out; omega)
    clear RU DU hr6 XT
    obtain ⟨p14, p15, p16, p17, p18, p19, p20⟩ := ud GD.out
    obtain ⟨r0, r1, r2, r3, r4, r5, r6⟩ := iT lM.out
    have f0 := lM.out.frozen 0
    have f1 := lM.out.frozen 1
    have f2 := lM.out.frozen 2
    have f3 := lM.out.frozen 3
    have f4 := lM.out.frozen 4
    have f5 := lM.out.frozen 5
    have f6 := lM.out.frozen 6
    go_wp2_with fail
    obtain ⟨W, hW, LT, e0, e1, e2, e3, e4, e5, e6⟩ := Oy lM.out (.int .i64 2) (.int .i64 bad) (.string ⟨(ST S).toArray⟩) (.slice A (m' + 1) c) (.slice none 0 0) (.slice none 0 0) (.int .i64 Cn)
    rw [hW]
    have FF := aa (FB.out W (iG.out.trans LT (fun j hj => .inr (by simp at hj; omega))) (LT.own Se.out (fun j hj hm => by
     rw [an.1 hm] at hj
     refine HNA.out ?_
     cases A with
     | none => cases hj
     | some ad => simp [Value.ownBlock] at hj; simp [ah]; exact hj.symm)))
    clear hW LT
    refine bodyPost_ret (v := .tuple #[.agg #[.int .i64 2, .int .i64 bad, .string ⟨(ST S).toArray⟩, .slice A (m' + 1) c, .slice none 0 0, .slice none 0 0, .int .i64 Cn], .int .i64 0]) (by simp [results, go_sem, e0, e1, e2, e3, e4, e5, e6]) rfl ?_
    exact FF.out
  ·obtain rfl : k = d + 1 := by omega
   have DU : RES = some (none, us) := HSE.out us (by have := HS.out; rwa [Nat.sub_self] at this)
   have FB := aa (fun W hW => HB0.out W us hW DU)
   have iG := HF
   have lM := HR
   have GD := HA
   clear HK HS DU HF HR HA HU
   obtain ⟨p14, p15, p16, p17, p18, p19, p20⟩ := ud GD.out
   obtain ⟨r0, r1, r2, r3, r4, r5, r6⟩ := iT lM.out
   have f0 := lM.out.frozen 0
   have f1 := lM.out.frozen 1
   have f2 := lM.out.frozen 2
   have f3 := lM.out.frozen 3
   have f4 := lM.out.frozen 4
   have f5 := lM.out.frozen 5
   have f6 := lM.out.frozen 6
   go_wp2_with fail
   obtain ⟨W, hW, LT, e0, e1, e2, e3, e4, e5, e6⟩ := Oy lM.out (.int .i64 0) (.int .i64 0) (.string ⟨#[]⟩) (.slice none 0 0) (.slice none 0 0) (.slice none 0 0) (.int .i64 us)
   rw [hW]
   have FF := aa (FB.out W (iG.out.trans LT (fun j hj => .inr (by simp at hj; omega))))
   clear hW LT
   refine bodyPost_ret (v := .tuple #[.agg #[.int .i64 0, .int .i64 0, .string ⟨#[]⟩, .slice none 0 0, .slice none 0 0, .slice none 0 0, .int .i64 us], .int .i64 0]) (by simp [results, go_sem, e0, e1, e2, e3, e4, e5, e6]) rfl ?_
   exact FF.out
theorem Gl {q : Qn} : ∀ (f m : Nat) (us : Int) (S : Sv) (m' : Nat) (u : Int), gV q f m us = some (some (S, m'), u) → m ≤ m'
 | 0, m, us, S, m', u, h => by
  rw [gV] at h
  simp at h
 | f + 1, m, us, S, m', u, h => by
  cases hs : jG q us m with
  | none => rw [gV, hs] at h; cases h
  | some p =>
   obtain ⟨S1, r⟩ := p
   rw [kM hs] at h
   split at h
   ·simp only [Option.some.injEq, Prod.mk.injEq] at h
    omega
   ·split at h
    ·simp at h
    ·have := Gl f (m + 1) _ S m' u h
     omega
theorem Gj {q : Qn} : ∀ (f m : Nat) (us : Int) (S : Sv) (m' : Nat) (u : Int), gV q f m us = some (some (S, m'), u) → m' < m + f
 | 0, m, us, S, m', u, h => by
  rw [gV] at h
  simp at h
 | f + 1, m, us, S, m', u, h => by
  cases hs : jG q us m with
  | none => rw [gV, hs] at h; cases h
  | some p =>
   obtain ⟨S1, r⟩ := p
   rw [kM hs] at h
   split at h
   ·simp only [Option.some.injEq, Prod.mk.injEq] at h
    omega
   ·split at h
    ·simp at h
    ·have := Gj f (m + 1) _ S m' u h
     omega
theorem xw {q : Qn} (g : Nat) : ∀ (f m : Nat) (us : Int) (xq : Option (Sv × Nat)) (u : Int) (so : Option (Sv × Nat)) (u2 : Int), gV q f m us = some (xq, u) → gV q (f + g) m us = some (so, u2) →
  (∀ x, xq = some x → so = some x) ∧ (xq = none → ∀ S m', so = some (S, m') → m + f ≤ m')
 | 0, m, us, xq, u, so, u2, h, h2 => by
  rw [gV] at h
  simp only [Option.some.injEq, Prod.mk.injEq] at h
  obtain ⟨rfl, rfl⟩ := h
  refine ⟨fun x hx => (by cases hx), fun _ S m' e => ?_⟩
  subst e
  rw [cZ] at h2
  exact Gl g m us S m' u2 h2
 | f + 1, m, us, xq, u, so, u2, h, h2 => by
  cases hs : jG q us m with
  | none => rw [gV, hs] at h; cases h
  | some p =>
   obtain ⟨S1, r⟩ := p
   rw [kM hs] at h
   rw [show f + 1 + g = (f + g) + 1 by omega, kM hs] at h2
   by_cases e1 : r = 1
   ·rw [if_pos e1] at h h2
    simp only [Option.some.injEq, Prod.mk.injEq] at h h2
    rw [← h.1, ← h2.1]
    exact ⟨fun x hx => hx, fun hx => (by cases hx)⟩
   ·rw [if_neg e1] at h h2
    by_cases e0 : r = 0
    ·rw [if_pos e0] at h h2
     simp only [Option.some.injEq, Prod.mk.injEq] at h h2
     rw [← h.1, ← h2.1]
     exact ⟨fun x hx => hx, fun _ S m' hx => (by cases hx)⟩
    ·rw [if_neg e0] at h h2
     obtain ⟨k1, k2⟩ := xw g f (m + 1) _ xq u so u2 h h2
     exact ⟨k1, fun hf S m' hx => by have := k2 hf S m' hx; omega⟩
theorem I0 (q : Qn) (x : Int) : jG { q with dep := x } = jG q := rfl
theorem B0 (q : Qn) (x : Int) : ∀ (f m : Nat) (us : Int), gV { q with dep := x } f m us = gV q f m us
 | 0, m, us => rfl
 | f + 1, m, us => by
  rw [gV, gV, I0]
  cases jG q us m with
  | none => rfl
  | some p =>
   obtain ⟨S, r⟩ := p
   simp only [B0 q x f]
theorem Oo (q : Qn) (x y : Int) (hx : 0 ≤ x ∧ x < 80) (hy : 0 ≤ y ∧ y < 80) : od { q with dep := x } = od { q with dep := y } := by
 unfold od
 simp only [show (x < 0) = False by simp; omega, show (y < 0) = False by simp; omega, show (80 ≤ x) = False by simp; omega, show (80 ≤ y) = False by simp; omega]
theorem zS (w : World) (A1 A2 : Option Addr) (c1 c2 : Nat) (l : List (List UInt8)) (h1 : jg w A1 c1 l) (h2 : jg w A2 c2 l) (hl : l.length ≤ 1000000) :
  Calls Tryz.prog 7 #[.slice A1 l.length c1, .slice A2 l.length c2] w fun e w' => e = .returned (.bool true) ∧ Fr [] w w' := by
 have cell : ∀ {A : Option Addr} {c : Nat}, jg w A c l → ∀ k, k < l.length → ∃ g, A = some ⟨g, 0, none⟩ ∧ w.cell? ⟨g, k, none⟩ = some (.string ⟨(l[k]!).toArray⟩) := fun {A c} h k hk => by
  unfold jg at h
  rcases h.2 with ⟨_, h0⟩ | ⟨g, cap, cur, hv, _⟩
  ·omega
  ·simp only [Value.slice.injEq, true_and] at hv
   obtain ⟨rfl, rfl⟩ := hv
   refine ⟨g, rfl, ?_⟩
   rw [World.ownsRow.cellAt h k (by omega)]
   simp only [bh, af hk, dc, ae, aq, sv]
 have mg := aa (cell h1)
 have kS := aa (cell h2)
 obtain ⟨n, hn⟩ : ∃ n, l.length = n := ⟨_, rfl⟩
 rw [hn] at mg kS hl ⊢
 clear h1 h2 cell hn
 go_enter Tryz.func7, Tryz.ntmps7
 go_wp2_with fail
 go_loopg [5] n (fun g x5 wr => ∃ k : Nat, k + g = n ∧ x5 = .int .i64 k ∧ Hid (Fr [] w wr))
 case atStart => exact ⟨0, by omega, rfl, Fr.refl _ _⟩
 case round =>
  obtain ⟨k, hk, rfl, HF⟩ := hrel
  have HK := aa hk
  have j4 : k ≤ n := by omega
  clear hk
  by_cases bM : k < n
  ·have pI : (k : Int) < (n : Int) := by omega
   obtain ⟨g1, rfl, x1⟩ := mg.out k bM
   obtain ⟨g2, rfl, x2⟩ := kS.out k bM
   have e1 := Ext.cell (HF.out.av x1)
   have e2 := Ext.cell (HF.out.av x2)
   obtain ⟨z, hz⟩ : ∃ z, (⟨(l[k]!).toArray⟩ : ByteArray) = z := ⟨_, rfl⟩
   rw [hz] at e1 e2
   clear x1 x2 hz
   go_upto_region 6 with fail
   refine al (by kernel_rfl) (by kernel_rfl) ?_
   repeat (go_big_quiet_step (fail))
   refine wpQuiet_nil ?_
   rintro w2 ⟨u2, bJ⟩
   have aT : Hid (Fr [] wr w2) := bJ ▸ u2.fr
   clear bJ u2
   have cJ := aa (HF.out.ag aT.out)
   clear e1 e2
   go_wp2_with fail
   go_roundg (gk - 1)
   case measure => have := HK.out; omega
   case rel => exact ⟨k + 1, by have := HK.out; omega, by go_num, cJ⟩
  ·obtain rfl : k = n := by omega
   clear HK
   go_wp2_with fail
   go_ret
   exact ⟨rfl, HF.out⟩
def R8 : Pc := ⟨0, [], [], [], [1], [], [], []⟩
def N5 : Qn := ⟨R8, [], [], [], 0, 0, 9⟩
theorem IS : Valid R8 where
 m0 := by decide
 m1 := by decide
 i := by decide
 l := by decide
 n := by decide
 aX := fun j hj => absurd hj (aG _)
 au := fun j hj => absurd hj (aG _)
 own := fun j hj => absurd hj (aG _)
 o := by decide
 b := by decide
 v := by decide
theorem UH : od N5 = 0 := by
 unfold od
 rw [if_neg (fun h => h IS), if_neg (by decide), if_neg (by decide), if_neg (by decide), if_neg (by decide)]
def bmS : Sv := ((Sv.new 1).UK [-1]).1
theorem UG : (Sv.lf 9 [-1] bmS).map (fun q => decide (q.2 = 1)) = some true := by decide +kernel
theorem QD : ∃ S, jG N5 0 0 = some (S, 1) := by
 have e : jG N5 0 0 = Sv.lf 9 [-1] bmS := by
  have e1 : pX R8 [] 1 = [[-1]] := by decide
  unfold jG zb
  show Sv.lf (9 - 0) [cT (eH R8 0) 1] ((Sv.new (eH R8 1)).dQ (pX R8 [] 1)) = _
  rw [e1, show cT (eH R8 0) 1 = -1 by decide, show eH R8 1 = 1 by decide]
  show Sv.lf 9 [-1] ((Sv.new 1).fM [-1]).1 = _
  rw [Sv.QH]
  rfl
 obtain ⟨q, hq, hd⟩ := Option.map_eq_some_iff.1 UG
 obtain ⟨S, r⟩ := q
 have : r = 1 := by simpa using hd
 subst this
 exact ⟨S, e.trans hq⟩
end Go.Proofs.YtpjbaobgnhjgoaaGreat
