/- Circuits in memory that is only read, and as plain lists. -/
import Derived.Test.YtbjccgahmgpkjaaFrm
namespace Go.Proofs.Ytbjccgahmgpkjaa
open Go.RowKit
set_option linter.unusedVariables false

/-- A latch or an and: three numbers. -/
structure T3 where
  a : Int
  b : Int
  c : Int
instance : Inhabited T3 := ⟨⟨0, 0, 0⟩⟩
def T3.val (x : T3) : Value := .agg #[.int .i64 x.a, .int .i64 x.b, .int .i64 x.c]
/-- A name: its kind, its place, its text. -/
structure Nm where
  k : ByteArray
  i : Int
  t : ByteArray
instance : Inhabited Nm := ⟨⟨⟨#[]⟩, 0, ⟨#[]⟩⟩⟩
def Nm.val (x : Nm) : Value := .agg #[.string x.k, .int .i64 x.i, .string x.t]

/-- A circuit's lists. -/
structure Pc where
  mx : Int
  ins : List Int
  lat : List T3
  outs : List Int
  bads : List Int
  invs : List Int
  ands : List T3
  nms : List Nm
/-- Where they lie, and with how much room. -/
structure Hd where
  iA : Option Addr
  iC : Nat
  lA : Option Addr
  lC : Nat
  oA : Option Addr
  oC : Nat
  bA : Option Addr
  bC : Nat
  vA : Option Addr
  vC : Nat
  gA : Option Addr
  gC : Nat
  nA : Option Addr
  nC : Nat
def cvs (H : Hd) (C : Pc) : Array Value :=
  #[.int .i64 C.mx, .slice H.iA C.ins.length H.iC, .slice H.lA C.lat.length H.lC, .slice H.oA C.outs.length H.oC, .slice H.bA C.bads.length H.bC, .slice H.vA C.invs.length H.vC, .slice H.gA C.ands.length H.gC, .slice H.nA C.nms.length H.nC]
def cval (H : Hd) (C : Pc) : Value := .agg (cvs H C)

def RdT (w : World) (A : Option Addr) (l : List T3) : Prop := 0 < l.length → ∃ b o, A = some ⟨b, o, none⟩ ∧
  ∀ j : Nat, j < l.length → w.cell? ⟨b, o + j * 3, none⟩ = some (.int .i64 (l[j]!).a) ∧ w.cell? ⟨b, o + j * 3 + 1, none⟩ = some (.int .i64 (l[j]!).b) ∧ w.cell? ⟨b, o + j * 3 + 2, none⟩ = some (.int .i64 (l[j]!).c)
def RdM (w : World) (A : Option Addr) (l : List Nm) : Prop := 0 < l.length → ∃ b o, A = some ⟨b, o, none⟩ ∧
  ∀ j : Nat, j < l.length → w.cell? ⟨b, o + j * 3, none⟩ = some (.string (l[j]!).k) ∧ w.cell? ⟨b, o + j * 3 + 1, none⟩ = some (.int .i64 (l[j]!).i) ∧ w.cell? ⟨b, o + j * 3 + 2, none⟩ = some (.string (l[j]!).t)

theorem RdT.keep {w w' : World} {A : Option Addr} {l : List T3} (h : RdT w A l) (hf : Fr [] w w') : RdT w' A l := by
  intro h0
  obtain ⟨b, o, hA, hx⟩ := h h0
  exact ⟨b, o, hA, fun j hj => ⟨hf.cellS (hx j hj).1, hf.cellS (hx j hj).2.1, hf.cellS (hx j hj).2.2⟩⟩
theorem RdM.keep {w w' : World} {A : Option Addr} {l : List Nm} (h : RdM w A l) (hf : Fr [] w w') : RdM w' A l := by
  intro h0
  obtain ⟨b, o, hA, hx⟩ := h h0
  exact ⟨b, o, hA, fun j hj => ⟨hf.cellS (hx j hj).1, hf.cellS (hx j hj).2.1, hf.cellS (hx j hj).2.2⟩⟩

def R64 (x : Int) : Prop := -9223372036854775808 ≤ x ∧ x ≤ 9223372036854775807
def Ra (l : List Int) : Prop := ∀ j : Nat, j < l.length → R64 l[j]!
def Rt (l : List T3) : Prop := ∀ j : Nat, j < l.length → R64 (l[j]!).a ∧ R64 (l[j]!).b ∧ R64 (l[j]!).c
def Rm (l : List Nm) : Prop := ∀ j : Nat, j < l.length → (l[j]!).k.size ≤ maxLen ∧ R64 (l[j]!).i ∧ (l[j]!).t.size ≤ maxLen

/-- The lists lie there. -/
structure CiAt (w : World) (H : Hd) (C : Pc) : Prop where
  i : Rd w H.iA C.ins
  l : RdT w H.lA C.lat
  o : Rd w H.oA C.outs
  b : Rd w H.bA C.bads
  v : Rd w H.vA C.invs
  g : RdT w H.gA C.ands
  n : RdM w H.nA C.nms
  iL : C.ins.length ≤ 17592186044416
  lL : C.lat.length ≤ 5864062014635
  oL : C.outs.length ≤ 17592186044416
  bL : C.bads.length ≤ 17592186044416
  vL : C.invs.length ≤ 17592186044416
  gL : C.ands.length ≤ 5864062014635
  nL : C.nms.length ≤ 3518437208781
  mr : R64 C.mx
  ir : Ra C.ins
  lr : Rt C.lat
  or_ : Ra C.outs
  br : Ra C.bads
  vr : Ra C.invs
  gr : Rt C.ands
  nr : Rm C.nms
theorem CiAt.keep {w w' : World} {H : Hd} {C : Pc} (h : CiAt w H C) (hf : Fr [] w w') : CiAt w' H C :=
  ⟨h.i.keep hf, h.l.keep hf, h.o.keep hf, h.b.keep hf, h.v.keep hf, h.g.keep hf, h.n.keep hf, h.iL, h.lL, h.oL, h.bL, h.vL, h.gL, h.nL, h.mr, h.ir, h.lr, h.or_, h.br, h.vr, h.gr, h.nr⟩

/-- The box of a circuit among the parameters. -/
theorem box_at (w : World) (H : Hd) (C : Pc) : At (w.alloc (.cells (cvs H C) 27)) w.heap.size 27 (cvs H C) := At.new w _ _
theorem box_fr (w : World) (o : Obj) : Fr [] w (w.alloc o) := (Fr.refl [] w).alloc o

/-- The world wr has grown out of w; a circuit's box was the first thing made. -/
structure Cx (w wr : World) (H : Hd) (C : Pc) : Prop where
  fr : Fr [] w wr
  bx : At wr w.heap.size 27 (cvs H C)
theorem Cx.start (w : World) (H : Hd) (C : Pc) : Cx w (w.alloc (.cells (cvs H C) 27)) H C := ⟨box_fr _ _, box_at _ _ _⟩
theorem Cx.keep {w wr w' : World} {H : Hd} {C : Pc} (h : Cx w wr H C) (hf : Fr [] wr w') : Cx w w' H C := ⟨h.fr.then_ hf, h.bx.keep hf⟩
theorem At.cells8 {w : World} {g : Nat} {t : TypeId} {H : Hd} {C : Pc} (h : At w g t (cvs H C)) :
    w.cell? ⟨g, 0, none⟩ = some (.int .i64 C.mx) ∧ w.cell? ⟨g, 1, none⟩ = some (.slice H.iA C.ins.length H.iC) ∧ w.cell? ⟨g, 2, none⟩ = some (.slice H.lA C.lat.length H.lC) ∧ w.cell? ⟨g, 3, none⟩ = some (.slice H.oA C.outs.length H.oC) ∧
    w.cell? ⟨g, 4, none⟩ = some (.slice H.bA C.bads.length H.bC) ∧ w.cell? ⟨g, 5, none⟩ = some (.slice H.vA C.invs.length H.vC) ∧ w.cell? ⟨g, 6, none⟩ = some (.slice H.gA C.ands.length H.gC) ∧ w.cell? ⟨g, 7, none⟩ = some (.slice H.nA C.nms.length H.nC) := by
  refine ⟨?_, ?_, ?_, ?_, ?_, ?_, ?_, ?_⟩ <;> (rw [h.cell]; rfl)
theorem Cx.cells {w wr : World} {H : Hd} {C : Pc} (h : Cx w wr H C) :
    wr.cell? ⟨w.heap.size, 0, none⟩ = some (.int .i64 C.mx) ∧ wr.cell? ⟨w.heap.size, 1, none⟩ = some (.slice H.iA C.ins.length H.iC) ∧ wr.cell? ⟨w.heap.size, 2, none⟩ = some (.slice H.lA C.lat.length H.lC) ∧ wr.cell? ⟨w.heap.size, 3, none⟩ = some (.slice H.oA C.outs.length H.oC) ∧
    wr.cell? ⟨w.heap.size, 4, none⟩ = some (.slice H.bA C.bads.length H.bC) ∧ wr.cell? ⟨w.heap.size, 5, none⟩ = some (.slice H.vA C.invs.length H.vC) ∧ wr.cell? ⟨w.heap.size, 6, none⟩ = some (.slice H.gA C.ands.length H.gC) ∧ wr.cell? ⟨w.heap.size, 7, none⟩ = some (.slice H.nA C.nms.length H.nC) := h.bx.cells8
theorem Cx.ext {w wr : World} {H : Hd} {C : Pc} (h : Cx w wr H C) :
    (∀ u : Ext wr, u.v.cell? ⟨w.heap.size, 0, none⟩ = some (.int .i64 C.mx)) ∧ (∀ u : Ext wr, u.v.cell? ⟨w.heap.size, 1, none⟩ = some (.slice H.iA C.ins.length H.iC)) ∧ (∀ u : Ext wr, u.v.cell? ⟨w.heap.size, 2, none⟩ = some (.slice H.lA C.lat.length H.lC)) ∧ (∀ u : Ext wr, u.v.cell? ⟨w.heap.size, 3, none⟩ = some (.slice H.oA C.outs.length H.oC)) ∧
    (∀ u : Ext wr, u.v.cell? ⟨w.heap.size, 4, none⟩ = some (.slice H.bA C.bads.length H.bC)) ∧ (∀ u : Ext wr, u.v.cell? ⟨w.heap.size, 5, none⟩ = some (.slice H.vA C.invs.length H.vC)) ∧ (∀ u : Ext wr, u.v.cell? ⟨w.heap.size, 6, none⟩ = some (.slice H.gA C.ands.length H.gC)) ∧ (∀ u : Ext wr, u.v.cell? ⟨w.heap.size, 7, none⟩ = some (.slice H.nA C.nms.length H.nC)) := by
  obtain ⟨c0, c1, c2, c3, c4, c5, c6, c7⟩ := h.cells
  exact ⟨Ext.cell c0, Ext.cell c1, Ext.cell c2, Ext.cell c3, Ext.cell c4, Ext.cell c5, Ext.cell c6, Ext.cell c7⟩
/-- One element. -/
theorem Rd.one {w : World} {A : Option Addr} {l : List Int} (h : Rd w A l) (hr : Ra l) {j : Nat} (hj : j < l.length) : ∃ b o x, A = some ⟨b, o, none⟩ ∧ Hid (l[j]! = x) ∧ w.cell? ⟨b, o + j, none⟩ = some (.int .i64 x) ∧ -9223372036854775808 ≤ x ∧ x ≤ 9223372036854775807 := by
  obtain ⟨b, o, hA, hx⟩ := h (by omega)
  exact ⟨b, o, _, hA, rfl, hx j hj, hr j hj⟩
theorem RdT.one {w : World} {A : Option Addr} {l : List T3} (h : RdT w A l) (hr : Rt l) {j : Nat} (hj : j < l.length) : ∃ b o x y z, A = some ⟨b, o, none⟩ ∧ Hid (l[j]! = ⟨x, y, z⟩) ∧
    w.cell? ⟨b, o + j * 3, none⟩ = some (.int .i64 x) ∧ w.cell? ⟨b, o + j * 3 + 1, none⟩ = some (.int .i64 y) ∧ w.cell? ⟨b, o + j * 3 + 2, none⟩ = some (.int .i64 z) ∧
    (-9223372036854775808 ≤ x ∧ x ≤ 9223372036854775807) ∧ (-9223372036854775808 ≤ y ∧ y ≤ 9223372036854775807) ∧ (-9223372036854775808 ≤ z ∧ z ≤ 9223372036854775807) := by
  obtain ⟨b, o, hA, hx⟩ := h (by omega)
  obtain ⟨h1, h2, h3⟩ := hx j hj
  exact ⟨b, o, _, _, _, hA, rfl, h1, h2, h3, hr j hj⟩
theorem RdM.one {w : World} {A : Option Addr} {l : List Nm} (h : RdM w A l) (hr : Rm l) {j : Nat} (hj : j < l.length) : ∃ b o x y z, A = some ⟨b, o, none⟩ ∧ Hid (l[j]! = ⟨x, y, z⟩) ∧
    w.cell? ⟨b, o + j * 3, none⟩ = some (.string x) ∧ w.cell? ⟨b, o + j * 3 + 1, none⟩ = some (.int .i64 y) ∧ w.cell? ⟨b, o + j * 3 + 2, none⟩ = some (.string z) ∧
    x.size ≤ maxLen ∧ (-9223372036854775808 ≤ y ∧ y ≤ 9223372036854775807) ∧ z.size ≤ maxLen := by
  obtain ⟨b, o, hA, hx⟩ := h (by omega)
  obtain ⟨h1, h2, h3⟩ := hx j hj
  exact ⟨b, o, _, _, _, hA, rfl, h1, h2, h3, hr j hj⟩

end Go.Proofs.Ytbjccgahmgpkjaa
