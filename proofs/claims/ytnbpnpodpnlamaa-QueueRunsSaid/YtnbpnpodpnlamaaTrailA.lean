/- The trail's small functions, walked. -/
import Derived.Test.YtnbpnpodpnlamaaMemP
import Derived.Deep.LoopGhost
namespace Go.Proofs.Ytnbpnpodpnlamaa
open Go.RowKit

structure Cel where
  v : Int
  l : Int
  r : Int
instance : Inhabited Cel := ⟨⟨0, 0, 0⟩⟩
def Cel.free : Cel := ⟨0, -1, 0⟩

def flat : List Cel → List Value
  | [] => []
  | c :: cs => .int .i64 c.v :: .int .i64 c.l :: .int .i64 c.r :: flat cs

theorem flat_len (cs : List Cel) : (flat cs).length = cs.length * 3 := by
  induction cs with
  | nil => rfl
  | cons c cs ih => simp [flat, ih]; omega
theorem flat_app (a b : List Cel) : flat (a ++ b) = flat a ++ flat b := by
  induction a with
  | nil => rfl
  | cons c cs ih => simp [flat, ih]
theorem flat_get : ∀ (cs : List Cel) (i : Nat), i < cs.length → (flat cs)[i * 3]? = some (.int .i64 (cs[i]!).v) ∧ (flat cs)[i * 3 + 1]? = some (.int .i64 (cs[i]!).l) ∧ (flat cs)[i * 3 + 2]? = some (.int .i64 (cs[i]!).r) := by
  intro cs
  induction cs with
  | nil => intro i h; simp at h
  | cons c cs ih =>
    intro i h
    cases i with
    | zero => simp [flat]
    | succ i =>
      have := ih i (by simpa using h)
      have e : (i + 1) * 3 = i * 3 + 1 + 1 + 1 := by omega
      rw [e]
      simpa [flat] using this
theorem flat_set : ∀ (cs : List Cel) (i : Nat) (c : Cel), i < cs.length → (((flat cs).set (i * 3) (.int .i64 c.v)).set (i * 3 + 1) (.int .i64 c.l)).set (i * 3 + 2) (.int .i64 c.r) = flat (cs.set i c) := by
  intro cs
  induction cs with
  | nil => intro i _ h; simp at h
  | cons d cs ih =>
    intro i c h
    cases i with
    | zero => simp [flat]
    | succ i =>
      have := ih i c (by simpa using h)
      have e : (i + 1) * 3 = i * 3 + 1 + 1 + 1 := by omega
      rw [e]
      simp only [flat, List.set_cons_succ]
      rw [this]

/-- The slice value '.slice A n c' of cells holds cs, in a row of its own. -/
def Cls (w : World) (A : Option Addr) (c : Nat) (cs : List Cel) : Prop := w.ownsRow 0 87 3 (.slice A cs.length c) cs.length (flat cs)

namespace Cls
variable {w w' : World} {A : Option Addr} {c : Nat} {cs : List Cel}
theorem form (h : Cls w A c cs) : (A = none ∧ c = 0 ∧ cs = []) ∨ ∃ g, A = some ⟨g, 0, none⟩ ∧ g < w.heap.size ∧ cs.length ≤ c ∧ c ≤ maxLen := by
  rcases h.2 with ⟨h1, h2⟩ | ⟨g, cap, cur, hv, _, hg, hn, hm, _⟩
  · simp only [Value.slice.injEq] at h1
    exact .inl ⟨h1.1, h1.2.2, List.eq_nil_of_length_eq_zero h2⟩
  · simp only [Value.slice.injEq, true_and] at hv
    obtain ⟨rfl, rfl⟩ := hv
    exact .inr ⟨g, rfl, At.lt (t := 87) hg, hn, hm⟩
theorem pos {i : Nat} (h : Cls w A c cs) (hi : i < cs.length) : ∃ g, A = some ⟨g, 0, none⟩ ∧ g < w.heap.size := by
  rcases h.form with ⟨_, _, rfl⟩ | ⟨g, h1, h2, _⟩
  · simp at hi
  · exact ⟨g, h1, h2⟩
theorem cell {g : Nat} (h : Cls w (some ⟨g, 0, none⟩) c cs) {i : Nat} (hi : i < cs.length) :
    w.cell? ⟨g, i * 3, none⟩ = some (.int .i64 (cs[i]!).v) ∧ w.cell? ⟨g, i * 3 + 1, none⟩ = some (.int .i64 (cs[i]!).l) ∧ w.cell? ⟨g, i * 3 + 2, none⟩ = some (.int .i64 (cs[i]!).r) := by
  obtain ⟨h1, h2, h3⟩ := flat_get cs i hi
  refine ⟨?_, ?_, ?_⟩
  · rw [World.ownsRow.cellAt h _ (by omega)]; exact h1
  · rw [World.ownsRow.cellAt h _ (by omega)]; exact h2
  · rw [World.ownsRow.cellAt h _ (by omega)]; exact h3
theorem frozen {g : Nat} (h : Cls w (some ⟨g, 0, none⟩) c cs) (i : Nat) : w.frozen? ⟨g, i, none⟩ = false := World.ownsRow.frozenAt h i
theorem set_ {g : Nat} (h : Cls w (some ⟨g, 0, none⟩) c cs) {i : Nat} (hi : i < cs.length) (x : Cel) :
    Cls (((w.setCell ⟨g, i * 3, none⟩ (.int .i64 x.v)).setCell ⟨g, i * 3 + 1, none⟩ (.int .i64 x.l)).setCell ⟨g, i * 3 + 2, none⟩ (.int .i64 x.r)) (some ⟨g, 0, none⟩) c (cs.set i x) := by
  have h1 := (World.ownsRow.stored h (i * 3) (.int .i64 x.v)).1
  have h2 := (World.ownsRow.stored h1 (i * 3 + 1) (.int .i64 x.l)).1
  have h3 := (World.ownsRow.stored h2 (i * 3 + 2) (.int .i64 x.r)).1
  unfold Cls
  rw [flat_set cs i x hi] at h3
  rw [List.length_set]
  exact h3
theorem own_blk : ∀ k, (Value.slice A cs.length c).ownBlock = some k → k ∈ blks A := fun k hk => (blks_own k).1 hk
theorem far (h : Cls w A c cs) {p : Addr} (hp : p.block ∉ blks A) (u : Value) : Cls (w.setCell p u) A c cs :=
  Fr.own (S := [p.block]) ((Fr.refl [p.block] w).setCell (.inl (by simp)) u) h (fun k hk => by
    have := own_blk k hk
    simp only [List.mem_singleton]
    rintro rfl; exact hp this)
theorem fr {S : List Nat} (h : Cls w A c cs) (hf : Fr S w w') (hd : ∀ k, k ∈ blks A → k ∉ S) : Cls w' A c cs := hf.own h (fun k hk => hd k (own_blk k hk))
theorem drew (h : Cls w A c cs) : Cls w.drew A c cs := h
theorem drewN (h : Cls w A c cs) (n : Nat) : Cls (w.drewN n) A c cs := h
theorem alloc (h : Cls w A c cs) (o : Obj) : Cls (w.alloc o) A c cs := World.ownsRow.alloc h o
theorem nil (w : World) : Cls w none 0 [] := World.ownsRow_nil w 0 _ 3
theorem lt (h : Cls w A c cs) : ∀ k, k ∈ blks A → k < w.heap.size := by
  rcases h.form with ⟨rfl, _⟩ | ⟨g, rfl, h1, _⟩
  · simp [blks]
  · simpa [blks] using h1
theorem len (h : Cls w A c cs) : cs.length ≤ maxLen := by
  rcases h.form with ⟨_, _, rfl⟩ | ⟨g, _, _, h1, h2⟩
  · simp [maxLen]
  · omega
end Cls

/-- A trail's state, plainly. -/
structure Tr where
  cells : List Cel
  lits : List Int
  levels : List Int
structure TrL where
  a : Nat
  A1 : Option Addr
  c1 : Nat
  A2 : Option Addr
  c2 : Nat
  A3 : Option Addr
  c3 : Nat
def TrL.fp (L : TrL) : List Nat := L.a :: (blks L.A1 ++ (blks L.A2 ++ blks L.A3))
structure TrAt (w : World) (L : TrL) (T : Tr) : Prop where
  obj : At w L.a 67 #[.slice L.A1 T.cells.length L.c1, .slice L.A2 T.lits.length L.c2, .slice L.A3 T.levels.length L.c3]
  cells : Cls w L.A1 L.c1 T.cells
  lits : Ints w L.A2 L.c2 T.lits
  levels : Ints w L.A3 L.c3 T.levels
  nodup : L.fp.Nodup

def Tr.isB (T : Tr) (v : Int) : Bool := decide (1 ≤ v) && decide (v < T.cells.length)
theorem Tr.isB_true {T : Tr} {v : Int} (h : T.isB v = true) : 1 ≤ v ∧ v < T.cells.length := by simpa [Tr.isB] using h
def Tr.cel (T : Tr) (v : Int) : Cel := T.cells[v.toNat]!

theorem tr_ret_bool {a b : Bool} (h : a = b) : Ending.returned (.bool a) = .returned (.bool b) := by rw [h]
theorem tr_ret_int {k : IntKind} {a b : Int} (h : a = b) : Ending.returned (.int k a) = .returned (.int k b) := by rw [h]

set_option maxHeartbeats 400000 in
theorem trail_is (w : World) (L : TrL) (T : Tr) (h : TrAt w L T) (v : Int) (b : Bool) (hb : T.isB v = b) :
    Calls Try.prog 51 #[.pointer (some ⟨L.a, 0, none⟩), .int .i64 v] w fun e w' => e = .returned (.bool b) ∧ w = w' := by
  subst hb
  have c1 := h.obj.cell 0
  simp at c1
  unfold Tr.isB
  by_cases h0 : 1 ≤ v
  · by_cases h1 : v < T.cells.length
    · go_enter Try.func51, Try.ntmps51
      go_wp2
      go_ret
      exact ⟨tr_ret_bool (by simp [h0, h1]), rfl⟩
    · go_enter Try.func51, Try.ntmps51
      go_wp2
      go_ret
      exact ⟨tr_ret_bool (by simp [h1]), rfl⟩
  · go_enter Try.func51, Try.ntmps51
    go_wp2
    go_ret
    exact ⟨tr_ret_bool (by simp; omega), rfl⟩
set_option maxHeartbeats 400000 in
theorem trail_is_nil (w : World) (v : Int) :
    Calls Try.prog 51 #[.pointer none, .int .i64 v] w fun e w' => e = .returned (.bool false) ∧ w = w' := by
  go_enter Try.func51, Try.ntmps51
  go_wp2
  go_ret
  exact ⟨rfl, rfl⟩

theorem TrAt.cell_at {w : World} {L : TrL} {T : Tr} (h : TrAt w L T) {v : Int} (h0 : 0 ≤ v) (h1 : v < T.cells.length) :
    ∃ g, L.A1 = some ⟨g, 0, none⟩ ∧ w.cell? ⟨g, v.toNat * 3, none⟩ = some (.int .i64 (T.cel v).v) ∧ w.cell? ⟨g, v.toNat * 3 + 1, none⟩ = some (.int .i64 (T.cel v).l) ∧ w.cell? ⟨g, v.toNat * 3 + 2, none⟩ = some (.int .i64 (T.cel v).r) ∧ ∀ j, w.frozen? ⟨g, j, none⟩ = false := by
  obtain ⟨g, hg, _⟩ := h.cells.pos (i := v.toNat) (by omega)
  refine ⟨g, hg, ?_⟩
  have := h.cells
  rw [hg] at this
  obtain ⟨a, b, c⟩ := this.cell (i := v.toNat) (by omega)
  exact ⟨a, b, c, this.frozen⟩

def Tr.levB (T : Tr) (v : Int) : Int := if T.isB v = true then (T.cel v).l else -1
def Tr.reaB (T : Tr) (v : Int) : Int := if T.isB v = true then (T.cel v).r else 0

set_option maxHeartbeats 400000 in
theorem trail_level (w : World) (L : TrL) (T : Tr) (h : TrAt w L T) (v : Int) :
    Calls Try.prog 41 #[.pointer (some ⟨L.a, 0, none⟩), .int .i64 v] w fun e w' => e = .returned (.int .i64 (T.levB v)) ∧ w = w' := by
  have o1 := h.obj.cell 0
  simp at o1
  unfold Tr.levB
  cases hb : T.isB v with
  | true =>
    obtain ⟨h0, h1⟩ := Tr.isB_true hb
    obtain ⟨g, hg, c0, c1, c2, _⟩ := h.cell_at (v := v) (by omega) h1
    rw [hg] at o1
    have HB := Lib.hid hb
    have HH := Lib.hid h
    clear hb h hg
    go_enter Try.func41, Try.ntmps41
    go_wp2_with fail
    refine (trail_is _ L T HH.out v true HB.out).mono ?_
    rintro e w1 ⟨rfl, rfl⟩
    go_wp2_with fail
    go_ret
    exact ⟨tr_ret_int (by simp), rfl⟩
  | false =>
    have HB := Lib.hid hb
    have HH := Lib.hid h
    clear hb h
    go_enter Try.func41, Try.ntmps41
    go_wp2_with fail
    refine (trail_is _ L T HH.out v false HB.out).mono ?_
    rintro e w1 ⟨rfl, rfl⟩
    go_wp2_with fail
    go_ret
    exact ⟨tr_ret_int (by simp), rfl⟩
set_option maxHeartbeats 400000 in
theorem trail_level_nil (w : World) (v : Int) :
    Calls Try.prog 41 #[.pointer none, .int .i64 v] w fun e w' => e = .returned (.int .i64 (-1)) ∧ w = w' := by
  go_enter Try.func41, Try.ntmps41
  go_wp2_with fail
  refine (trail_is_nil _ v).mono ?_
  rintro e w1 ⟨rfl, rfl⟩
  go_wp2_with fail
  go_ret
  exact ⟨rfl, rfl⟩

set_option maxHeartbeats 400000 in
theorem trail_reason (w : World) (L : TrL) (T : Tr) (h : TrAt w L T) (v : Int) :
    Calls Try.prog 42 #[.pointer (some ⟨L.a, 0, none⟩), .int .i64 v] w fun e w' => e = .returned (.int .i64 (T.reaB v)) ∧ w = w' := by
  have o1 := h.obj.cell 0
  simp at o1
  unfold Tr.reaB
  cases hb : T.isB v with
  | true =>
    obtain ⟨h0, h1⟩ := Tr.isB_true hb
    obtain ⟨g, hg, c0, c1, c2, _⟩ := h.cell_at (v := v) (by omega) h1
    rw [hg] at o1
    have HB := Lib.hid hb
    have HH := Lib.hid h
    clear hb h hg
    go_enter Try.func42, Try.ntmps42
    go_wp2_with fail
    refine (trail_is _ L T HH.out v true HB.out).mono ?_
    rintro e w1 ⟨rfl, rfl⟩
    go_wp2_with fail
    go_ret
    exact ⟨tr_ret_int (by simp), rfl⟩
  | false =>
    have HB := Lib.hid hb
    have HH := Lib.hid h
    clear hb h
    go_enter Try.func42, Try.ntmps42
    go_wp2_with fail
    refine (trail_is _ L T HH.out v false HB.out).mono ?_
    rintro e w1 ⟨rfl, rfl⟩
    go_wp2_with fail
    go_ret
    exact ⟨tr_ret_int (by simp), rfl⟩
set_option maxHeartbeats 400000 in
theorem trail_reason_nil (w : World) (v : Int) :
    Calls Try.prog 42 #[.pointer none, .int .i64 v] w fun e w' => e = .returned (.int .i64 0) ∧ w = w' := by
  go_enter Try.func42, Try.ntmps42
  go_wp2_with fail
  refine (trail_is_nil _ v).mono ?_
  rintro e w1 ⟨rfl, rfl⟩
  go_wp2_with fail
  go_ret
  exact ⟨rfl, rfl⟩

set_option maxHeartbeats 400000 in
theorem trail_depth (w : World) (L : TrL) (T : Tr) (h : TrAt w L T) :
    Calls Try.prog 20 #[.pointer (some ⟨L.a, 0, none⟩)] w fun e w' => e = .returned (.int .i64 T.levels.length) ∧ w = w' := by
  have o1 := h.obj.cell 2
  simp at o1
  clear h
  go_enter Try.func20, Try.ntmps20
  go_wp2
  go_ret
  exact ⟨rfl, rfl⟩
theorem trail_depth_nil (w : World) : Calls Try.prog 20 #[.pointer none] w fun e w' => e = .returned (.int .i64 0) ∧ w = w' := by
  go_enter Try.func20, Try.ntmps20
  go_wp2
  go_ret
  exact ⟨rfl, rfl⟩
set_option maxHeartbeats 400000 in
theorem trail_len (w : World) (L : TrL) (T : Tr) (h : TrAt w L T) :
    Calls Try.prog 43 #[.pointer (some ⟨L.a, 0, none⟩)] w fun e w' => e = .returned (.int .i64 T.lits.length) ∧ w = w' := by
  have o1 := h.obj.cell 1
  simp at o1
  clear h
  go_enter Try.func43, Try.ntmps43
  go_wp2
  go_ret
  exact ⟨rfl, rfl⟩
theorem trail_len_nil (w : World) : Calls Try.prog 43 #[.pointer none] w fun e w' => e = .returned (.int .i64 0) ∧ w = w' := by
  go_enter Try.func43, Try.ntmps43
  go_wp2
  go_ret
  exact ⟨rfl, rfl⟩

def Tr.atB (T : Tr) (i : Int) : Int := if 0 ≤ i ∧ i < T.lits.length then T.lits[i.toNat]! else 0
set_option maxHeartbeats 400000 in
theorem trail_at (w : World) (L : TrL) (T : Tr) (h : TrAt w L T) (i : Int) :
    Calls Try.prog 40 #[.pointer (some ⟨L.a, 0, none⟩), .int .i64 i] w fun e w' => e = .returned (.int .i64 (T.atB i)) ∧ w = w' := by
  have o1 := h.obj.cell 1
  simp at o1
  unfold Tr.atB
  by_cases h0 : 0 ≤ i
  · by_cases h1 : i < T.lits.length
    · obtain ⟨g, hg, _⟩ := h.lits.pos (i := i.toNat) (by omega)
      have hc := h.lits
      rw [hg] at hc o1
      have c1 := hc.cell (i := i.toNat) (by omega)
      rw [if_pos ⟨h0, h1⟩]
      obtain ⟨y, hy⟩ : ∃ y, T.lits[i.toNat]! = y := ⟨_, rfl⟩
      rw [hy] at c1 ⊢
      clear h hg hc hy
      go_enter Try.func40, Try.ntmps40
      go_wp2
      go_ret
      exact ⟨rfl, rfl⟩
    · rw [if_neg (by omega)]
      clear h
      go_enter Try.func40, Try.ntmps40
      go_wp2
      go_ret
      exact ⟨rfl, rfl⟩
  · rw [if_neg (by omega)]
    clear h
    go_enter Try.func40, Try.ntmps40
    go_wp2
    go_ret
    exact ⟨rfl, rfl⟩
theorem trail_at_nil (w : World) (i : Int) : Calls Try.prog 40 #[.pointer none, .int .i64 i] w fun e w' => e = .returned (.int .i64 0) ∧ w = w' := by
  go_enter Try.func40, Try.ntmps40
  go_wp2
  go_ret
  exact ⟨rfl, rfl⟩

end Go.Proofs.Ytnbpnpodpnlamaa
