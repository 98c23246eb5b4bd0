/- What Target makes, and how its rows lie: plain lemmas. -/
import Derived.Test.YtbjccgahmgpkjaaGate
import Derived.Test.YtbjccgahmgpkjaaCopy
namespace Go.Proofs.Ytbjccgahmgpkjaa
open Go.RowKit
set_option linter.unusedVariables false

theorem gates_calls (w : World) (bx : Nat) (H : Hd) (C : Pc) (A : Option Addr) (c : Nat) (x : Int) (xs : List Int) (hb : At w bx 27 (cvs H C)) (ho : w.ownsRow 0 70 3 (.slice H.gA C.ands.length H.gC) C.ands.length (flatT C.ands)) (hd : bx ∉ blks H.gA)
    (h : Rd w A (x :: xs)) (hda : ∀ k, k ∈ blks A → k ∉ bx :: blks H.gA) (hc : xs.length + 1 ≤ c) (hcm : c ≤ maxLen) (h0 : 0 ≤ C.mx) (h1 : C.mx + xs.length ≤ 2048) (hx : inB C.mx (x :: xs) = true) (hgl : C.ands.length ≤ 4096) :
    Calls Try.prog 25 #[.pointer (some ⟨bx, 0, none⟩), .slice A (xs.length + 1) c] w (GtP bx H C x xs w) := by
  cases xs with
  | nil =>
    have hin : ∀ y ∈ [x], 0 ≤ y ∧ y ≤ 2 * C.mx + 1 := by
      intro y hy
      have := List.all_eq_true.1 hx y hy
      simpa using this
    obtain ⟨hx0, hx1⟩ := hin x (by simp)
    obtain ⟨b, o, rfl, hcell⟩ := h (by simp)
    have c0 := hcell 0 (by simp)
    rw [maxLen] at hcm
    simp only [List.length_nil, Int.ofNat_zero, Int.add_zero] at h1
    have h1' : C.mx ≤ 2048 := by simpa using h1
    exact gates_nil w bx H C b o c x hb ho (by simpa using c0) (by simpa using hc) (by omega) hx0 (by omega)
  | cons y r => exact gates_cons w bx H C A c x (y :: r) hb ho hd h hda hc hcm h0 h1 hx hgl (by simp)

/-- Rows of two types are two. -/
theorem own_far {w : World} {e e' : TypeId} {size size' n n' c c' : Nat} {A A' : Option Addr} {vs vs' : List Value} (h : w.ownsRow 0 e size (.slice A n c) n vs) (h' : w.ownsRow 0 e' size' (.slice A' n' c') n' vs') (hne : e ≠ e') : ∀ k, k ∈ blks A → k ∉ blks A' := by
  intro k hk hk'
  rcases h.2 with ⟨h1, _⟩ | ⟨g, cap, cur, hv, _, hg, _⟩
  · simp only [Value.slice.injEq] at h1
    rw [h1.1] at hk
    simp [blks] at hk
  · rcases h'.2 with ⟨h1, _⟩ | ⟨g', cap', cur', hv', _, hg', _⟩
    · simp only [Value.slice.injEq] at h1
      rw [h1.1] at hk'
      simp [blks] at hk'
    · simp only [Value.slice.injEq, true_and] at hv hv'
      obtain ⟨rfl, rfl⟩ := hv
      obtain ⟨rfl, rfl⟩ := hv'
      simp [blks] at hk hk'
      subst hk hk'
      rw [hg] at hg'
      simp only [Option.some.injEq, Obj.cells.injEq] at hg'
      exact hne hg'.2.1

/-- The circuit that Target makes. -/
def tgt (C : Pc) : List Int → Pc
  | [] => { C with bads := [1], nms := kept C.nms }
  | x :: xs => { C with mx := C.mx + xs.length, bads := [gtAll C.mx (notI x) xs], ands := C.ands ++ gtAnds C.mx (notI x) xs, nms := kept C.nms }

theorem own_get (C : Pc) (h : Valid C) (j : Nat) (hj : j < C.ands.length) : 2 ≤ (C.ands[j]!).a ∧ (C.ands[j]!).a ≤ 2 * C.mx ∧ (C.ands[j]!).a % 2 = 0 := by
  have hl : C.ins.length + C.lat.length + j < (ownL C).length := by simp [ownL]; omega
  have := h.own _ hl
  have e : (ownL C)[C.ins.length + C.lat.length + j]! = (C.ands[j]!).a := by
    rw [ownL, List.getElem!_eq_getElem?_getD, List.getElem?_append_right (by simp)]
    simp [List.getElem?_eq_getElem hj]
  simp only [ownB, e, Bool.and_eq_true, decide_eq_true_eq] at this
  exact ⟨this.1.1.1, this.1.2, this.1.1.2⟩
theorem ands_inc (C : Pc) (h : Valid C) : ∀ j : Nat, j < C.ands.length → 2 + (j : Int) ≤ (C.ands[j]!).a := by
  intro j
  induction j with
  | zero => intro hj; have := own_get C h 0 hj; omega
  | succ j ih =>
    intro hj
    have h1 := ih (by omega)
    have h2 := h.ands (j + 1) hj
    simp only [andB, prv, if_neg (Nat.succ_ne_zero j), Nat.add_sub_cancel, Bool.and_eq_true, decide_eq_true_eq] at h2
    have := h2.1.1.1.1
    omega
theorem ands_len (C : Pc) (h : Valid C) : C.ands.length ≤ 4096 := by
  rcases Nat.eq_zero_or_pos C.ands.length with h0 | h0
  · omega
  · have h1 := ands_inc C h (C.ands.length - 1) (by omega)
    have h2 := own_get C h (C.ands.length - 1) (by omega)
    have := h.m1
    omega

theorem OwC.del {w w' : World} {B : Nat} {H : Hd} {C : Pc} (h : OwC w B H C) (hf : Fr (blks H.nA) w w') (hn : w'.ownsRow 0 61 3 (.slice H.nA (kept C.nms).length H.nC) (kept C.nms).length (flatM (kept C.nms))) :
    OwC w' B H { C with nms := kept C.nms } :=
  ⟨h.i.fr hf (own_far h.i.1 h.n.1 (by decide)), h.l.fr hf (own_far h.l.1 h.n.1 (by decide)), h.o.fr hf (own_far h.o.1 h.n.1 (by decide)), h.b.fr hf (own_far h.b.1 h.n.1 (by decide)), h.v.fr hf (own_far h.v.1 h.n.1 (by decide)), h.g.fr hf (own_far h.g.1 h.n.1 (by decide)), ⟨hn, h.n.2⟩⟩
theorem OwC.keep {w w' : World} {B : Nat} {H : Hd} {C : Pc} {S : List Nat} (h : OwC w B H C) (hf : Fr S w w') (hS : ∀ k, k ∈ S → k < B ∨ w.heap.size ≤ k ∨ ∃ cs, At w k 27 cs) : OwC w' B H C := by
  have key : ∀ {e : TypeId} {size n c : Nat} {A : Option Addr} {vs : List Value}, e ≠ 27 → Ow w B e size A c n vs → Ow w' B e size A c n vs := by
    intro e size n c A vs hne ho
    refine ho.fr hf (fun k hk hm => ?_)
    rcases hS k hm with h1 | h1 | ⟨cs, h1⟩
    · have := ho.2 k hk; omega
    · have := own_lt ho.1 k hk; omega
    · rcases ho.1.2 with ⟨h2, _⟩ | ⟨g, cap, cur, hv, _, hg, _⟩
      · simp only [Value.slice.injEq] at h2
        rw [h2.1] at hk
        simp [blks] at hk
      · simp only [Value.slice.injEq, true_and] at hv
        obtain ⟨rfl, rfl⟩ := hv
        simp [blks] at hk
        subst hk
        unfold At at h1
        rw [hg] at h1
        simp only [Option.some.injEq, Obj.cells.injEq] at h1
        exact hne h1.2.1
  exact ⟨key (by decide) h.i, key (by decide) h.l, key (by decide) h.o, key (by decide) h.b, key (by decide) h.v, key (by decide) h.g, key (by decide) h.n⟩

/-- Blocks of a type that is no row's. -/
theorem own_circ {w : World} {e : TypeId} {size n c ob : Nat} {A : Option Addr} {vs : List Value} {cs : Array Value} (h : w.ownsRow 0 e size (.slice A n c) n vs) (hob : At w ob 27 cs) (hne : e ≠ 27) : ob ∉ blks A := by
  intro hm
  rcases h.2 with ⟨h2, _⟩ | ⟨g, cap, cur, hv, _, hg, _⟩
  · simp only [Value.slice.injEq] at h2
    rw [h2.1] at hm
    simp [blks] at hm
  · simp only [Value.slice.injEq, true_and] at hv
    obtain ⟨rfl, rfl⟩ := hv
    simp [blks] at hm
    subst hm
    unfold At at hob
    rw [hg] at hob
    simp only [Option.some.injEq, Obj.cells.injEq] at hob
    exact hne hob.2.1
theorem Ow.gate {w w' : World} {B size n c ob : Nat} {e : TypeId} {A G : Option Addr} {vs vs' : List Value} {cs : Array Value} {m cg : Nat} (h : Ow w B e size A c n vs) (hob : At w ob 27 cs) (hg : w.ownsRow 0 70 3 (.slice G m cg) m vs') (hf : Fr (ob :: blks G) w w') (h1 : e ≠ 27) (h2 : e ≠ 70) : Ow w' B e size A c n vs := by
  refine h.fr hf (fun k hk hm => ?_)
  rcases List.mem_cons.1 hm with rfl | hm
  · exact own_circ h.1 hob h1 hk
  · exact own_far h.1 hg h2 k hk hm
theorem OwC.gate {w w' : World} {B ob c' : Nat} {H : Hd} {C : Pc} {cs : Array Value} {A' : Option Addr} {mx' : Int} {as_ : List T3} (h : OwC w B H C) (hob : At w ob 27 cs) (hf : Fr (ob :: blks H.gA) w w')
    (hrow : w'.ownsRow 0 70 3 (.slice A' as_.length c') as_.length (flatT as_)) (hfar : ∀ k, k ∈ blks A' → k ∈ blks H.gA ∨ w.heap.size ≤ k) (hB : B ≤ w.heap.size) :
    OwC w' B { H with gA := A', gC := c' } { C with mx := mx', ands := as_ } :=
  ⟨h.i.gate hob h.g.1 hf (by decide) (by decide), h.l.gate hob h.g.1 hf (by decide) (by decide), h.o.gate hob h.g.1 hf (by decide) (by decide), h.b.gate hob h.g.1 hf (by decide) (by decide), h.v.gate hob h.g.1 hf (by decide) (by decide),
    ⟨hrow, fun k hk => (hfar k hk).elim (fun h1 => h.g.2 k h1) (fun h1 => Nat.le_trans hB h1)⟩, h.n.gate hob h.g.1 hf (by decide) (by decide)⟩
/-- Another row of Bads. -/
theorem OwC.bad {w : World} {B c' : Nat} {H : Hd} {C : Pc} {A' : Option Addr} {bs : List Int} (h : OwC w B H C) (hb : Ow w B 3 1 A' c' bs.length (bs.map (Value.int .i64))) : OwC w B { H with bA := A', bC := c' } { C with bads := bs } :=
  ⟨h.i, h.l, h.o, hb, h.v, h.g, h.n⟩

/-- The one Bad, written. -/
theorem OwC.setBad {w : World} {B gb : Nat} {H : Hd} {C : Pc} {y : Int} (v : Int) (h : OwC w B H C) (hA : H.bA = some ⟨gb, 0, none⟩) (hb : C.bads = [y]) (hi : ∀ k, k ∈ blks H.iA → k < gb) (ho : ∀ k, k ∈ blks H.oA → k < gb) (hv : ∀ k, k ∈ blks H.vA → k < gb) :
    OwC (w.setCell ⟨gb, 0, none⟩ (.int .i64 v)) B H { C with bads := [v] } := by
  obtain ⟨mx, ins, lat, outs, bads, invs, ands, nms⟩ := C
  obtain ⟨iA, iC, lA, lC, oA, oC, bA, bC, vA, vC, gA, gC, nA, nC⟩ := H
  simp only at hA hb hi ho hv
  subst hA hb
  have hf : Fr [gb] w (w.setCell ⟨gb, 0, none⟩ (.int .i64 v)) := (Fr.refl [gb] w).setCell (.inl (by simp)) _
  have hne : ∀ {e : TypeId} {size n c : Nat} {A : Option Addr} {vs : List Value}, Ow w B e size A c n vs → e ≠ 3 → ∀ k, k ∈ blks A → k ∉ [gb] := fun h1 h2 k hk hm => by
    simp at hm
    subst hm
    exact own_far h1.1 h.b.1 h2 _ hk (by simp [blks])
  have hlt : ∀ {A : Option Addr}, (∀ k, k ∈ blks A → k < gb) → ∀ k, k ∈ blks A → k ∉ [gb] := fun h1 k hk hm => by
    simp at hm
    have := h1 k hk
    omega
  refine ⟨h.i.fr hf (hlt hi), h.l.fr hf (hne h.l (by decide)), h.o.fr hf (hlt ho), ⟨?_, h.b.2⟩, h.v.fr hf (hlt hv), h.g.fr hf (hne h.g (by decide)), h.n.fr hf (hne h.n (by decide))⟩
  have := (World.ownsRow.stored h.b.1 0 (.int .i64 v)).1
  simpa using this

theorem kept_sub (l : List Nm) : (kept l).length ≤ l.length := List.length_filter_le _ _
theorem mem_idx {α : Type} [Inhabited α] {l : List α} {p : α → Prop} : (∀ j : Nat, j < l.length → p l[j]!) ↔ ∀ x ∈ l, p x := by
  constructor
  · intro h x hx
    obtain ⟨j, hj, e⟩ := List.mem_iff_getElem.1 hx
    have := h j hj
    rwa [List.getElem!_eq_getElem?_getD, List.getElem?_eq_getElem hj, e] at this
  · intro h j hj
    exact h _ (by rw [List.getElem!_eq_getElem?_getD, List.getElem?_eq_getElem hj]; simp)
theorem gtAnds_r : ∀ (l : List Int) (m all : Int), 0 ≤ m → m + l.length ≤ 4096 → 0 ≤ all → all ≤ 9000 → (∀ y ∈ l, 0 ≤ y ∧ y ≤ 9000) → ∀ x ∈ gtAnds m all l, R64 x.a ∧ R64 x.b ∧ R64 x.c
  | [], _, _, _, _, _, _, _ => fun x hx => by cases hx
  | y :: r, m, all, h0, h3, h1, h2, hy => by
    simp only [List.length_cons] at h3
    intro x hx
    simp only [gtAnds, List.mem_cons] at hx
    obtain ⟨y0, y1⟩ := hy y (by simp)
    rcases hx with rfl | hx
    · refine ⟨⟨?_, ?_⟩, ⟨?_, ?_⟩, ?_, ?_⟩ <;> simp only [notI] <;> first | omega | (split <;> omega)
    · exact gtAnds_r r (m + 1) (2 * (m + 1)) (by omega) (by omega) (by omega) (by omega) (fun z hz => hy z (by simp [hz])) x hx

/-- The rows of a circuit of the call's own, read. -/
theorem OwC.at_ {w w0 : World} {B : Nat} {H H0 : Hd} {C : Pc} {xs : List Int} (h : OwC w B H (tgt C xs)) (h0 : CiAt w0 H0 C) (hv : Valid C) (hx : inB C.mx xs = true) (hl : (xs.length : Int) - 1 ≤ 2048 - C.mx) : CiAt w H (tgt C xs) := by
  have hin : ∀ y ∈ xs, 0 ≤ y ∧ y ≤ 2 * C.mx + 1 := by
    intro y hy
    have := List.all_eq_true.1 hx y hy
    simpa using this
  have hm0 := hv.m0
  have hm1 := hv.m1
  have hal := ands_len C hv
  have hrs : ∀ {e : TypeId} {size n c : Nat} {A : Option Addr} {vs : List Value}, Ow w B e size A c n vs → Rs w A vs := fun ho => own_rs ho.1 ho.1.1
  have hkl := kept_sub C.nms
  have hnL := h0.nL
  have hkr : Rm (kept C.nms) := (mem_idx (p := fun x : Nm => x.k.size ≤ maxLen ∧ R64 x.i ∧ x.t.size ≤ maxLen)).2 fun x hx => (mem_idx (p := fun x : Nm => x.k.size ≤ maxLen ∧ R64 x.i ∧ x.t.size ≤ maxLen)).1 h0.nr x (List.mem_filter.1 hx).1
  cases xs with
  | nil =>
    refine ⟨(hrs h.i).rd, (hrs h.l).rdT, (hrs h.o).rd, (hrs h.b).rd, (hrs h.v).rd, (hrs h.g).rdT, (hrs h.n).rdM, h0.iL, h0.lL, h0.oL, by simp [tgt], h0.vL, h0.gL, by simp only [tgt]; omega, h0.mr, h0.ir, h0.lr, h0.or_, ?_, h0.vr, h0.gr, hkr⟩
    intro j hj
    simp only [tgt, List.length_singleton] at hj
    obtain rfl : j = 0 := by omega
    exact (⟨by decide, by decide⟩ : R64 1)
  | cons x r =>
    simp only [List.length_cons] at hl
    obtain ⟨x0, x1⟩ := hin x (by simp)
    have hn : 0 ≤ notI x ∧ notI x ≤ 9000 := by unfold notI; split <;> omega
    refine ⟨(hrs h.i).rd, (hrs h.l).rdT, (hrs h.o).rd, (hrs h.b).rd, (hrs h.v).rd, (hrs h.g).rdT, (hrs h.n).rdM, h0.iL, h0.lL, h0.oL, by simp [tgt], h0.vL, by simp only [tgt, List.length_append, gtAnds_len]; omega, by simp only [tgt]; omega, ⟨by simp only [tgt]; omega, by simp only [tgt]; omega⟩, h0.ir, h0.lr, h0.or_, ?_, h0.vr, ?_, hkr⟩
    · intro j hj
      simp only [tgt, List.length_singleton] at hj
      obtain rfl : j = 0 := by omega
      have := gtAll_r r C.mx (notI x) hm0 (by omega) hn.1 hn.2
      simp only [tgt]
      exact ⟨by show _ ≤ gtAll C.mx (notI x) r; omega, by show gtAll C.mx (notI x) r ≤ _; omega⟩
    · refine (mem_idx (p := fun x : T3 => R64 x.a ∧ R64 x.b ∧ R64 x.c)).2 fun y hy => ?_
      simp only [tgt, List.mem_append] at hy
      rcases hy with hy | hy
      · exact (mem_idx (p := fun x : T3 => R64 x.a ∧ R64 x.b ∧ R64 x.c)).1 h0.gr y hy
      · exact gtAnds_r r C.mx (notI x) hm0 (by omega) hn.1 hn.2 (fun z hz => by have := hin z (by simp [hz]); omega) y hy

end Go.Proofs.Ytbjccgahmgpkjaa
