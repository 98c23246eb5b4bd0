/- prove.gates walked. -/
import Derived.Test.YtbjccgahmgpkjaaDelB
import Derived.Test.YtbjccgahmgpkjaaTgtA
namespace Go.Proofs.Ytbjccgahmgpkjaa
open Go.RowKit
set_option linter.unusedVariables false

/-- One element more, in a region that draws its order. -/
theorem step_append_one {w : World} {ops : Array Oper} {o : Oper} {a : Act} {K : Act → World → Prop} {Q : Exit → Act → World → Prop} {E : Prop} (hgd : o.guard = none) (s x : Operand) (t : TypeId)
    (ho : o.op = .call { callee := .builtin .append, args := #[s, x], argTypes := #[t, t] }) (e : TypeId) (z : Value) (size bytes : Nat) (ht : Try.prog.underlying t = some (.slice e)) (hi : (Try.prog.info? e).map (fun i => (i.zero, i.size, i.bytes)) = some (some z, size, bytes)) (hzs : z.cells.size = size) (hsz : 0 < size)
    (A : Option Addr) (c n : Nat) (hs : a.eval s = .slice A n c) (xs : List Value) (hown : w.ownsRow 0 e size (.slice A n c) n xs) (ad : Addr) (c' : Nat) (hx : a.eval x = .slice (some ad) 1 c') (news : List Value) (hl : news.length = size)
    (hnews : ∀ j u, news[j]? = some u → w.cell? (ad.add j) = some u) (h1 : ∀ u ∈ news, u.oneCell' = true) (h63 : n + 1 ≤ maxLen) (hbytes : (n + 1) * bytes ≤ 140737488355328)
    (h : ∀ g cap w', w'.ownsRow 0 e size (.slice (some ⟨g, 0, none⟩) (n + 1) cap) (n + 1) (xs ++ news) → Fr (blks A) w w' → (g ∈ blks A ∨ g = w.heap.size) → K (a.put o.dst (.slice (some ⟨g, 0, none⟩) (n + 1) cap)) w') :
    if Region.wanted o (yielded ops a.tmps) = true then Oper.wp Try.prog o a w K Q else E := by
  have hw : Region.wanted o (yielded ops a.tmps) = true := by simp [Region.wanted, hgd]
  rw [if_pos hw]
  obtain ⟨A', cap, w', hr, h2, h3, h4, h5, h6, h7⟩ := run_append_row w t o.type e z size bytes ht hi hzs hsz A c n xs hown ad 1 c' news (by omega) hnews h1 h63 hbytes
  cases A' with
  | none => exact absurd (h6 rfl).1 (by decide)
  | some a' =>
    obtain ⟨g, rfl⟩ := h7 a' rfl
    unfold Oper.wp execOp
    simp only [ho, resolve, invoke, builtin, Sem.run_bind, Sem.run_pure, Result.andThen_ok, List.map_toArray, List.map_cons, List.map_nil, hs, hx, hr]
    exact h g cap w' h2 h3 (h4 g (by simp [blks]))

/-- The ands of gates, and its answer. -/
def gtAnds : Int → Int → List Int → List T3
  | _, _, [] => []
  | m, all, x :: r => ⟨2 * (m + 1), all, notI x⟩ :: gtAnds (m + 1) (2 * (m + 1)) r
def gtAll : Int → Int → List Int → Int
  | _, all, [] => all
  | m, _, _ :: r => gtAll (m + 1) (2 * (m + 1)) r
theorem gtAnds_snoc : ∀ (l : List Int) (m all x : Int), gtAnds m all (l ++ [x]) = gtAnds m all l ++ [⟨2 * (m + l.length + 1), gtAll m all l, notI x⟩]
  | [], m, all, x => by simp [gtAnds, gtAll]
  | y :: r, m, all, x => by
    simp only [List.cons_append, gtAnds, gtAll, gtAnds_snoc r, List.length_cons]
    have e : m + 1 + (r.length : Int) + 1 = m + ((r.length + 1 : Nat) : Int) + 1 := by omega
    rw [e]
theorem gtAll_snoc : ∀ (l : List Int) (m all x : Int), gtAll m all (l ++ [x]) = 2 * (m + l.length + 1)
  | [], m, all, x => by simp [gtAll]
  | y :: r, m, all, x => by
    simp only [List.cons_append, gtAll, gtAll_snoc r, List.length_cons]
    omega
theorem gtAnds_len : ∀ (l : List Int) (m all : Int), (gtAnds m all l).length = l.length
  | [], _, _ => rfl
  | y :: r, m, all => by simp [gtAnds, gtAnds_len r]
theorem gtAll_r : ∀ (l : List Int) (m all : Int), 0 ≤ m → m + l.length ≤ 4096 → 0 ≤ all → all ≤ 9000 → 0 ≤ gtAll m all l ∧ gtAll m all l ≤ 9000
  | [], m, all, _, _, h1, h2 => ⟨h1, h2⟩
  | y :: r, m, all, h0, h3, h1, h2 => by
    simp only [List.length_cons] at h3
    exact gtAll_r r (m + 1) (2 * (m + 1)) (by omega) (by omega) (by omega) (by omega)
theorem Rd.frS {w w' : World} {A : Option Addr} {xs : List Int} {S : List Nat} (h : Rd w A xs) (hf : Fr S w w') (hd : ∀ k, k ∈ blks A → k ∉ S) : Rd w' A xs := by
  intro h0
  obtain ⟨b, o, hA, hx⟩ := h h0
  refine ⟨b, o, hA, fun j hj => ?_⟩
  have hl := lt_of_cell (hx j hj)
  rw [← hx j hj]
  exact World.cell?_of_block (hf.block b hl (hd b (by rw [hA]; simp [blks])))

theorem new_cells (w : World) (x y z : Int) : ∀ (j : Nat) (u : Value), [Value.int .i64 x, .int .i64 y, .int .i64 z][j]? = some u → (w.drew.alloc (.cells #[.int .i64 x, .int .i64 y, .int .i64 z] 70)).cell? ((Addr.mk w.heap.size 0 none).add j) = some u := by
  intro j u h
  have e := (At.new w.drew 70 #[.int .i64 x, .int .i64 y, .int .i64 z]).cell j
  rw [adr_add, Nat.zero_add]
  refine Eq.trans e ?_
  simpa using h
theorem three_one {x y z : Int} : ∀ u ∈ [Value.int .i64 x, .int .i64 y, .int .i64 z], u.oneCell' = true := by
  intro u hu
  simp only [List.mem_cons, List.not_mem_nil, or_false] at hu
  rcases hu with rfl | rfl | rfl <;> rfl

/-- What gates answers: the box, and the row of the ands. -/
structure GtP (bx : Nat) (H : Hd) (C : Pc) (x : Int) (xs : List Int) (w : World) (e : Ending) (w' : World) : Prop where
  ans : e = .returned (.int .i64 (gtAll C.mx (notI x) xs))
  lay : ∃ A' c', At w' bx 27 (cvs { H with gA := A', gC := c' } { C with mx := C.mx + xs.length, ands := C.ands ++ gtAnds C.mx (notI x) xs }) ∧
    w'.ownsRow 0 70 3 (.slice A' (C.ands ++ gtAnds C.mx (notI x) xs).length c') (C.ands ++ gtAnds C.mx (notI x) xs).length (flatT (C.ands ++ gtAnds C.mx (notI x) xs)) ∧ (∀ k, k ∈ blks A' → k ∈ blks H.gA ∨ w.heap.size ≤ k)
  fr : Fr (bx :: blks H.gA) w w'

/-- Between two rounds. -/
structure GtI (bx : Nat) (H : Hd) (C : Pc) (a0 : Int) (xs : List Int) (w : World) (k : Nat) (m all : Int) (as_ : List T3) (A : Option Addr) (c : Nat) (wr : World) : Prop where
  m_ : m = C.mx + k
  all_ : all = gtAll C.mx a0 (xs.take k)
  asq : as_ = C.ands ++ gtAnds C.mx a0 (xs.take k)
  box : At wr bx 27 (cvs { H with gA := A, gC := c } { C with mx := m, ands := as_ })
  row : wr.ownsRow 0 70 3 (.slice A as_.length c) as_.length (flatT as_)
  far : ∀ k, k ∈ blks A → k ∈ blks H.gA ∨ w.heap.size ≤ k
  fr : Fr (bx :: blks H.gA) w wr

theorem GtI.step {bx : Nat} {H : Hd} {C : Pc} {a0 : Int} {xs : List Int} {w : World} {k : Nat} {m all : Int} {as_ : List T3} {A : Option Addr} {c : Nat} {wr wi wa w3 : World} {y : Int} {g cap : Nat} (hi : GtI bx H C a0 xs w k m all as_ A c wr) (hlt : k < xs.length) (hy : xs[k]! = y)
    (hf : Fr [bx] wr wi) (hwa : Fr [] wi wa) (hfz : Fr (blks A) wa w3) (hg : g ∈ blks A ∨ g = wa.heap.size) (hbA : bx ∉ blks A) (hbw : bx < w.heap.size)
    (hrow : w3.ownsRow 0 70 3 (.slice (some ⟨g, 0, none⟩) (as_.length + 1) cap) (as_.length + 1) (flatT as_ ++ [.int .i64 (2 * (m + 1)), .int .i64 all, .int .i64 (notI y)]))
    (hbox : At w3 bx 27 #[.int .i64 (m + 1), .slice H.iA C.ins.length H.iC, .slice H.lA C.lat.length H.lC, .slice H.oA C.outs.length H.oC, .slice H.bA C.bads.length H.bC, .slice H.vA C.invs.length H.vC, .slice A as_.length c, .slice H.nA C.nms.length H.nC]) :
    GtI bx H C a0 xs w (k + 1) (m + 1) (2 * (m + 1)) (as_ ++ [⟨2 * (m + 1), all, notI y⟩]) (some ⟨g, 0, none⟩) cap (w3.setCell ⟨bx, 6, none⟩ (.slice (some ⟨g, 0, none⟩) (as_.length + 1) cap)) := by
  have s1 := hi.fr.size
  have s2 := hf.size
  have s3 := hwa.size
  have hgb : g ≠ bx := by
    rcases hg with h | h
    · rintro rfl; exact hbA h
    · omega
  have ht : xs.take (k + 1) = xs.take k ++ [y] := by
    rw [List.take_succ_eq_append_getElem hlt, ← hy]
    simp [hlt]
  have hl : (xs.take k).length = k := by rw [List.length_take]; omega
  have hf3 : Fr (bx :: blks H.gA) w w3 := by
    refine Fr.trans ((hi.fr.trans hf (fun x hx => .inl (by simp at hx; simp [hx]))).then_ (hwa.mono (fun _ h => by cases h))) hfz (fun x hx => ?_)
    rcases hi.far x hx with h | h
    · exact .inl (by simp [h])
    · exact .inr h
  refine ⟨by have := hi.m_; omega, ?_, ?_, ?_, ?_, ?_, ?_⟩
  · rw [ht, gtAll_snoc, hl, hi.m_]
  · rw [ht, gtAnds_snoc, hl, ← hi.all_, hi.asq, List.append_assoc, hi.m_]
  · have := hbox.set_ 6 (.slice (some ⟨g, 0, none⟩) (as_.length + 1) cap)
    simpa [cvs] using this
  · rw [flatT_app, List.length_append]
    exact ((Fr.refl [bx] w3).setCell (.inl (by simp)) _).own hrow (fun j hj h => by simp [Value.ownBlock] at hj h; omega)
  · intro j hj
    simp [blks] at hj
    subst hj
    rcases hg with h | h
    · exact hi.far _ h
    · exact .inr (by omega)
  · exact hf3.setCell (.inl (by simp)) _

theorem gates_nil (w : World) (bx : Nat) (H : Hd) (C : Pc) (b o : Nat) (c : Nat) (x : Int) (hb : At w bx 27 (cvs H C)) (ho : w.ownsRow 0 70 3 (.slice H.gA C.ands.length H.gC) C.ands.length (flatT C.ands))
    (h : w.cell? ⟨b, o, none⟩ = some (.int .i64 x)) (hc : 1 ≤ c) (hcm : c ≤ 9223372036854775807) (hx0 : 0 ≤ x) (hx1 : x ≤ 9000) :
    Calls Try.prog 25 #[.pointer (some ⟨bx, 0, none⟩), .slice (some ⟨b, o, none⟩) 1 c] w (GtP bx H C x [] w) := by
  have K1 := Lib.hid (lnot_nn w x hx0 (by omega))
  have YES : Hid (GtP bx H C x [] w (.returned (.int .i64 (notI x))) w) := ⟨rfl, ⟨H.gA, H.gC, by simpa [gtAnds] using hb, by simpa [gtAnds] using ho, fun k hk => .inl hk⟩, Fr.refl _ _⟩
  clear hb ho
  by_cases hc1 : c = 1
  · subst hc1
    go_enter Try.func25, Try.ntmps25
    go_wp2_with fail
    refine K1.out.mono ?_
    rintro e w1 ⟨rfl, rfl⟩
    go_wp2_with fail
    go_loopg [5, 16] 0 (fun gk x5 x16 wr => x5 = .int .i64 (notI x) ∧ x16 = .int .i64 0 ∧ wr = w)
    case atStart => exact ⟨rfl, rfl, rfl⟩
    case round =>
      obtain ⟨rfl, rfl, rfl⟩ := hrel
      go_wp2_with fail
      go_ret
      exact YES.out
  · go_enter Try.func25, Try.ntmps25
    go_wp2_with fail
    refine K1.out.mono ?_
    rintro e w1 ⟨rfl, rfl⟩
    go_wp2_with fail
    go_loopg [5, 16] 0 (fun gk x5 x16 wr => x5 = .int .i64 (notI x) ∧ x16 = .int .i64 0 ∧ wr = w)
    case atStart => exact ⟨rfl, rfl, rfl⟩
    case round =>
      obtain ⟨rfl, rfl, rfl⟩ := hrel
      go_wp2_with fail
      go_ret
      exact YES.out

set_option maxHeartbeats 4000000 in
theorem gates_cons (w : World) (bx : Nat) (H : Hd) (C : Pc) (A : Option Addr) (c : Nat) (x : Int) (xs : List Int) (hb : At w bx 27 (cvs H C)) (ho : w.ownsRow 0 70 3 (.slice H.gA C.ands.length H.gC) C.ands.length (flatT C.ands)) (hd : bx ∉ blks H.gA)
    (h : Rd w A (x :: xs)) (hda : ∀ k, k ∈ blks A → k ∉ bx :: blks H.gA) (hc : xs.length + 1 ≤ c) (hcm : c ≤ maxLen) (h0 : 0 ≤ C.mx) (h1 : C.mx + xs.length ≤ 2048) (hx : inB C.mx (x :: xs) = true) (hgl : C.ands.length ≤ 4096) (h2 : 0 < xs.length) :
    Calls Try.prog 25 #[.pointer (some ⟨bx, 0, none⟩), .slice A (xs.length + 1) c] w (GtP bx H C x xs w) := by
  have hin : ∀ y ∈ x :: xs, 0 ≤ y ∧ y ≤ 2 * C.mx + 1 := by
    intro y hy
    have := List.all_eq_true.1 hx y hy
    simpa using this
  have HIN := Lib.hid hin
  obtain ⟨hx0, hx1⟩ := hin x (by simp)
  have HNX : Hid (0 ≤ notI x ∧ notI x ≤ 9000) := (by unfold notI; split <;> omega : 0 ≤ notI x ∧ notI x ≤ 9000)
  have HRD := Lib.hid h
  have HDA := Lib.hid hda
  have HD := Lib.hid hd
  obtain ⟨b, o, rfl, hcell⟩ := h (by simp)
  have c0 := hcell 0 (by simp)
  simp at c0
  have HBX := Lib.hid hb
  have HO := Lib.hid ho
  have hbw := hb.lt
  have HCM := hcm
  have hc1 : ¬ c = 1 := by omega
  rw [maxLen] at HCM
  have K1 := Lib.hid (lnot_nn w x hx0 (by omega))
  have YES : Hid (∀ A' c' W, GtI bx H C (notI x) xs w xs.length (C.mx + xs.length) (gtAll C.mx (notI x) (xs.take xs.length)) (C.ands ++ gtAnds C.mx (notI x) (xs.take xs.length)) A' c' W → GtP bx H C x xs w (.returned (.int .i64 (gtAll C.mx (notI x) (xs.take xs.length)))) W) := fun A' c' W h => by
    have e : xs.take xs.length = xs := List.take_length
    rw [e] at h ⊢
    exact ⟨rfl, ⟨A', c', h.box, h.row, h.far⟩, h.fr⟩
  clear h hda hd hb ho hin hx hcell hcm
  go_enter Try.func25, Try.ntmps25
  go_wp2_with fail
  refine K1.out.mono ?_
  rintro e w1 ⟨rfl, rfl⟩
  go_wp2_with fail
  go_loopg [5, 16] xs.length (fun gk x5 x16 wr => ∃ (k : Nat) (m all : Int) (as_ : List T3) (A' : Option Addr) (c' : Nat), k + gk = xs.length ∧ x5 = .int .i64 all ∧ x16 = .int .i64 k ∧ GtI bx H C (notI x) xs w k m all as_ A' c' wr)
  case atStart => exact ⟨0, C.mx, notI x, C.ands, H.gA, H.gC, by omega, rfl, rfl, ⟨by simp, by simp [gtAll], by simp [gtAnds], HBX.out, HO.out, fun k hk => .inl hk, Fr.refl _ _⟩⟩
  case round =>
    obtain ⟨k, m, all, as_, A', c', hk, rfl, rfl, hi⟩ := hrel
    have HK := Lib.hid hk
    have HI := Lib.hid hi
    have hkn : k ≤ xs.length := by omega
    have HM := Lib.hid hi.m_
    have hmr : 0 ≤ m ∧ m ≤ 2048 := by have := hi.m_; omega
    have hall : 0 ≤ all ∧ all ≤ 9000 := by rw [hi.all_]; exact gtAll_r _ _ _ h0 (by rw [List.length_take]; omega) HNX.out.1 HNX.out.2
    have hasl : as_.length ≤ 4096 + 2048 := by rw [hi.asq, List.length_append, gtAnds_len, List.length_take]; omega
    clear hk hi
    by_cases hlt : k < xs.length
    · obtain ⟨b1, o1, hb1, hx⟩ := (HRD.out.frS HI.out.fr HDA.out) (by simp)
      cases hb1
      have cx := hx (k + 1) (by simp; omega)
      obtain ⟨y, HY⟩ : ∃ y, Hid (xs[k]! = y) := ⟨_, rfl⟩
      have hy : 0 ≤ y ∧ y ≤ 2 * C.mx + 1 := HIN.out y (by rw [← HY.out, List.getElem!_eq_getElem?_getD, List.getElem?_eq_getElem hlt]; simp)
      rw [List.getElem!_cons_succ, HY.out] at cx
      have cx2 : wr.cell? ⟨b, o + 1 + k, none⟩ = some (.int .i64 y) := by rw [← cx]; congr 2; omega
      obtain ⟨e0, e1, e2, e3, e4, e5, e6, e7⟩ := HI.out.box.cells8
      simp only at e0 e1 e2 e3 e4 e5 e6 e7
      have f0 := HI.out.box.frozen 0
      have hm1 : m ≤ 2047 := by have := HM.out; omega
      have KM := Lib.hid (fun W => lmake_no W (m + 1) (by omega) (by omega))
      have HBI := Lib.hid (HI.out.box.set_ 0 (.int .i64 (m + 1)))
      simp only [cvs] at HBI
      simp at HBI
      have hbi := HBI.out.cell 0
      simp at hbi
      have hbA : bx ∉ blks A' := fun h => (HI.out.far bx h).elim HD.out (by omega)
      have HFI : Hid (Fr [bx] wr (wr.setCell ⟨bx, 0, none⟩ (.int .i64 (m + 1)))) := (Fr.refl [bx] wr).setCell (.inl (by simp)) _
      have HOI := Lib.hid (HFI.out.own HI.out.row (fun j hj h => hbA (by simp at h; subst h; exact (blks_own j).1 hj)))
      clear hx cx
      go_upto_region 6 with fail
      generalize hwi : wr.setCell ⟨bx, 0, none⟩ (.int .i64 (m + 1)) = wi at HBI hbi HFI HOI ⊢
      go_wp2_with fail
      refine (KM.out _).mono ?_
      rintro e w2 ⟨rfl, rfl⟩
      go_upto_region 7 with fail
      clear e0 e1 e2 e3 e4 e5 e6 e7 f0 hbi hwi c0 cx2 KM
      refine wp_region_noPanic ?_
      refine wp_region_C (fun w' => At w' bx 27 #[.int .i64 (m + 1), .slice H.iA C.ins.length H.iC, .slice H.lA C.lat.length H.lC, .slice H.oA C.outs.length H.oC, .slice H.bA C.bads.length H.bC, .slice H.vA C.invs.length H.vC, .slice A' as_.length c', .slice H.nA C.nms.length H.nC]) 14 (by kernel_rfl) (HBI.out.drew) (fun hT0 => ?_)
      refine wpAnyC_take0 (i := 0) (oi := ?oir7u1) (v := ?vr7u1) ?hir7u1 (by kernel_rfl) (by kernel_rfl) (by kernel_rfl) (by kernel_rfl) ?hQr7u1 ?hwr7u1 ?hyr7u1 hT0 ?_
      case hir7u1 => (simp only [List.getElem?_toArray, List.getElem?_cons_zero]; rfl)
      case hQr7u1 => exact fun _ _ _ h => h
      case hwr7u1 => rfl
      case hyr7u1 => (intro w; go_simp <;> with_reducible rfl)
      try simp only [Act.put, List.setIfInBounds_toArray, List.set_cons_zero, List.set_cons_succ]
      refine wpAnyC_take0 (i := 1) (oi := ?oir7u2) (v := ?vr7u2) ?hir7u2 (by kernel_rfl) (by kernel_rfl) (by kernel_rfl) (by kernel_rfl) ?hQr7u2 ?hwr7u2 ?hyr7u2 (hT0.more 0) ?_
      case hir7u2 => (simp only [List.getElem?_toArray, List.getElem?_cons_succ, List.getElem?_cons_zero]; rfl)
      case hQr7u2 => exact fun _ _ _ h => h
      case hwr7u2 => rfl
      case hyr7u2 => (intro w; go_simp <;> with_reducible rfl)
      try simp only [Act.put, List.setIfInBounds_toArray, List.set_cons_zero, List.set_cons_succ]
      refine wpAnyC_take0 (i := 2) (oi := ?oir7u3) (v := ?vr7u3) ?hir7u3 (by kernel_rfl) (by kernel_rfl) (by kernel_rfl) (by kernel_rfl) ?hQr7u3 ?hwr7u3 ?hyr7u3 ((hT0.more 0).more 1) ?_
      case hir7u3 => (simp only [List.getElem?_toArray, List.getElem?_cons_succ, List.getElem?_cons_zero]; rfl)
      case hQr7u3 => exact fun _ _ _ h => h
      case hwr7u3 => rfl
      case hyr7u3 => (intro w; go_simp <;> with_reducible rfl)
      try simp only [Act.put, List.setIfInBounds_toArray, List.set_cons_zero, List.set_cons_succ]
      refine wpAnyC_take0 (i := 3) (oi := ?oir7u4) (v := ?vr7u4) ?hir7u4 (by kernel_rfl) (by kernel_rfl) (by kernel_rfl) (by kernel_rfl) ?hQr7u4 ?hwr7u4 ?hyr7u4 (((hT0.more 0).more 1).more 2) ?_
      case hir7u4 => (simp only [List.getElem?_toArray, List.getElem?_cons_succ, List.getElem?_cons_zero]; rfl)
      case hQr7u4 => exact fun _ _ _ h => h
      case hwr7u4 => rfl
      case hyr7u4 => (intro w; go_simp <;> with_reducible rfl)
      try simp only [Act.put, List.setIfInBounds_toArray, List.set_cons_zero, List.set_cons_succ]
      refine wpAnyC_take (i := 4) (oi := ?oir7u5) (v := ?vr7u5) [4, 14] ?hir7u5 (by kernel_rfl) (by kernel_rfl) (by kernel_rfl) (by kernel_rfl) ?hQr7u5 (.inl ⟨?hwr7u5, ?hyr7u5⟩) (((((hT0.more 0).more 1).more 2).more 3).resolve_left (by decide)) ?_
      case hir7u5 => (simp only [List.getElem?_toArray, List.getElem?_cons_succ, List.getElem?_cons_zero]; rfl)
      case hQr7u5 => exact fun _ _ _ h => h
      case hwr7u5 => rfl
      case hyr7u5 => (intro w hSw; (have s6 := hSw.cell 6; simp at s6); go_simp <;> with_reducible rfl)
      try simp only [Act.put, List.setIfInBounds_toArray, List.set_cons_zero, List.set_cons_succ]
      refine wpAnyC_take0 (i := 5) (oi := ?oir7u6) (v := ?vr7u6) ?hir7u6 (by kernel_rfl) (by kernel_rfl) (by kernel_rfl) (by kernel_rfl) ?hQr7u6 ?hwr7u6 ?hyr7u6 (((((hT0.more 0).more 1).more 2).more 3).more 4) ?_
      case hir7u6 => (simp only [List.getElem?_toArray, List.getElem?_cons_succ, List.getElem?_cons_zero]; rfl)
      case hQr7u6 => exact fun _ _ _ h => h
      case hwr7u6 => rfl
      case hyr7u6 => (intro w; go_simp <;> with_reducible rfl)
      try simp only [Act.put, List.setIfInBounds_toArray, List.set_cons_zero, List.set_cons_succ]
      refine wpAnyC_take0 (i := 6) (oi := ?oir7u7) (v := ?vr7u7) ?hir7u7 (by kernel_rfl) (by kernel_rfl) (by kernel_rfl) (by kernel_rfl) ?hQr7u7 ?hwr7u7 ?hyr7u7 ((((((hT0.more 0).more 1).more 2).more 3).more 4).more 5) ?_
      case hir7u7 => (simp only [List.getElem?_toArray, List.getElem?_cons_succ, List.getElem?_cons_zero]; rfl)
      case hQr7u7 => exact fun _ _ _ h => h
      case hwr7u7 => rfl
      case hyr7u7 => (intro w; go_simp <;> with_reducible rfl)
      try simp only [Act.put, List.setIfInBounds_toArray, List.set_cons_zero, List.set_cons_succ]
      refine wpAnyC_take0 (i := 7) (oi := ?oir7u8) (v := ?vr7u8) ?hir7u8 (by kernel_rfl) (by kernel_rfl) (by kernel_rfl) (by kernel_rfl) ?hQr7u8 ?hwr7u8 ?hyr7u8 (((((((hT0.more 0).more 1).more 2).more 3).more 4).more 5).more 6) ?_
      case hir7u8 => (simp only [List.getElem?_toArray, List.getElem?_cons_succ, List.getElem?_cons_zero]; rfl)
      case hQr7u8 => exact fun _ _ _ h => h
      case hwr7u8 => rfl
      case hyr7u8 => (intro w; go_simp <;> with_reducible rfl)
      try simp only [Act.put, List.setIfInBounds_toArray, List.set_cons_zero, List.set_cons_succ]
      have hSx := ((((((((hT0.more 0).more 1).more 2).more 3).more 4).more 5).more 6).more 7).resolve_left (by decide)
      refine wpAnyC_ready (rs := [8]) (by kernel_rfl) (by simp) ?_
      refine ReadyC.cons (o := ?or7u9) ?hor7u9 ?hstepr7u9 ?_
      case hor7u9 => (simp only [List.getElem?_toArray, List.getElem?_cons_succ, List.getElem?_cons_zero]; rfl)
      case hstepr7u9 =>
        intro K hK
        (go_simp; refine (lnot_nn _ y (by omega) (by omega)).mono ?_; rintro e w2 ⟨rfl, rfl⟩; dsimp only)
        refine hK.out _ _ (.inr ?_) (fun hHeld => ?_)
        · first | exact hSx | exact hSx.alloc _ | exact hfz.at_ hSx hbA
        have hT9 := hHeld
        clear hHeld
        clear hK K
        try simp only [Act.put, List.setIfInBounds_toArray, List.set_cons_zero, List.set_cons_succ]
        refine wpAnyC_take0 (i := 9) (oi := ?oir7u10) (v := ?vr7u10) ?hir7u10 (by kernel_rfl) (by kernel_rfl) (by kernel_rfl) (by kernel_rfl) ?hQr7u10 ?hwr7u10 ?hyr7u10 hT9 ?_
        case hir7u10 => (simp only [List.getElem?_toArray, List.getElem?_cons_succ, List.getElem?_cons_zero]; rfl)
        case hQr7u10 => exact fun _ _ _ h => h
        case hwr7u10 => rfl
        case hyr7u10 => (intro w; go_simp <;> with_reducible rfl)
        try simp only [Act.put, List.setIfInBounds_toArray, List.set_cons_zero, List.set_cons_succ]
        have hSx := (hT9.more 9).resolve_left (by decide)
        refine wpAnyC_ready (rs := [10]) (by kernel_rfl) (by simp) ?_
        refine ReadyC.cons (o := ?or7u11) ?hor7u11 ?hstepr7u11 ?_
        case hor7u11 => (simp only [List.getElem?_toArray, List.getElem?_cons_succ, List.getElem?_cons_zero]; rfl)
        case hstepr7u11 =>
          intro K hK
          go_simp
          refine hK.out _ _ (.inr ?_) (fun hHeld => ?_)
          · first | exact hSx | exact hSx.alloc _ | exact hfz.at_ hSx hbA
          have hT11 := hHeld
          clear hHeld
          clear hK K
          try simp only [Act.put, List.setIfInBounds_toArray, List.set_cons_zero, List.set_cons_succ]
          have hSx := hT11.resolve_left (by decide)
          refine wpAnyC_ready (rs := [11]) (by kernel_rfl) (by simp) ?_
          refine ReadyC.cons (o := ?or7u12) ?hor7u12 ?hstepr7u12 ?_
          case hor7u12 => (simp only [List.getElem?_toArray, List.getElem?_cons_succ, List.getElem?_cons_zero]; rfl)
          case hstepr7u12 =>
            intro K hK
            (refine step_append_one rfl (.tmp 36) (.tmp 42) 24 rfl 70 (.agg #[.int .i64 0, .int .i64 0, .int .i64 0]) 3 24 Try.underlying24 infoAnd rfl (by decide) A' c' as_.length rfl (flatT as_) (((Fr.refl [] wi).drew.alloc _).own HOI.out (by simp)) ⟨wi.heap.size, 0, none⟩ 1 rfl [.int .i64 (2 * (m + 1)), .int .i64 all, .int .i64 (notI y)] rfl (new_cells wi _ _ _) three_one (by unfold maxLen; omega) (by omega) ?_; rintro g cap w3 hrow hfz hg; have HR3 := Lib.hid hrow; have HG3 := Lib.hid hg; clear hrow hg)
            refine hK.out _ _ (.inr ?_) (fun hHeld => ?_)
            · first | exact hSx | exact hSx.alloc _ | exact hfz.at_ hSx hbA
            have hT12 := hHeld
            clear hHeld
            clear hK K
            try simp only [Act.put, List.setIfInBounds_toArray, List.set_cons_zero, List.set_cons_succ]
            refine wpAnyC_take0 (i := 12) (oi := ?oir7u13) (v := ?vr7u13) ?hir7u13 (by kernel_rfl) (by kernel_rfl) (by kernel_rfl) (by kernel_rfl) ?hQr7u13 ?hwr7u13 ?hyr7u13 hT12 ?_
            case hir7u13 => (simp only [List.getElem?_toArray, List.getElem?_cons_succ, List.getElem?_cons_zero]; rfl)
            case hQr7u13 => exact fun _ _ _ h => h
            case hwr7u13 => rfl
            case hyr7u13 => (intro w; go_simp <;> with_reducible rfl)
            try simp only [Act.put, List.setIfInBounds_toArray, List.set_cons_zero, List.set_cons_succ]
            refine wpAnyC_take0 (i := 13) (oi := ?oir7u14) (v := ?vr7u14) ?hir7u14 (by kernel_rfl) (by kernel_rfl) (by kernel_rfl) (by kernel_rfl) ?hQr7u14 ?hwr7u14 ?hyr7u14 (hT12.more 12) ?_
            case hir7u14 => (simp only [List.getElem?_toArray, List.getElem?_cons_succ, List.getElem?_cons_zero]; rfl)
            case hQr7u14 => exact fun _ _ _ h => h
            case hwr7u14 => rfl
            case hyr7u14 => (intro w; go_simp <;> with_reducible rfl)
            try simp only [Act.put, List.setIfInBounds_toArray, List.set_cons_zero, List.set_cons_succ]
            have hSx := ((hT12.more 12).more 13).resolve_left (by decide)
            refine wpAnyC_ready (rs := [14]) (by kernel_rfl) (by simp) ?_
            refine ReadyC.cons (o := ?or7u15) ?hor7u15 ?hstepr7u15 ?_
            case hor7u15 => (simp only [List.getElem?_toArray, List.getElem?_cons_succ, List.getElem?_cons_zero]; rfl)
            case hstepr7u15 =>
              intro K hK
              (have z6 := hSx.frozen 6; have s6 := hSx.cell 6; simp at s6; have HS3 := Lib.hid hSx; go_simp)
              refine hK.out _ _ (.inl rfl) (fun hHeld => ?_)
              have hT15 := hHeld
              clear hHeld
              clear hK K
              try simp only [Act.put, List.setIfInBounds_toArray, List.set_cons_zero, List.set_cons_succ]
              refine wpAnyC_done (by kernel_rfl) ?_ _
              refine NoPanic.normal ?_
              have hfa : Fr (blks A') _ w3 := hfz
              have HST := Lib.hid (GtI.step HI.out hlt HY.out HFI.out ((Fr.refl [] wi).drew.alloc _) hfz HG3.out hbA hbw HR3.out HS3.out)
              clear hT0 hT9 hT11 hT12 hT15 s6 z6 HS3 hfz hfa HR3 HG3
              clear hSx
              go_wp2_with fail
              go_roundg (gk - 1)
              case measure => have := HK.out; omega
              case rel => exact ⟨k + 1, m + 1, 2 * (m + 1), as_ ++ [⟨2 * (m + 1), all, notI y⟩], some ⟨g, 0, none⟩, cap, by have := HK.out; omega, rfl, by go_num, HST.out⟩
            exact ReadyC.nil
          exact ReadyC.nil
        exact ReadyC.nil
      exact ReadyC.nil
    · obtain rfl : k = xs.length := by omega
      have HM2 := Lib.hid HI.out
      rw [HI.out.m_, HI.out.all_, HI.out.asq] at HM2
      have e := HI.out.all_
      clear HI HM hmr
      go_wp2_with fail
      go_ret
      rw [e]
      exact YES.out _ _ _ HM2.out


end Go.Proofs.Ytbjccgahmgpkjaa
