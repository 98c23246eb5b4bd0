/- The queue's Take walked. -/
import Derived.Test.YtnbpnpodpnlamaaQueueG
import Derived.Deep.RegionHeld3
namespace Go.Proofs.Ytnbpnpodpnlamaa
open Go.RowKit
set_option linter.unusedVariables false

theorem take_results : Try.f44.results = #[.cell 2 38, .tmp 3, .tmp 4] := by kernel_rfl

/-- Take's own two blocks: where the queue is told, and where its answer lies. -/
theorem take_blocks (w : World) (q : Option Addr) : ∃ V, V = (w.alloc (.cells #[.pointer q] 33)).alloc (.cells #[.int .i64 0, .slice none 0 0, .string ⟨#[]⟩, .int .i64 0] 38) ∧ Fr [] w V ∧
    At V w.heap.size 33 #[.pointer q] ∧ At V (w.heap.size + 1) 38 #[.int .i64 0, .slice none 0 0, .string ⟨#[]⟩, .int .i64 0] := by
  refine ⟨_, rfl, ((Fr.refl [] w).alloc _).alloc _, (At.new w _ _).alloc _, ?_⟩
  have := At.new (w.alloc (.cells #[.pointer q] 33)) 38 #[.int .i64 0, .slice none 0 0, .string ⟨#[]⟩, .int .i64 0]
  simpa using this

set_option maxRecDepth 100000 in
set_option maxHeartbeats 1000000 in
theorem queue_take_nil (w : World) :
    Calls Try.prog 44 #[.pointer none] w fun e w' => e = .returned (.tuple #[Im.zero.val, .int .i64 0, .bool false]) ∧ Fr [] w w' := by
  obtain ⟨V, hV, hf, hq, ho⟩ := take_blocks w none
  have HF := Lib.hid hf
  have HO := Lib.hid ho
  have q0 := hq.cell 0
  simp at q0
  clear hf ho hq
  go_enter Try.func44, Try.ntmps44
  go_upto_region 1 with fail
  rw [← hV]
  clear hV
  go_wp2_with fail
  refine (queue_len_nil V).mono ?_
  rintro e w' ⟨rfl, rfl⟩
  have r0 := HO.out.cell 0
  have r1 := HO.out.cell 1
  have r2 := HO.out.cell 2
  have r3 := HO.out.cell 3
  have p0 := HO.out.frozen 0
  have p1 := HO.out.frozen 1
  have p2 := HO.out.frozen 2
  have p3 := HO.out.frozen 3
  simp at r0 r1 r2 r3
  go_wp2_with fail
  (try simp only [Exit.inBlock, Exit.then])
  refine bodyPost_ret (v := .tuple #[Im.zero.val, .int .i64 0, .bool false]) (by simp only [results, take_results, Im.zero, Im.val]; go_simp) rfl ?_
  exact ⟨rfl, (((HF.out.setCell (.inr (Nat.le_succ _)) _).setCell (.inr (Nat.le_succ _)) _).setCell (.inr (Nat.le_succ _)) _).setCell (.inr (Nat.le_succ _)) _⟩

set_option maxRecDepth 100000 in
set_option maxHeartbeats 1000000 in
theorem queue_take_none (w : World) (a c : Nat) (B : Option Addr) (h : w.cell? ⟨a, 1, none⟩ = some (.slice B 0 c)) (ha : a < w.heap.size) :
    Calls Try.prog 44 #[.pointer (some ⟨a, 0, none⟩)] w fun e w' => e = .returned (.tuple #[Im.zero.val, .int .i64 0, .bool false]) ∧ Fr [] w w' := by
  obtain ⟨V, hV, hf, hq, ho⟩ := take_blocks w (some ⟨a, 0, none⟩)
  have h1 : V.cell? ⟨a, 1, none⟩ = some (.slice B 0 c) := (World.cell?_of_block (hf.block a ha (by simp))).trans h
  have HF := Lib.hid hf
  have HO := Lib.hid ho
  have q0 := hq.cell 0
  simp at q0
  clear hf ho hq h ha
  go_enter Try.func44, Try.ntmps44
  go_upto_region 1 with fail
  rw [← hV]
  clear hV
  go_wp2_with fail
  refine (queue_len V a 0 c B h1).mono ?_
  rintro e w' ⟨rfl, rfl⟩
  have r0 := HO.out.cell 0
  have r1 := HO.out.cell 1
  have r2 := HO.out.cell 2
  have r3 := HO.out.cell 3
  have p0 := HO.out.frozen 0
  have p1 := HO.out.frozen 1
  have p2 := HO.out.frozen 2
  have p3 := HO.out.frozen 3
  simp at r0 r1 r2 r3
  go_wp2_with fail
  (try simp only [Exit.inBlock, Exit.then])
  refine bodyPost_ret (v := .tuple #[Im.zero.val, .int .i64 0, .bool false]) (by simp only [results, take_results, Im.zero, Im.val]; go_simp) rfl ?_
  exact ⟨rfl, (((HF.out.setCell (.inr (Nat.le_succ _)) _).setCell (.inr (Nat.le_succ _)) _).setCell (.inr (Nat.le_succ _)) _).setCell (.inr (Nat.le_succ _)) _⟩

set_option maxRecDepth 100000 in
set_option maxHeartbeats 4000000 in
theorem queue_take_some (w : World) (L : Ql) (M : List Im) (W : List Int) (h : QAt w L M W) (ok : QOk M W) (hw : 0 < W.length) (hlw : W.length ≤ 2097152) :
    Calls Try.prog 44 #[.pointer (some ⟨L.a, 0, none⟩)] w fun e w' => ∃ p i C' c', FMin M W W.length p ∧ i < M.length ∧ W[p]! = ((i : Nat) : Int) + 1 ∧
      e = .returned (.tuple #[Im.val { M[i]! with C := C', c := c' }, .int .i64 W[p]!, .bool true]) ∧ Cube w' { M[i]! with C := C', c := c' } ∧ (∀ k, k ∈ blks C' → w.heap.size ≤ k) ∧
      QAt w' L M (W.eraseIdx p) ∧ Fr L.fp w w' := by
  obtain ⟨V, hV, hf, hq, ho⟩ := take_blocks w (some ⟨L.a, 0, none⟩)
  have HF := Lib.hid hf
  have HO := Lib.hid ho
  have HB := Lib.hid hq
  have q0 := hq.cell 0
  simp at q0
  have HLT := Lib.hid h.lt
  have HVC : Hid (∀ x, x ∈ M → Cube w x) := fun x hx => (h.cubes x hx).1
  have h := h.keep hf
  have hs := h.small
  obtain ⟨gA, hgA, -⟩ := h.its.pos (i := 0) (by
    obtain ⟨i, hi, _⟩ := ok.of hw
    omega)
  obtain ⟨g, hg, -⟩ := h.waits.pos hw
  obtain ⟨a, A, c, B, d⟩ := L
  simp only at hgA hg q0 HB ⊢
  subst hgA
  subst hg
  have o1 := h.o1
  have HH := Lib.hid h
  have OK := Lib.hid ok
  clear hf ho hq h ok
  go_enter Try.func44, Try.ntmps44
  go_upto_region 1 with fail
  rw [← hV]
  clear hV
  have hws : ∃ bx, w.heap.size = bx := ⟨_, rfl⟩
  obtain ⟨bx, hbx⟩ := hws
  rw [hbx] at HO HB q0 HLT ⊢
  have HBXE := Lib.hid hbx
  clear hbx
  go_wp2_with fail
  refine (queue_len V a _ d _ o1).mono ?_
  rintro e w' ⟨rfl, rfl⟩
  go_wp2_with fail
  refine (min_is V _ M W HH.out OK.out hw hlw bx q0 _ rfl).mono ?_
  rintro e w1 ⟨p, rfl, hp, n, rfl⟩
  obtain ⟨i, hi, hii, -⟩ := OK.out.of hp.1
  obtain ⟨id, hid⟩ : ∃ id, W[p]! = id := ⟨_, rfl⟩
  rw [hid] at hii ⊢
  have HIDI := Lib.hid hii
  have HP : Hid (p < W.length) := hp.1
  have HWP : Hid (IntKind.i64.wrap ((p : Int) + 1) = (p : Int) + 1) := IntWalk.i64_in _ (by have := hp.1; omega)
  have HFM := Lib.hid hp
  have HID := Lib.hid hid
  obtain ⟨U, hU⟩ : ∃ U, U = V.drewN n := ⟨_, rfl⟩
  rw [← hU]
  have HU : Hid (QAt U ⟨a, some ⟨gA, 0, none⟩, c, some ⟨g, 0, none⟩, d⟩ M W) := by rw [hU]; exact HH.out.drewN n
  have HUD : Hid (QAt U.drew ⟨a, some ⟨gA, 0, none⟩, c, some ⟨g, 0, none⟩, d⟩ M W) := HU.out.drew_
  have HBU : Hid (At U.drew bx 33 #[.pointer (some ⟨a, 0, none⟩)]) := by rw [hU]; exact HB.out
  have HOU : Hid (At U.drew (bx + 1) 38 #[.int .i64 0, .slice none 0 0, .string ⟨#[]⟩, .int .i64 0]) := by rw [hU]; exact HO.out
  have HWU : Hid (Fr [] w U.drew) := by rw [hU]; exact (HF.out.drewN n).drew
  have HWI : Hid (Ints U.drew (some ⟨g, 0, none⟩) d W) := HUD.out.waits
  have HNO : Hid (bx + 1 ∉ Ql.fp ⟨a, some ⟨gA, 0, none⟩, c, some ⟨g, 0, none⟩, d⟩) := fun hk => by have := HLT.out _ hk; omega
  have HNX : Hid (bx ∉ Ql.fp ⟨a, some ⟨gA, 0, none⟩, c, some ⟨g, 0, none⟩, d⟩) := fun hk => by have := HLT.out _ hk; omega
  have HNB : Hid (a ∉ [g]) := fun hk => ((qnodup HUD.out.nd).2 g (by simp [blks])).1 (by simpa using (List.mem_singleton.1 hk).symm)
  have HBB : Hid (bx ∉ [g]) := fun hk => by
    have := HLT.out g (by simp [Ql.fp, blks])
    simp only [List.mem_singleton] at hk
    omega
  have u0 : U.cell? ⟨bx, 0, none⟩ = some (.pointer (some ⟨a, 0, none⟩)) := HBU.out.cell 0
  have o1 := HU.out.o1
  clear hp hid hii hU q0 HH
  go_wp2_with fail
  refine (index_is U _ d W id HU.out.waits.rd (by omega) p (.inl ⟨p, HP.out, HID.out, fun j hj he => by have h1 := HFM.out.2.1 j hj; rw [he, HID.out] at h1; omega, rfl⟩)).mono ?_
  rintro e w' ⟨rfl, rfl⟩
  go_upto_region 5 with fail
  clear u0 o1
  refine wp_region_noPanic ?_
  refine wp_region_C (fun w' : World => At w' a 83 #[.slice (some ⟨gA, 0, none⟩) M.length c, .slice (some ⟨g, 0, none⟩) W.length d, .bool true] ∧ At w' bx 33 #[.pointer (some ⟨a, 0, none⟩)]) 11 (by kernel_rfl) (⟨HUD.out.obj, HBU.out⟩) (fun hT0 => ?_)
  refine wpAnyC_take (i := 0) (oi := ?oir5u1) (v := ?vr5u1) [0, 11] ?hir5u1 (by kernel_rfl) (by kernel_rfl) (by kernel_rfl) (by kernel_rfl) ?hQr5u1 (.inl ⟨?hwr5u1, ?hyr5u1⟩) (hT0.resolve_left (by decide)) ?_
  case hir5u1 => (simp only [List.getElem?_toArray, List.getElem?_cons_zero]; rfl)
  case hQr5u1 => exact fun _ _ _ h => h
  case hwr5u1 => rfl
  case hyr5u1 => (intro w hSw; (have s1 := hSw.1.cell 1; have t0 := hSw.2.cell 0; simp at s1 t0); go_simp <;> with_reducible rfl)
  try simp only [Act.put, List.setIfInBounds_toArray, List.set_cons_zero, List.set_cons_succ]
  refine wpAnyC_take (i := 1) (oi := ?oir5u2) (v := ?vr5u2) [1, 11] ?hir5u2 (by kernel_rfl) (by kernel_rfl) (by kernel_rfl) (by kernel_rfl) ?hQr5u2 (.inl ⟨?hwr5u2, ?hyr5u2⟩) ((hT0.more 0).resolve_left (by decide)) ?_
  case hir5u2 => (simp only [List.getElem?_toArray, List.getElem?_cons_succ, List.getElem?_cons_zero]; rfl)
  case hQr5u2 => exact fun _ _ _ h => h
  case hwr5u2 => rfl
  case hyr5u2 => (intro w hSw; (have s1 := hSw.1.cell 1; have t0 := hSw.2.cell 0; simp at s1 t0); go_simp <;> with_reducible rfl)
  try simp only [Act.put, List.setIfInBounds_toArray, List.set_cons_zero, List.set_cons_succ]
  refine wpAnyC_take0 (i := 2) (oi := ?oir5u3) (v := ?vr5u3) ?hir5u3 (by kernel_rfl) (by kernel_rfl) (by kernel_rfl) (by kernel_rfl) ?hQr5u3 ?hwr5u3 ?hyr5u3 ((hT0.more 0).more 1) ?_
  case hir5u3 => (simp only [List.getElem?_toArray, List.getElem?_cons_succ, List.getElem?_cons_zero]; rfl)
  case hQr5u3 => exact fun _ _ _ h => h
  case hwr5u3 => rfl
  case hyr5u3 => (intro w; go_simp <;> with_reducible rfl)
  try simp only [Act.put, List.setIfInBounds_toArray, List.set_cons_zero, List.set_cons_succ]
  refine wpAnyC_take0 (i := 3) (oi := ?oir5u4) (v := ?vr5u4) ?hir5u4 (by kernel_rfl) (by kernel_rfl) (by kernel_rfl) (by kernel_rfl) ?hQr5u4 ?hwr5u4 ?hyr5u4 (((hT0.more 0).more 1).more 2) ?_
  case hir5u4 => (simp only [List.getElem?_toArray, List.getElem?_cons_succ, List.getElem?_cons_zero]; rfl)
  case hQr5u4 => exact fun _ _ _ h => h
  case hwr5u4 => rfl
  case hyr5u4 => (intro w; go_simp <;> with_reducible rfl)
  try simp only [Act.put, List.setIfInBounds_toArray, List.set_cons_zero, List.set_cons_succ]
  refine wpAnyC_take (i := 4) (oi := ?oir5u5) (v := ?vr5u5) [4, 11] ?hir5u5 (by kernel_rfl) (by kernel_rfl) (by kernel_rfl) (by kernel_rfl) ?hQr5u5 (.inl ⟨?hwr5u5, ?hyr5u5⟩) (((((hT0.more 0).more 1).more 2).more 3).resolve_left (by decide)) ?_
  case hir5u5 => (simp only [List.getElem?_toArray, List.getElem?_cons_succ, List.getElem?_cons_zero]; rfl)
  case hQr5u5 => exact fun _ _ _ h => h
  case hwr5u5 => rfl
  case hyr5u5 => (intro w hSw; (have s1 := hSw.1.cell 1; have t0 := hSw.2.cell 0; simp at s1 t0); go_simp <;> with_reducible rfl)
  try simp only [Act.put, List.setIfInBounds_toArray, List.set_cons_zero, List.set_cons_succ]
  refine wpAnyC_take0 (i := 5) (oi := ?oir5u6) (v := ?vr5u6) ?hir5u6 (by kernel_rfl) (by kernel_rfl) (by kernel_rfl) (by kernel_rfl) ?hQr5u6 ?hwr5u6 ?hyr5u6 (((((hT0.more 0).more 1).more 2).more 3).more 4) ?_
  case hir5u6 => (simp only [List.getElem?_toArray, List.getElem?_cons_succ, List.getElem?_cons_zero]; rfl)
  case hQr5u6 => exact fun _ _ _ h => h
  case hwr5u6 => rfl
  case hyr5u6 => (intro w; go_simp <;> with_reducible rfl)
  try simp only [Act.put, List.setIfInBounds_toArray, List.set_cons_zero, List.set_cons_succ]
  refine wpAnyC_take0 (i := 6) (oi := ?oir5u7) (v := ?vr5u7) ?hir5u7 (by kernel_rfl) (by kernel_rfl) (by kernel_rfl) (by kernel_rfl) ?hQr5u7 ?hwr5u7 ?hyr5u7 ((((((hT0.more 0).more 1).more 2).more 3).more 4).more 5) ?_
  case hir5u7 => (simp only [List.getElem?_toArray, List.getElem?_cons_succ, List.getElem?_cons_zero]; rfl)
  case hQr5u7 => exact fun _ _ _ h => h
  case hwr5u7 => rfl
  case hyr5u7 => (intro w; go_simp <;> with_reducible rfl)
  try simp only [Act.put, List.setIfInBounds_toArray, List.set_cons_zero, List.set_cons_succ]
  refine wpAnyC_take0 (i := 7) (oi := ?oir5u8) (v := ?vr5u8) ?hir5u8 (by kernel_rfl) (by kernel_rfl) (by kernel_rfl) (by kernel_rfl) ?hQr5u8 ?hwr5u8 ?hyr5u8 (((((((hT0.more 0).more 1).more 2).more 3).more 4).more 5).more 6) ?_
  case hir5u8 => (simp only [List.getElem?_toArray, List.getElem?_cons_succ, List.getElem?_cons_zero]; rfl)
  case hQr5u8 => exact fun _ _ _ h => h
  case hwr5u8 => rfl
  case hyr5u8 => (intro w; go_simp <;> with_reducible rfl)
  try simp only [Act.put, List.setIfInBounds_toArray, List.set_cons_zero, List.set_cons_succ]
  have hSx := ((((((((hT0.more 0).more 1).more 2).more 3).more 4).more 5).more 6).more 7).resolve_left (by decide)
  refine wpAnyC_ready (rs := [8]) (by kernel_rfl) (by simp) ?_
  refine ReadyC.cons (o := ?or5u9) ?hor5u9 ?hstepr5u9 ?_
  case hor5u9 => (simp only [List.getElem?_toArray, List.getElem?_cons_succ, List.getElem?_cons_zero]; rfl)
  case hstepr5u9 =>
    intro K hK
    (go_simp; rw [HWP.out]; refine (delete_is _ g d W p HWI.out HP.out).mono ?_; rintro e w5 ⟨rfl, hi5, hf5⟩; dsimp only)
    refine hK.out _ _ (.inr ?_) (fun hHeld => ?_)
    · exact ⟨hf5.at_ hSx.1 HNB.out, hf5.at_ hSx.2 HBB.out⟩
    have hT9 := hHeld
    clear hHeld
    clear hK K
    try simp only [Act.put, List.setIfInBounds_toArray, List.set_cons_zero, List.set_cons_succ]
    refine wpAnyC_take0 (i := 9) (oi := ?oir5u10) (v := ?vr5u10) ?hir5u10 (by kernel_rfl) (by kernel_rfl) (by kernel_rfl) (by kernel_rfl) ?hQr5u10 ?hwr5u10 ?hyr5u10 hT9 ?_
    case hir5u10 => (simp only [List.getElem?_toArray, List.getElem?_cons_succ, List.getElem?_cons_zero]; rfl)
    case hQr5u10 => exact fun _ _ _ h => h
    case hwr5u10 => rfl
    case hyr5u10 => (intro w; go_simp <;> with_reducible rfl)
    try simp only [Act.put, List.setIfInBounds_toArray, List.set_cons_zero, List.set_cons_succ]
    refine wpAnyC_take0 (i := 10) (oi := ?oir5u11) (v := ?vr5u11) ?hir5u11 (by kernel_rfl) (by kernel_rfl) (by kernel_rfl) (by kernel_rfl) ?hQr5u11 ?hwr5u11 ?hyr5u11 (hT9.more 9) ?_
    case hir5u11 => (simp only [List.getElem?_toArray, List.getElem?_cons_succ, List.getElem?_cons_zero]; rfl)
    case hQr5u11 => exact fun _ _ _ h => h
    case hwr5u11 => rfl
    case hyr5u11 => (intro w; go_simp <;> with_reducible rfl)
    try simp only [Act.put, List.setIfInBounds_toArray, List.set_cons_zero, List.set_cons_succ]
    have hSx := ((hT9.more 9).more 10).resolve_left (by decide)
    refine wpAnyC_ready (rs := [11]) (by kernel_rfl) (by simp) ?_
    refine ReadyC.cons (o := ?or5u12) ?hor5u12 ?hstepr5u12 ?_
    case hor5u12 => (simp only [List.getElem?_toArray, List.getElem?_cons_succ, List.getElem?_cons_zero]; rfl)
    case hstepr5u12 =>
      intro K hK
      (have b1 := hSx.1.cell 1; have b3 := hSx.1.frozen 1; simp at b1; go_simp)
      refine hK.out _ _ (.inl rfl) (fun hHeld => ?_)
      have hT12 := hHeld
      clear hHeld
      clear hK K
      try simp only [Act.put, List.setIfInBounds_toArray, List.set_cons_zero, List.set_cons_succ]
      refine wpAnyC_done (by kernel_rfl) ?_ _
      refine NoPanic.normal ?_
      have HI5 := Lib.hid hi5
      have HF5 := Lib.hid hf5
      clear hi5 hf5
      obtain ⟨r1, -, r3⟩ := HUD.out.newWaits HI5.out HF5.out (.inl (by simp [blks]))
      simp only at r1 r3
      obtain ⟨X, hX⟩ : ∃ X, X = w5.setCell ⟨a, 1, none⟩ (.slice (some ⟨g, 0, none⟩) (W.eraseIdx p).length d) := ⟨_, rfl⟩
      rw [← hX] at r1 r3 ⊢
      have hOX := r3.at_ HOU.out HNO.out
      have hBX := r3.at_ HBU.out HNX.out
      have HQX : Hid (QAt X ⟨a, some ⟨gA, 0, none⟩, c, some ⟨g, 0, none⟩, d⟩ M (W.eraseIdx p)) := r1
      have HFX := Lib.hid r3
      have HOX := Lib.hid hOX
      have x0 := hBX.cell 0
      simp at x0
      obtain ⟨c0, c1, c2, c3⟩ := r1.its.cell hi
      obtain ⟨m, hm⟩ : ∃ m, M[i]! = m := ⟨_, rfl⟩
      have HC : Hid (Cube X m) := by
        have hin : M[i]! ∈ M := by simp [hi]
        rw [hm] at hin
        exact (r1.cubes m hin).1
      rw [hm] at c0 c1 c2 c3
      have HMI := Lib.hid hm
      obtain ⟨l, C, n', cc, s, f, xs⟩ := m
      simp only at c0 c1 c2 c3
      clear hX r1 r3 hOX hBX hm
      go_wp2_with fail
      refine (row_at X a _ c gA HQX.out.o0 hs id i HIDI.out hi).mono ?_
      rintro e w' ⟨rfl, rfl⟩
      go_wp2_with fail
      refine (copied_is X ⟨l, C, n', cc, s, f, xs⟩ HC.out.cub).mono ?_
      rintro e w2 ⟨C', c', rfl, hc2, hn2, hf2⟩
      simp only [Im.val] at hc2 ⊢
      have hO2 := hf2.at_ HOX.out (by simp)
      have r0 := hO2.cell 0
      have r1 := hO2.cell 1
      have r2 := hO2.cell 2
      have r3 := hO2.cell 3
      have p0 := hO2.frozen 0
      have p1 := hO2.frozen 1
      have p2 := hO2.frozen 2
      have p3 := hO2.frozen 3
      simp at r0 r1 r2 r3
      have HC2 := Lib.hid hc2
      have HN2 := Lib.hid hn2
      have HF2 := Lib.hid hf2
      clear hc2 hn2 hf2 hO2 HC c0 c1 c2 c3
      go_wp2_with fail
      (try simp only [Exit.inBlock, Exit.then])
      refine bodyPost_ret (v := .tuple #[.agg #[.int .i64 l, .slice C' n' c', .string s, .int .i64 f], .int .i64 id, .bool true]) (by simp only [results, take_results]; go_simp) rfl ?_
      have h0 : Fr [bx + 1] w2 w2 := Fr.refl _ _
      have h1 := (((h0.setCell (p := ⟨bx + 1, 0, none⟩) (.inl (by simp)) (.int .i64 l)).setCell (p := ⟨bx + 1, 0 + 1, none⟩) (.inl (by simp)) (.slice C' n' c')).setCell (p := ⟨bx + 1, 0 + 2, none⟩) (.inl (by simp)) (.string s)).setCell (p := ⟨bx + 1, 0 + 3, none⟩) (.inl (by simp)) (.int .i64 f)
      have fX : Fr (Ql.fp ⟨a, some ⟨gA, 0, none⟩, c, some ⟨g, 0, none⟩, d⟩) w X := (HWU.out.mono (fun k hk => by cases hk)).then_ HFX.out
      have hbX := HOX.out.lt
      have hcf := HC2.out.fr h1 (fun k hk hk' => by
        have h2 := HN2.out k hk
        simp only [List.mem_singleton] at hk'
        omega)
      refine ⟨p, i, C', c', HFM.out, hi, by rw [HID.out]; exact HIDI.out, by rw [HMI.out, HID.out]; rfl, by rw [HMI.out]; exact hcf, fun k hk => Nat.le_trans fX.size (HN2.out k hk), (HQX.out.keep HF2.out).fr h1 (fun k hk hk' => ?_) (fun x hx k hk hk' => ?_), (fX.trans HF2.out (fun k hk => by cases hk)).trans h1 (fun k hk => .inr ?_)⟩
      · simp only [List.mem_singleton] at hk'
        exact HNO.out (hk' ▸ hk)
      · simp only [List.mem_singleton] at hk'
        have h3 := (HVC.out x hx).lt k hk
        have h4 := HBXE.out
        omega
      · simp only [List.mem_singleton] at hk
        rw [hk, ← HBXE.out]
        exact Nat.le_succ _
    exact ReadyC.nil
  exact ReadyC.nil

end Go.Proofs.Ytnbpnpodpnlamaa
