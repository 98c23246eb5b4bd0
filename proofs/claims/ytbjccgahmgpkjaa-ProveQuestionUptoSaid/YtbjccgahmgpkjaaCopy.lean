/- circuit.Copy walked. -/
import Derived.Test.YtbjccgahmgpkjaaClone
import Derived.Test.YtbjccgahmgpkjaaRefE
import Derived.Test.YtbjccgahmgpkjaaOrd
import Derived.Deep.RegionHeld3
namespace Go.Proofs.Ytbjccgahmgpkjaa
open Go.RowKit
set_option linter.unusedVariables false

theorem Ow.fr {w w' : World} {B size n c : Nat} {e : TypeId} {A : Option Addr} {vs : List Value} {S : List Nat} (h : Ow w B e size A c n vs) (hf : Fr S w w') (hd : ∀ k, k ∈ blks A → k ∉ S) : Ow w' B e size A c n vs :=
  ⟨hf.own h.1 (fun k hk => hd k ((blks_own k).1 hk)), h.2⟩
theorem Ow.less {w : World} {B B' size n c : Nat} {e : TypeId} {A : Option Addr} {vs : List Value} (h : Ow w B e size A c n vs) (hB : B' ≤ B) : Ow w B' e size A c n vs := ⟨h.1, fun k hk => Nat.le_trans hB (h.2 k hk)⟩

/-- Nil lists are empty ones. -/
structure NilOk (H : Hd) (C : Pc) : Prop where
  i : H.iA = none → C.ins.length = 0 ∧ H.iC = 0
  l : H.lA = none → C.lat.length = 0 ∧ H.lC = 0
  o : H.oA = none → C.outs.length = 0 ∧ H.oC = 0
  b : H.bA = none → C.bads.length = 0 ∧ H.bC = 0
  v : H.vA = none → C.invs.length = 0 ∧ H.vC = 0
  g : H.gA = none → C.ands.length = 0 ∧ H.gC = 0
  n : H.nA = none → C.nms.length = 0 ∧ H.nC = 0

/-- A circuit in memory of its own, from a base on. -/
structure OwC (w : World) (B : Nat) (H : Hd) (C : Pc) : Prop where
  i : Ow w B 3 1 H.iA H.iC C.ins.length (C.ins.map (Value.int .i64))
  l : Ow w B 67 3 H.lA H.lC C.lat.length (flatT C.lat)
  o : Ow w B 3 1 H.oA H.oC C.outs.length (C.outs.map (Value.int .i64))
  b : Ow w B 3 1 H.bA H.bC C.bads.length (C.bads.map (Value.int .i64))
  v : Ow w B 3 1 H.vA H.vC C.invs.length (C.invs.map (Value.int .i64))
  g : Ow w B 70 3 H.gA H.gC C.ands.length (flatT C.ands)
  n : Ow w B 61 3 H.nA H.nC C.nms.length (flatM C.nms)

/-- What Copy answers. -/
def CpP (C : Pc) (w : World) (e : Ending) (w' : World) : Prop := ∃ H', e = .returned (cval H' C) ∧ OwC w' w.heap.size H' C ∧ Fr [] w w'

theorem copy_results : Try.f22.results = #[.cell 2 27] := by kernel_rfl

set_option maxRecDepth 100000 in
set_option maxHeartbeats 8000000 in
theorem copy_calls (w : World) (H : Hd) (C : Pc) (h : CiAt w H C) (hn : NilOk H C) :
    Calls Try.prog 22 #[cval H C] w (CpP C w) := by
  have HH := Lib.hid h
  have HN := Lib.hid hn
  have h1 := h.iL
  have h2 := h.lL
  have h3 := h.oL
  have h4 := h.bL
  have h5 := h.vL
  have h6 := h.gL
  have h7 := h.nL
  clear h hn
  have YES : Hid (∀ H' W, OwC W w.heap.size H' C → Fr [] w W → CpP C w (.returned (cval H' C)) W) := fun H' W h1 h2 => ⟨H', rfl, h1, h2⟩
  have HS := Lib.hid (Cx.start w H C)
  simp only [cvs] at HS
  obtain ⟨mx, ins, lat, outs, bads, invs, ands, nms⟩ := C
  obtain ⟨iA, iC, lA, lC, oA, oC, bA, bC, vA, vC, gA, gC, nA, nC⟩ := H
  simp only [cval, cvs] at *
  go_enter Try.func22, Try.ntmps22
  go_upto_region 1 with fail
  obtain ⟨W0, hW0⟩ : ∃ W, (w.alloc (.cells #[.int .i64 mx, .slice iA ins.length iC, .slice lA lat.length lC, .slice oA outs.length oC, .slice bA bads.length bC, .slice vA invs.length vC, .slice gA ands.length gC, .slice nA nms.length nC] 27)).alloc (.cells #[.int .i64 0, .slice none 0 0, .slice none 0 0, .slice none 0 0, .slice none 0 0, .slice none 0 0, .slice none 0 0, .slice none 0 0] 27) = W := ⟨_, rfl⟩
  rw [hW0]
  have HF0 : Hid (Fr [] w W0) := hW0 ▸ ((box_fr _ _).then_ (box_fr _ _))
  have HB0 : Hid (At W0 w.heap.size 27 #[.int .i64 mx, .slice iA ins.length iC, .slice lA lat.length lC, .slice oA outs.length oC, .slice bA bads.length bC, .slice vA invs.length vC, .slice gA ands.length gC, .slice nA nms.length nC]) := hW0 ▸ (At.new w _ _).alloc _
  have HR0 : Hid (At W0 (w.heap.size + 1) 27 #[.int .i64 0, .slice none 0 0, .slice none 0 0, .slice none 0 0, .slice none 0 0, .slice none 0 0, .slice none 0 0, .slice none 0 0]) := by
    rw [← hW0]
    have := At.new (w.alloc (.cells #[.int .i64 mx, .slice iA ins.length iC, .slice lA lat.length lC, .slice oA outs.length oC, .slice bA bads.length bC, .slice vA invs.length vC, .slice gA ands.length gC, .slice nA nms.length nC] 27)) 27 #[.int .i64 0, .slice none 0 0, .slice none 0 0, .slice none 0 0, .slice none 0 0, .slice none 0 0, .slice none 0 0, .slice none 0 0]
    have e : (w.alloc (.cells #[.int .i64 mx, .slice iA ins.length iC, .slice lA lat.length lC, .slice oA outs.length oC, .slice bA bads.length bC, .slice vA invs.length vC, .slice gA ands.length gC, .slice nA nms.length nC] 27)).heap.size = w.heap.size + 1 := by simp
    rw [e] at this
    exact this
  have hlt0 : w.heap.size < W0.heap.size := HB0.out.lt
  have hlt1 : w.heap.size + 1 < W0.heap.size := HR0.out.lt
  obtain ⟨bx, hbx⟩ : ∃ bx, w.heap.size = bx := ⟨_, rfl⟩
  rw [hbx] at HB0 HR0 hlt0 hlt1 ⊢
  have HBX := Lib.hid hbx
  clear hW0 hbx
  refine wp_region_noPanic ?_
  refine wp_region_C (fun w' => Fr [] W0 w') 10 (by kernel_rfl) ((Fr.refl [] W0).drew) (fun hT0 => ?_)
  refine wpAnyC_take0 (i := 0) (oi := ?oir1u1) (v := ?vr1u1) ?hir1u1 (by kernel_rfl) (by kernel_rfl) (by kernel_rfl) (by kernel_rfl) ?hQr1u1 ?hwr1u1 ?hyr1u1 hT0 ?_
  case hir1u1 => (simp only [List.getElem?_toArray, List.getElem?_cons_zero]; rfl)
  case hQr1u1 => exact fun _ _ _ h => h
  case hwr1u1 => rfl
  case hyr1u1 => (intro w; go_simp <;> with_reducible rfl)
  try simp only [Act.put, List.setIfInBounds_toArray, List.set_cons_zero, List.set_cons_succ]
  refine wpAnyC_take (i := 1) (oi := ?oir1u2) (v := ?vr1u2) [1, 10] ?hir1u2 (by kernel_rfl) (by kernel_rfl) (by kernel_rfl) (by kernel_rfl) ?hQr1u2 (.inl ⟨?hwr1u2, ?hyr1u2⟩) ((hT0.more 0).resolve_left (by decide)) ?_
  case hir1u2 => (simp only [List.getElem?_toArray, List.getElem?_cons_succ, List.getElem?_cons_zero]; rfl)
  case hQr1u2 => exact fun _ _ _ h => h
  case hwr1u2 => rfl
  case hyr1u2 => (intro w hSw; (have s := hSw.at_ HB0.out (by simp); have s1 := s.cell 1; have s2 := s.cell 2; have s3 := s.cell 3; simp at s1 s2 s3); go_simp <;> with_reducible rfl)
  try simp only [Act.put, List.setIfInBounds_toArray, List.set_cons_zero, List.set_cons_succ]
  refine wpAnyC_take0 (i := 3) (oi := ?oir1u3) (v := ?vr1u3) ?hir1u3 (by kernel_rfl) (by kernel_rfl) (by kernel_rfl) (by kernel_rfl) ?hQr1u3 ?hwr1u3 ?hyr1u3 ((hT0.more 0).more 1) ?_
  case hir1u3 => (simp only [List.getElem?_toArray, List.getElem?_cons_succ, List.getElem?_cons_zero]; rfl)
  case hQr1u3 => exact fun _ _ _ h => h
  case hwr1u3 => rfl
  case hyr1u3 => (intro w; go_simp <;> with_reducible rfl)
  try simp only [Act.put, List.setIfInBounds_toArray, List.set_cons_zero, List.set_cons_succ]
  refine wpAnyC_take (i := 4) (oi := ?oir1u4) (v := ?vr1u4) [4, 10] ?hir1u4 (by kernel_rfl) (by kernel_rfl) (by kernel_rfl) (by kernel_rfl) ?hQr1u4 (.inl ⟨?hwr1u4, ?hyr1u4⟩) ((((hT0.more 0).more 1).more 3).resolve_left (by decide)) ?_
  case hir1u4 => (simp only [List.getElem?_toArray, List.getElem?_cons_succ, List.getElem?_cons_zero]; rfl)
  case hQr1u4 => exact fun _ _ _ h => h
  case hwr1u4 => rfl
  case hyr1u4 => (intro w hSw; (have s := hSw.at_ HB0.out (by simp); have s1 := s.cell 1; have s2 := s.cell 2; have s3 := s.cell 3; simp at s1 s2 s3); go_simp <;> with_reducible rfl)
  try simp only [Act.put, List.setIfInBounds_toArray, List.set_cons_zero, List.set_cons_succ]
  refine wpAnyC_take0 (i := 6) (oi := ?oir1u5) (v := ?vr1u5) ?hir1u5 (by kernel_rfl) (by kernel_rfl) (by kernel_rfl) (by kernel_rfl) ?hQr1u5 ?hwr1u5 ?hyr1u5 ((((hT0.more 0).more 1).more 3).more 4) ?_
  case hir1u5 => (simp only [List.getElem?_toArray, List.getElem?_cons_succ, List.getElem?_cons_zero]; rfl)
  case hQr1u5 => exact fun _ _ _ h => h
  case hwr1u5 => rfl
  case hyr1u5 => (intro w; go_simp <;> with_reducible rfl)
  try simp only [Act.put, List.setIfInBounds_toArray, List.set_cons_zero, List.set_cons_succ]
  refine wpAnyC_take (i := 7) (oi := ?oir1u6) (v := ?vr1u6) [7, 10] ?hir1u6 (by kernel_rfl) (by kernel_rfl) (by kernel_rfl) (by kernel_rfl) ?hQr1u6 (.inl ⟨?hwr1u6, ?hyr1u6⟩) ((((((hT0.more 0).more 1).more 3).more 4).more 6).resolve_left (by decide)) ?_
  case hir1u6 => (simp only [List.getElem?_toArray, List.getElem?_cons_succ, List.getElem?_cons_zero]; rfl)
  case hQr1u6 => exact fun _ _ _ h => h
  case hwr1u6 => rfl
  case hyr1u6 => (intro w hSw; (have s := hSw.at_ HB0.out (by simp); have s1 := s.cell 1; have s2 := s.cell 2; have s3 := s.cell 3; simp at s1 s2 s3); go_simp <;> with_reducible rfl)
  try simp only [Act.put, List.setIfInBounds_toArray, List.set_cons_zero, List.set_cons_succ]
  have hSx := ((((((hT0.more 0).more 1).more 3).more 4).more 6).more 7).resolve_left (by decide)
  refine wpAnyC_ready (rs := [2]) (by kernel_rfl) (by simp) ?_
  refine ReadyC.cons (o := ?or1u7) ?hor1u7 ?hstepr1u7 ?_
  case hor1u7 => (simp only [List.getElem?_toArray, List.getElem?_cons_succ, List.getElem?_cons_zero]; rfl)
  case hstepr1u7 =>
    intro K hK
    (go_simp; refine (clone_ints _ iA ins.length iC (ins.map (Value.int .i64)) HN.out.i ((HH.out.keep (HF0.out.then_ hSx)).i.rs) (by simp) (by simp [Value.oneCell']) (by omega)).mono ?_; rintro e w1 ⟨A1, k1, rfl, ho1, hb1, hf1⟩; have HO1 := Lib.hid ho1; have HL1 := Lib.hid hb1; clear ho1 hb1; dsimp only)
    refine hK.out _ _ (.inr ?_) (fun hHeld => ?_)
    · first | exact hSx.then_ hf3 | exact hSx.then_ hf2 | exact hSx.then_ hf1 | exact hSx
    have hT7 := hHeld
    clear hHeld
    clear hK K
    try simp only [Act.put, List.setIfInBounds_toArray, List.set_cons_zero, List.set_cons_succ]
    refine wpAnyC_take0 (i := 9) (oi := ?oir1u8) (v := ?vr1u8) ?hir1u8 (by kernel_rfl) (by kernel_rfl) (by kernel_rfl) (by kernel_rfl) ?hQr1u8 ?hwr1u8 ?hyr1u8 hT7 ?_
    case hir1u8 => (simp only [List.getElem?_toArray, List.getElem?_cons_succ, List.getElem?_cons_zero]; rfl)
    case hQr1u8 => exact fun _ _ _ h => h
    case hwr1u8 => rfl
    case hyr1u8 => (intro w; go_simp <;> with_reducible rfl)
    try simp only [Act.put, List.setIfInBounds_toArray, List.set_cons_zero, List.set_cons_succ]
    have hSx := (hT7.more 9).resolve_left (by decide)
    refine wpAnyC_ready (rs := [5]) (by kernel_rfl) (by simp) ?_
    refine ReadyC.cons (o := ?or1u9) ?hor1u9 ?hstepr1u9 ?_
    case hor1u9 => (simp only [List.getElem?_toArray, List.getElem?_cons_succ, List.getElem?_cons_zero]; rfl)
    case hstepr1u9 =>
      intro K hK
      (go_simp; refine (clone_lats _ lA lat.length lC (flatT lat) HN.out.l ((HH.out.keep (HF0.out.then_ hSx)).l.rs) (flatT_len _) flatT_one (by omega)).mono ?_; rintro e w2 ⟨A2, k2, rfl, ho2, hb2, hf2⟩; have HO2 := Lib.hid ho2; have HL2 := Lib.hid hb2; clear ho2 hb2; dsimp only)
      refine hK.out _ _ (.inr ?_) (fun hHeld => ?_)
      · first | exact hSx.then_ hf3 | exact hSx.then_ hf2 | exact hSx.then_ hf1 | exact hSx
      have hT9 := hHeld
      clear hHeld
      clear hK K
      try simp only [Act.put, List.setIfInBounds_toArray, List.set_cons_zero, List.set_cons_succ]
      have hSx := hT9.resolve_left (by decide)
      refine wpAnyC_ready (rs := [8]) (by kernel_rfl) (by simp) ?_
      refine ReadyC.cons (o := ?or1u10) ?hor1u10 ?hstepr1u10 ?_
      case hor1u10 => (simp only [List.getElem?_toArray, List.getElem?_cons_succ, List.getElem?_cons_zero]; rfl)
      case hstepr1u10 =>
        intro K hK
        (go_simp; refine (clone_ints _ oA outs.length oC (outs.map (Value.int .i64)) HN.out.o ((HH.out.keep (HF0.out.then_ hSx)).o.rs) (by simp) (by simp [Value.oneCell']) (by omega)).mono ?_; rintro e w3 ⟨A3, k3, rfl, ho3, hb3, hf3⟩; have HO3 := Lib.hid ho3; have HL3 := Lib.hid hb3; clear ho3 hb3; dsimp only)
        refine hK.out _ _ (.inr ?_) (fun hHeld => ?_)
        · first | exact hSx.then_ hf3 | exact hSx.then_ hf2 | exact hSx.then_ hf1 | exact hSx
        have hT10 := hHeld
        clear hHeld
        clear hK K
        try simp only [Act.put, List.setIfInBounds_toArray, List.set_cons_zero, List.set_cons_succ]
        have hSx := hT10.resolve_left (by decide)
        refine wpAnyC_ready (rs := [10]) (by kernel_rfl) (by simp) ?_
        refine ReadyC.cons (o := ?or1u11) ?hor1u11 ?hstepr1u11 ?_
        case hor1u11 => (simp only [List.getElem?_toArray, List.getElem?_cons_succ, List.getElem?_cons_zero]; rfl)
        case hstepr1u11 =>
          intro K hK
          (have s := hSx.at_ HB0.out (by simp); have s1 := s.cell 1; have s2 := s.cell 2; have s3 := s.cell 3; have z1 := s.frozen 1; have z2 := s.frozen 2; have z3 := s.frozen 3; simp at s1 s2 s3; have HSx := Lib.hid hSx; clear s; go_simp)
          refine hK.out _ _ (.inl rfl) (fun hHeld => ?_)
          have hT11 := hHeld
          clear hHeld
          clear hK K
          try simp only [Act.put, List.setIfInBounds_toArray, List.set_cons_zero, List.set_cons_succ]
          refine wpAnyC_take0 (i := 11) (oi := ?oir1u12) (v := ?vr1u12) ?hir1u12 (by kernel_rfl) (by kernel_rfl) (by kernel_rfl) (by kernel_rfl) ?hQr1u12 ?hwr1u12 ?hyr1u12 hT11 ?_
          case hir1u12 => (simp only [List.getElem?_toArray, List.getElem?_cons_succ, List.getElem?_cons_zero]; rfl)
          case hQr1u12 => exact fun _ _ _ h => h
          case hwr1u12 => rfl
          case hyr1u12 => (intro w; go_simp <;> with_reducible rfl)
          try simp only [Act.put, List.setIfInBounds_toArray, List.set_cons_zero, List.set_cons_succ]
          refine wpAnyC_ready (rs := [12]) (by kernel_rfl) (by simp) ?_
          refine ReadyC.cons (o := ?or1u13) ?hor1u13 ?hstepr1u13 ?_
          case hor1u13 => (simp only [List.getElem?_toArray, List.getElem?_cons_succ, List.getElem?_cons_zero]; rfl)
          case hstepr1u13 =>
            intro K hK
            go_simp
            refine hK.out _ _ (.inl rfl) (fun hHeld => ?_)
            have hT13 := hHeld
            clear hHeld
            clear hK K
            try simp only [Act.put, List.setIfInBounds_toArray, List.set_cons_zero, List.set_cons_succ]
            refine wpAnyC_take0 (i := 13) (oi := ?oir1u14) (v := ?vr1u14) ?hir1u14 (by kernel_rfl) (by kernel_rfl) (by kernel_rfl) (by kernel_rfl) ?hQr1u14 ?hwr1u14 ?hyr1u14 hT13 ?_
            case hir1u14 => (simp only [List.getElem?_toArray, List.getElem?_cons_succ, List.getElem?_cons_zero]; rfl)
            case hQr1u14 => exact fun _ _ _ h => h
            case hwr1u14 => rfl
            case hyr1u14 => (intro w; go_simp <;> with_reducible rfl)
            try simp only [Act.put, List.setIfInBounds_toArray, List.set_cons_zero, List.set_cons_succ]
            refine wpAnyC_ready (rs := [14]) (by kernel_rfl) (by simp) ?_
            refine ReadyC.cons (o := ?or1u15) ?hor1u15 ?hstepr1u15 ?_
            case hor1u15 => (simp only [List.getElem?_toArray, List.getElem?_cons_succ, List.getElem?_cons_zero]; rfl)
            case hstepr1u15 =>
              intro K hK
              go_simp
              refine hK.out _ _ (.inl rfl) (fun hHeld => ?_)
              have hT15 := hHeld
              clear hHeld
              clear hK K
              try simp only [Act.put, List.setIfInBounds_toArray, List.set_cons_zero, List.set_cons_succ]
              refine wpAnyC_done (by kernel_rfl) ?_ _
              refine NoPanic.normal ?_
              clear s1 s2 s3 z1 z2 z3
              try clear hSx
              obtain ⟨W1, hW1⟩ : ∃ W, ((w3.setCell ⟨bx, 1, none⟩ (.slice A1 ins.length k1)).setCell ⟨bx, 2, none⟩ (.slice A2 lat.length k2)).setCell ⟨bx, 3, none⟩ (.slice A3 outs.length k3) = W := ⟨_, rfl⟩
              have HF1 : Hid (Fr [bx] w3 W1) := hW1 ▸ (((Fr.refl [bx] w3).setCell (.inl (by simp)) _).setCell (.inl (by simp)) _).setCell (.inl (by simp)) _
              have HB1 : Hid (At W1 bx 27 #[.int .i64 mx, .slice A1 ins.length k1, .slice A2 lat.length k2, .slice A3 outs.length k3, .slice bA bads.length bC, .slice vA invs.length vC, .slice gA ands.length gC, .slice nA nms.length nC]) := by
                rw [← hW1]
                have := (((HSx.out.at_ HB0.out (by simp)).set_ 1 (.slice A1 ins.length k1)).set_ 2 (.slice A2 lat.length k2)).set_ 3 (.slice A3 outs.length k3)
                simp at this
                exact this
              rw [hW1]
              clear hW1
              have HF01 : Hid (Fr [bx] W0 W1) := (HSx.out.mono (fun _ h => by cases h)).then_ HF1.out
              have HFW : Hid (Fr [] w W1) := HF0.out.trans HF01.out (fun x hx => .inr (by simp at hx; rw [hx, HBX.out]; exact Nat.le_refl _))
              have hs1 : W0.heap.size ≤ w1.heap.size := hf1.size
              have hs2 : w1.heap.size ≤ w2.heap.size := hf2.size
              have hs3 : w2.heap.size ≤ w3.heap.size := hf3.size
              have P1 : Hid (Ow W1 W0.heap.size 3 1 A1 k1 ins.length (ins.map (Value.int .i64))) := Ow.fr (⟨(Ow.fr (B := 0) ⟨HO1.out, fun _ _ => Nat.zero_le _⟩ (hf2.then_ hf3) (fun _ _ => by simp)).1, fun k hk => HL1.out k hk⟩) HF1.out (fun k hk hm => by have := HL1.out k hk; simp at hm this; omega)
              have P2 : Hid (Ow W1 W0.heap.size 67 3 A2 k2 lat.length (flatT lat)) := Ow.fr (⟨(Ow.fr (B := 0) ⟨HO2.out, fun _ _ => Nat.zero_le _⟩ hf3 (fun _ _ => by simp)).1, fun k hk => Nat.le_trans hs1 (HL2.out k hk)⟩) HF1.out (fun k hk hm => by have := HL2.out k hk; simp at hm this; omega)
              have P3 : Hid (Ow W1 W0.heap.size 3 1 A3 k3 outs.length (outs.map (Value.int .i64))) := Ow.fr (⟨HO3.out, fun k hk => Nat.le_trans hs1 (Nat.le_trans hs2 (HL3.out k hk))⟩) HF1.out (fun k hk hm => by have := HL3.out k hk; simp at hm this; omega)
              have hltW : W0.heap.size ≤ W1.heap.size := HF01.out.size
              clear HO1 HO2 HO3 HL1 HL2 HL3 hf1 hf2 hf3 hs1 hs2 hs3 HF1
              go_upto_region 2 with fail
              refine wp_region_noPanic ?_
              refine wp_region_C (fun w' => Fr [] W1 w') 13 (by kernel_rfl) ((Fr.refl [] W1).drew) (fun hT0 => ?_)
              refine wpAnyC_take0 (i := 0) (oi := ?oir2u1) (v := ?vr2u1) ?hir2u1 (by kernel_rfl) (by kernel_rfl) (by kernel_rfl) (by kernel_rfl) ?hQr2u1 ?hwr2u1 ?hyr2u1 hT0 ?_
              case hir2u1 => (simp only [List.getElem?_toArray, List.getElem?_cons_zero]; rfl)
              case hQr2u1 => exact fun _ _ _ h => h
              case hwr2u1 => rfl
              case hyr2u1 => (intro w; go_simp <;> with_reducible rfl)
              try simp only [Act.put, List.setIfInBounds_toArray, List.set_cons_zero, List.set_cons_succ]
              refine wpAnyC_take (i := 1) (oi := ?oir2u2) (v := ?vr2u2) [1, 13] ?hir2u2 (by kernel_rfl) (by kernel_rfl) (by kernel_rfl) (by kernel_rfl) ?hQr2u2 (.inl ⟨?hwr2u2, ?hyr2u2⟩) ((hT0.more 0).resolve_left (by decide)) ?_
              case hir2u2 => (simp only [List.getElem?_toArray, List.getElem?_cons_succ, List.getElem?_cons_zero]; rfl)
              case hQr2u2 => exact fun _ _ _ h => h
              case hwr2u2 => rfl
              case hyr2u2 => (intro w hSw; (have s := hSw.at_ HB1.out (by simp); have s1 := s.cell 4; have s2 := s.cell 5; have s3 := s.cell 6; have s4 := s.cell 7; simp at s1 s2 s3 s4); go_simp <;> with_reducible rfl)
              try simp only [Act.put, List.setIfInBounds_toArray, List.set_cons_zero, List.set_cons_succ]
              refine wpAnyC_take0 (i := 3) (oi := ?oir2u3) (v := ?vr2u3) ?hir2u3 (by kernel_rfl) (by kernel_rfl) (by kernel_rfl) (by kernel_rfl) ?hQr2u3 ?hwr2u3 ?hyr2u3 ((hT0.more 0).more 1) ?_
              case hir2u3 => (simp only [List.getElem?_toArray, List.getElem?_cons_succ, List.getElem?_cons_zero]; rfl)
              case hQr2u3 => exact fun _ _ _ h => h
              case hwr2u3 => rfl
              case hyr2u3 => (intro w; go_simp <;> with_reducible rfl)
              try simp only [Act.put, List.setIfInBounds_toArray, List.set_cons_zero, List.set_cons_succ]
              refine wpAnyC_take (i := 4) (oi := ?oir2u4) (v := ?vr2u4) [4, 13] ?hir2u4 (by kernel_rfl) (by kernel_rfl) (by kernel_rfl) (by kernel_rfl) ?hQr2u4 (.inl ⟨?hwr2u4, ?hyr2u4⟩) ((((hT0.more 0).more 1).more 3).resolve_left (by decide)) ?_
              case hir2u4 => (simp only [List.getElem?_toArray, List.getElem?_cons_succ, List.getElem?_cons_zero]; rfl)
              case hQr2u4 => exact fun _ _ _ h => h
              case hwr2u4 => rfl
              case hyr2u4 => (intro w hSw; (have s := hSw.at_ HB1.out (by simp); have s1 := s.cell 4; have s2 := s.cell 5; have s3 := s.cell 6; have s4 := s.cell 7; simp at s1 s2 s3 s4); go_simp <;> with_reducible rfl)
              try simp only [Act.put, List.setIfInBounds_toArray, List.set_cons_zero, List.set_cons_succ]
              refine wpAnyC_take0 (i := 6) (oi := ?oir2u5) (v := ?vr2u5) ?hir2u5 (by kernel_rfl) (by kernel_rfl) (by kernel_rfl) (by kernel_rfl) ?hQr2u5 ?hwr2u5 ?hyr2u5 ((((hT0.more 0).more 1).more 3).more 4) ?_
              case hir2u5 => (simp only [List.getElem?_toArray, List.getElem?_cons_succ, List.getElem?_cons_zero]; rfl)
              case hQr2u5 => exact fun _ _ _ h => h
              case hwr2u5 => rfl
              case hyr2u5 => (intro w; go_simp <;> with_reducible rfl)
              try simp only [Act.put, List.setIfInBounds_toArray, List.set_cons_zero, List.set_cons_succ]
              refine wpAnyC_take (i := 7) (oi := ?oir2u6) (v := ?vr2u6) [7, 13] ?hir2u6 (by kernel_rfl) (by kernel_rfl) (by kernel_rfl) (by kernel_rfl) ?hQr2u6 (.inl ⟨?hwr2u6, ?hyr2u6⟩) ((((((hT0.more 0).more 1).more 3).more 4).more 6).resolve_left (by decide)) ?_
              case hir2u6 => (simp only [List.getElem?_toArray, List.getElem?_cons_succ, List.getElem?_cons_zero]; rfl)
              case hQr2u6 => exact fun _ _ _ h => h
              case hwr2u6 => rfl
              case hyr2u6 => (intro w hSw; (have s := hSw.at_ HB1.out (by simp); have s1 := s.cell 4; have s2 := s.cell 5; have s3 := s.cell 6; have s4 := s.cell 7; simp at s1 s2 s3 s4); go_simp <;> with_reducible rfl)
              try simp only [Act.put, List.setIfInBounds_toArray, List.set_cons_zero, List.set_cons_succ]
              refine wpAnyC_take0 (i := 9) (oi := ?oir2u7) (v := ?vr2u7) ?hir2u7 (by kernel_rfl) (by kernel_rfl) (by kernel_rfl) (by kernel_rfl) ?hQr2u7 ?hwr2u7 ?hyr2u7 ((((((hT0.more 0).more 1).more 3).more 4).more 6).more 7) ?_
              case hir2u7 => (simp only [List.getElem?_toArray, List.getElem?_cons_succ, List.getElem?_cons_zero]; rfl)
              case hQr2u7 => exact fun _ _ _ h => h
              case hwr2u7 => rfl
              case hyr2u7 => (intro w; go_simp <;> with_reducible rfl)
              try simp only [Act.put, List.setIfInBounds_toArray, List.set_cons_zero, List.set_cons_succ]
              refine wpAnyC_take (i := 10) (oi := ?oir2u8) (v := ?vr2u8) [10, 13] ?hir2u8 (by kernel_rfl) (by kernel_rfl) (by kernel_rfl) (by kernel_rfl) ?hQr2u8 (.inl ⟨?hwr2u8, ?hyr2u8⟩) ((((((((hT0.more 0).more 1).more 3).more 4).more 6).more 7).more 9).resolve_left (by decide)) ?_
              case hir2u8 => (simp only [List.getElem?_toArray, List.getElem?_cons_succ, List.getElem?_cons_zero]; rfl)
              case hQr2u8 => exact fun _ _ _ h => h
              case hwr2u8 => rfl
              case hyr2u8 => (intro w hSw; (have s := hSw.at_ HB1.out (by simp); have s1 := s.cell 4; have s2 := s.cell 5; have s3 := s.cell 6; have s4 := s.cell 7; simp at s1 s2 s3 s4); go_simp <;> with_reducible rfl)
              try simp only [Act.put, List.setIfInBounds_toArray, List.set_cons_zero, List.set_cons_succ]
              have hSx := ((((((((hT0.more 0).more 1).more 3).more 4).more 6).more 7).more 9).more 10).resolve_left (by decide)
              refine wpAnyC_ready (rs := [2]) (by kernel_rfl) (by simp) ?_
              refine ReadyC.cons (o := ?or2u9) ?hor2u9 ?hstepr2u9 ?_
              case hor2u9 => (simp only [List.getElem?_toArray, List.getElem?_cons_succ, List.getElem?_cons_zero]; rfl)
              case hstepr2u9 =>
                intro K hK
                (go_simp; refine (clone_ints _ bA bads.length bC (bads.map (Value.int .i64)) HN.out.b ((HH.out.keep (HFW.out.then_ hSx)).b.rs) (by simp) (by simp [Value.oneCell']) (by omega)).mono ?_; rintro e w4 ⟨A4, k4, rfl, ho4, hb4, hf4⟩; have HO4 := Lib.hid ho4; have HL4 := Lib.hid hb4; clear ho4 hb4; dsimp only)
                refine hK.out _ _ (.inr ?_) (fun hHeld => ?_)
                · first | exact hSx.then_ hf7 | exact hSx.then_ hf6 | exact hSx.then_ hf5 | exact hSx.then_ hf4 | exact hSx
                have hT9 := hHeld
                clear hHeld
                clear hK K
                try simp only [Act.put, List.setIfInBounds_toArray, List.set_cons_zero, List.set_cons_succ]
                refine wpAnyC_take0 (i := 12) (oi := ?oir2u10) (v := ?vr2u10) ?hir2u10 (by kernel_rfl) (by kernel_rfl) (by kernel_rfl) (by kernel_rfl) ?hQr2u10 ?hwr2u10 ?hyr2u10 hT9 ?_
                case hir2u10 => (simp only [List.getElem?_toArray, List.getElem?_cons_succ, List.getElem?_cons_zero]; rfl)
                case hQr2u10 => exact fun _ _ _ h => h
                case hwr2u10 => rfl
                case hyr2u10 => (intro w; go_simp <;> with_reducible rfl)
                try simp only [Act.put, List.setIfInBounds_toArray, List.set_cons_zero, List.set_cons_succ]
                have hSx := (hT9.more 12).resolve_left (by decide)
                refine wpAnyC_ready (rs := [5]) (by kernel_rfl) (by simp) ?_
                refine ReadyC.cons (o := ?or2u11) ?hor2u11 ?hstepr2u11 ?_
                case hor2u11 => (simp only [List.getElem?_toArray, List.getElem?_cons_succ, List.getElem?_cons_zero]; rfl)
                case hstepr2u11 =>
                  intro K hK
                  (go_simp; refine (clone_ints _ vA invs.length vC (invs.map (Value.int .i64)) HN.out.v ((HH.out.keep (HFW.out.then_ hSx)).v.rs) (by simp) (by simp [Value.oneCell']) (by omega)).mono ?_; rintro e w5 ⟨A5, k5, rfl, ho5, hb5, hf5⟩; have HO5 := Lib.hid ho5; have HL5 := Lib.hid hb5; clear ho5 hb5; dsimp only)
                  refine hK.out _ _ (.inr ?_) (fun hHeld => ?_)
                  · first | exact hSx.then_ hf7 | exact hSx.then_ hf6 | exact hSx.then_ hf5 | exact hSx.then_ hf4 | exact hSx
                  have hT11 := hHeld
                  clear hHeld
                  clear hK K
                  try simp only [Act.put, List.setIfInBounds_toArray, List.set_cons_zero, List.set_cons_succ]
                  have hSx := hT11.resolve_left (by decide)
                  refine wpAnyC_ready (rs := [8]) (by kernel_rfl) (by simp) ?_
                  refine ReadyC.cons (o := ?or2u12) ?hor2u12 ?hstepr2u12 ?_
                  case hor2u12 => (simp only [List.getElem?_toArray, List.getElem?_cons_succ, List.getElem?_cons_zero]; rfl)
                  case hstepr2u12 =>
                    intro K hK
                    (go_simp; refine (clone_ands _ gA ands.length gC (flatT ands) HN.out.g ((HH.out.keep (HFW.out.then_ hSx)).g.rs) (flatT_len _) flatT_one (by omega)).mono ?_; rintro e w6 ⟨A6, k6, rfl, ho6, hb6, hf6⟩; have HO6 := Lib.hid ho6; have HL6 := Lib.hid hb6; clear ho6 hb6; dsimp only)
                    refine hK.out _ _ (.inr ?_) (fun hHeld => ?_)
                    · first | exact hSx.then_ hf7 | exact hSx.then_ hf6 | exact hSx.then_ hf5 | exact hSx.then_ hf4 | exact hSx
                    have hT12 := hHeld
                    clear hHeld
                    clear hK K
                    try simp only [Act.put, List.setIfInBounds_toArray, List.set_cons_zero, List.set_cons_succ]
                    have hSx := hT12.resolve_left (by decide)
                    refine wpAnyC_ready (rs := [11]) (by kernel_rfl) (by simp) ?_
                    refine ReadyC.cons (o := ?or2u13) ?hor2u13 ?hstepr2u13 ?_
                    case hor2u13 => (simp only [List.getElem?_toArray, List.getElem?_cons_succ, List.getElem?_cons_zero]; rfl)
                    case hstepr2u13 =>
                      intro K hK
                      (go_simp; refine (clone_nms _ nA nms.length nC (flatM nms) HN.out.n ((HH.out.keep (HFW.out.then_ hSx)).n.rs) (flatM_len _) flatM_one (by omega)).mono ?_; rintro e w7 ⟨A7, k7, rfl, ho7, hb7, hf7⟩; have HO7 := Lib.hid ho7; have HL7 := Lib.hid hb7; clear ho7 hb7; dsimp only)
                      refine hK.out _ _ (.inr ?_) (fun hHeld => ?_)
                      · first | exact hSx.then_ hf7 | exact hSx.then_ hf6 | exact hSx.then_ hf5 | exact hSx.then_ hf4 | exact hSx
                      have hT13 := hHeld
                      clear hHeld
                      clear hK K
                      try simp only [Act.put, List.setIfInBounds_toArray, List.set_cons_zero, List.set_cons_succ]
                      have hSx := hT13.resolve_left (by decide)
                      refine wpAnyC_ready (rs := [13]) (by kernel_rfl) (by simp) ?_
                      refine ReadyC.cons (o := ?or2u14) ?hor2u14 ?hstepr2u14 ?_
                      case hor2u14 => (simp only [List.getElem?_toArray, List.getElem?_cons_succ, List.getElem?_cons_zero]; rfl)
                      case hstepr2u14 =>
                        intro K hK
                        (have s := hSx.at_ HB1.out (by simp); have s1 := s.cell 4; have s2 := s.cell 5; have s3 := s.cell 6; have s4 := s.cell 7; have z1 := s.frozen 4; have z2 := s.frozen 5; have z3 := s.frozen 6; have z4 := s.frozen 7; simp at s1 s2 s3 s4; have HSy := Lib.hid hSx; clear s; go_simp)
                        refine hK.out _ _ (.inl rfl) (fun hHeld => ?_)
                        have hT14 := hHeld
                        clear hHeld
                        clear hK K
                        try simp only [Act.put, List.setIfInBounds_toArray, List.set_cons_zero, List.set_cons_succ]
                        refine wpAnyC_take0 (i := 14) (oi := ?oir2u15) (v := ?vr2u15) ?hir2u15 (by kernel_rfl) (by kernel_rfl) (by kernel_rfl) (by kernel_rfl) ?hQr2u15 ?hwr2u15 ?hyr2u15 hT14 ?_
                        case hir2u15 => (simp only [List.getElem?_toArray, List.getElem?_cons_succ, List.getElem?_cons_zero]; rfl)
                        case hQr2u15 => exact fun _ _ _ h => h
                        case hwr2u15 => rfl
                        case hyr2u15 => (intro w; go_simp <;> with_reducible rfl)
                        try simp only [Act.put, List.setIfInBounds_toArray, List.set_cons_zero, List.set_cons_succ]
                        refine wpAnyC_ready (rs := [15]) (by kernel_rfl) (by simp) ?_
                        refine ReadyC.cons (o := ?or2u16) ?hor2u16 ?hstepr2u16 ?_
                        case hor2u16 => (simp only [List.getElem?_toArray, List.getElem?_cons_succ, List.getElem?_cons_zero]; rfl)
                        case hstepr2u16 =>
                          intro K hK
                          go_simp
                          refine hK.out _ _ (.inl rfl) (fun hHeld => ?_)
                          have hT16 := hHeld
                          clear hHeld
                          clear hK K
                          try simp only [Act.put, List.setIfInBounds_toArray, List.set_cons_zero, List.set_cons_succ]
                          refine wpAnyC_take0 (i := 16) (oi := ?oir2u17) (v := ?vr2u17) ?hir2u17 (by kernel_rfl) (by kernel_rfl) (by kernel_rfl) (by kernel_rfl) ?hQr2u17 ?hwr2u17 ?hyr2u17 hT16 ?_
                          case hir2u17 => (simp only [List.getElem?_toArray, List.getElem?_cons_succ, List.getElem?_cons_zero]; rfl)
                          case hQr2u17 => exact fun _ _ _ h => h
                          case hwr2u17 => rfl
                          case hyr2u17 => (intro w; go_simp <;> with_reducible rfl)
                          try simp only [Act.put, List.setIfInBounds_toArray, List.set_cons_zero, List.set_cons_succ]
                          refine wpAnyC_ready (rs := [17]) (by kernel_rfl) (by simp) ?_
                          refine ReadyC.cons (o := ?or2u18) ?hor2u18 ?hstepr2u18 ?_
                          case hor2u18 => (simp only [List.getElem?_toArray, List.getElem?_cons_succ, List.getElem?_cons_zero]; rfl)
                          case hstepr2u18 =>
                            intro K hK
                            go_simp
                            refine hK.out _ _ (.inl rfl) (fun hHeld => ?_)
                            have hT18 := hHeld
                            clear hHeld
                            clear hK K
                            try simp only [Act.put, List.setIfInBounds_toArray, List.set_cons_zero, List.set_cons_succ]
                            refine wpAnyC_take0 (i := 18) (oi := ?oir2u19) (v := ?vr2u19) ?hir2u19 (by kernel_rfl) (by kernel_rfl) (by kernel_rfl) (by kernel_rfl) ?hQr2u19 ?hwr2u19 ?hyr2u19 hT18 ?_
                            case hir2u19 => (simp only [List.getElem?_toArray, List.getElem?_cons_succ, List.getElem?_cons_zero]; rfl)
                            case hQr2u19 => exact fun _ _ _ h => h
                            case hwr2u19 => rfl
                            case hyr2u19 => (intro w; go_simp <;> with_reducible rfl)
                            try simp only [Act.put, List.setIfInBounds_toArray, List.set_cons_zero, List.set_cons_succ]
                            refine wpAnyC_ready (rs := [19]) (by kernel_rfl) (by simp) ?_
                            refine ReadyC.cons (o := ?or2u20) ?hor2u20 ?hstepr2u20 ?_
                            case hor2u20 => (simp only [List.getElem?_toArray, List.getElem?_cons_succ, List.getElem?_cons_zero]; rfl)
                            case hstepr2u20 =>
                              intro K hK
                              go_simp
                              refine hK.out _ _ (.inl rfl) (fun hHeld => ?_)
                              have hT20 := hHeld
                              clear hHeld
                              clear hK K
                              try simp only [Act.put, List.setIfInBounds_toArray, List.set_cons_zero, List.set_cons_succ]
                              refine wpAnyC_done (by kernel_rfl) ?_ _
                              refine NoPanic.normal ?_
                              clear s1 s2 s3 s4 z1 z2 z3 z4
                              try clear hSx
                              obtain ⟨W2, hW2⟩ : ∃ W, (((w7.setCell ⟨bx, 4, none⟩ (.slice A4 bads.length k4)).setCell ⟨bx, 5, none⟩ (.slice A5 invs.length k5)).setCell ⟨bx, 6, none⟩ (.slice A6 ands.length k6)).setCell ⟨bx, 7, none⟩ (.slice A7 nms.length k7) = W := ⟨_, rfl⟩
                              have HF2 : Hid (Fr [bx] w7 W2) := hW2 ▸ ((((Fr.refl [bx] w7).setCell (.inl (by simp)) _).setCell (.inl (by simp)) _).setCell (.inl (by simp)) _).setCell (.inl (by simp)) _
                              have HB2 : Hid (At W2 bx 27 #[.int .i64 mx, .slice A1 ins.length k1, .slice A2 lat.length k2, .slice A3 outs.length k3, .slice A4 bads.length k4, .slice A5 invs.length k5, .slice A6 ands.length k6, .slice A7 nms.length k7]) := by
                                rw [← hW2]
                                have := ((((HSy.out.at_ HB1.out (by simp)).set_ 4 (.slice A4 bads.length k4)).set_ 5 (.slice A5 invs.length k5)).set_ 6 (.slice A6 ands.length k6)).set_ 7 (.slice A7 nms.length k7)
                                simp at this
                                exact this
                              rw [hW2]
                              clear hW2
                              have HF12 : Hid (Fr [bx] W1 W2) := (HSy.out.mono (fun _ h => by cases h)).then_ HF2.out
                              have HFZ : Hid (Fr [] w W2) := HFW.out.trans HF12.out (fun x hx => .inr (by simp at hx; rw [hx, HBX.out]; exact Nat.le_refl _))
                              have hs4 : W1.heap.size ≤ w4.heap.size := hf4.size
                              have hs5 : w4.heap.size ≤ w5.heap.size := hf5.size
                              have hs6 : w5.heap.size ≤ w6.heap.size := hf6.size
                              have hs7 : w6.heap.size ≤ w7.heap.size := hf7.size
                              have Q1 := Lib.hid (P1.out.fr HF12.out (fun k hk hm => by have := P1.out.2 k hk; simp at hm; omega))
                              have Q2 := Lib.hid (P2.out.fr HF12.out (fun k hk hm => by have := P2.out.2 k hk; simp at hm; omega))
                              have Q3 := Lib.hid (P3.out.fr HF12.out (fun k hk hm => by have := P3.out.2 k hk; simp at hm; omega))
                              have Q4 : Hid (Ow W2 W0.heap.size 3 1 A4 k4 bads.length (bads.map (Value.int .i64))) := Ow.fr (⟨(Ow.fr (B := 0) ⟨HO4.out, fun _ _ => Nat.zero_le _⟩ ((hf5.then_ hf6).then_ hf7) (fun _ _ => by simp)).1, fun k hk => by have this : W1.heap.size ≤ k := HL4.out k hk; omega⟩) HF2.out (fun k hk hm => by have this : W1.heap.size ≤ k := HL4.out k hk; simp at hm; omega)
                              have Q5 : Hid (Ow W2 W0.heap.size 3 1 A5 k5 invs.length (invs.map (Value.int .i64))) := Ow.fr (⟨(Ow.fr (B := 0) ⟨HO5.out, fun _ _ => Nat.zero_le _⟩ (hf6.then_ hf7) (fun _ _ => by simp)).1, fun k hk => by have := HL5.out k hk; omega⟩) HF2.out (fun k hk hm => by have := HL5.out k hk; simp at hm; omega)
                              have Q6 : Hid (Ow W2 W0.heap.size 70 3 A6 k6 ands.length (flatT ands)) := Ow.fr (⟨(Ow.fr (B := 0) ⟨HO6.out, fun _ _ => Nat.zero_le _⟩ hf7 (fun _ _ => by simp)).1, fun k hk => by have := HL6.out k hk; omega⟩) HF2.out (fun k hk hm => by have := HL6.out k hk; simp at hm; omega)
                              have Q7 : Hid (Ow W2 W0.heap.size 61 3 A7 k7 nms.length (flatM nms)) := Ow.fr (⟨HO7.out, fun k hk => by have := HL7.out k hk; omega⟩) HF2.out (fun k hk hm => by have := HL7.out k hk; simp at hm; omega)
                              have HRZ : Hid (At W2 (bx + 1) 27 #[.int .i64 0, .slice none 0 0, .slice none 0 0, .slice none 0 0, .slice none 0 0, .slice none 0 0, .slice none 0 0, .slice none 0 0]) := HF12.out.at_ (HF01.out.at_ HR0.out (by simp)) (by simp)
                              have hltz : bx + 1 < W0.heap.size := hlt1
                              have b0 := HB2.out.cell 0
                              have b1 := HB2.out.cell 1
                              have b2 := HB2.out.cell 2
                              have b3 := HB2.out.cell 3
                              have b4 := HB2.out.cell 4
                              have b5 := HB2.out.cell 5
                              have b6 := HB2.out.cell 6
                              have b7 := HB2.out.cell 7
                              have r0 := HRZ.out.cell 0
                              have r1 := HRZ.out.cell 1
                              have r2 := HRZ.out.cell 2
                              have r3 := HRZ.out.cell 3
                              have r4 := HRZ.out.cell 4
                              have r5 := HRZ.out.cell 5
                              have r6 := HRZ.out.cell 6
                              have r7 := HRZ.out.cell 7
                              have z0 := HRZ.out.frozen 0
                              have z1 := HRZ.out.frozen 1
                              have z2 := HRZ.out.frozen 2
                              have z3 := HRZ.out.frozen 3
                              have z4 := HRZ.out.frozen 4
                              have z5 := HRZ.out.frozen 5
                              have z6 := HRZ.out.frozen 6
                              have z7 := HRZ.out.frozen 7
                              simp at b0 b1 b2 b3 b4 b5 b6 b7 r0 r1 r2 r3 r4 r5 r6 r7
                              have CONV : Hid (∀ W, Fr [bx + 1] W2 W → CpP ⟨mx, ins, lat, outs, bads, invs, ands, nms⟩ w (.returned (cval ⟨A1, k1, A2, k2, A3, k3, A4, k4, A5, k5, A6, k6, A7, k7⟩ ⟨mx, ins, lat, outs, bads, invs, ands, nms⟩)) W) := fun W hW => by
                                have hle : w.heap.size ≤ W0.heap.size := by rw [HBX.out]; omega
                                have hne : ∀ k, W0.heap.size ≤ k → k ∉ [bx + 1] := fun k hk hm => by simp at hm; omega
                                exact YES.out _ W ⟨(Q1.out.fr hW (fun k hk => hne k (Q1.out.2 k hk))).less hle, (Q2.out.fr hW (fun k hk => hne k (Q2.out.2 k hk))).less hle, (Q3.out.fr hW (fun k hk => hne k (Q3.out.2 k hk))).less hle, (Q4.out.fr hW (fun k hk => hne k (Q4.out.2 k hk))).less hle, (Q5.out.fr hW (fun k hk => hne k (Q5.out.2 k hk))).less hle, (Q6.out.fr hW (fun k hk => hne k (Q6.out.2 k hk))).less hle, (Q7.out.fr hW (fun k hk => hne k (Q7.out.2 k hk))).less hle⟩ (HFZ.out.trans hW (fun x hx => .inr (by simp at hx; rw [hx, HBX.out]; omega)))
                              go_wp2_with fail
                              refine bodyPost_ret (v := .agg #[.int .i64 mx, .slice A1 ins.length k1, .slice A2 lat.length k2, .slice A3 outs.length k3, .slice A4 bads.length k4, .slice A5 invs.length k5, .slice A6 ands.length k6, .slice A7 nms.length k7]) (by simp [results, go_sem, r0, r1, r2, r3, r4, r5, r6, r7]) rfl ?_
                              exact CONV.out _ (((((((((Fr.refl [bx + 1] W2).setCell (.inl (by simp)) _).setCell (.inl (by simp)) _).setCell (.inl (by simp)) _).setCell (.inl (by simp)) _).setCell (.inl (by simp)) _).setCell (.inl (by simp)) _).setCell (.inl (by simp)) _).setCell (.inl (by simp)) _)
                            exact ReadyC.nil
                          exact ReadyC.nil
                        exact ReadyC.nil
                      exact ReadyC.nil
                    exact ReadyC.nil
                  exact ReadyC.nil
                exact ReadyC.nil
              exact ReadyC.nil
            exact ReadyC.nil
          exact ReadyC.nil
        exact ReadyC.nil
      exact ReadyC.nil
    exact ReadyC.nil
  exact ReadyC.nil

end Go.Proofs.Ytbjccgahmgpkjaa
