/-  -/
import Derived.Test.YtjchilcpflfcnaaSgA
import Derived.Test.YtjchilcpflfcnaaSgJ
import Derived.Test.YtjchilcpflfcnaaSgI
set_option linter.unusedVariables false
set_option linter.unusedSimpArgs false
set_option maxHeartbeats 16000000
set_option maxRecDepth 100000
namespace Go.Proofs.Ytjchilcpflfcnaa
open Go.RowKit
theorem SvL.ext_in {L L' M : SvL} {A : Option Addr} {w w' : World} (h : L.ext M w) (ha : L'.a = M.a) (hi : L'.id = M.id) (hk : ∀ k, k < w'.heap.size → (L'.lab k).1 = M.id → (M.lab k).1 = M.id ∨ k ∈ blks A) (hz : w.heap.size ≤ w'.heap.size) (hA : ∀ k, k ∈ blks A → w.heap.size ≤ k) : L.ext L' w :=
 ⟨ha.trans h.1, hi.trans h.2.1, fun k hl e => by
  rcases hk k (Nat.lt_of_lt_of_le hl hz) (e.trans h.2.1.symm) with h1 | h1
  ·exact h.2.2 k hl (h1.trans h.2.1)
  ·have := hA k h1
   omega⟩
theorem SvL.own_in {L M : SvL} {A : Option Addr} {w w' w'' : World} (h : L.ext M w) (h1 : Fr (L.own w) w w') (h2 : Fr (blks A ++ M.own w') w' w'') (hA : ∀ k, k ∈ blks A → w.heap.size ≤ k) : Fr (L.own w) w w'' :=
 h1.trans h2 fun x hx => by
  rcases List.mem_append.1 hx with hx | hx
  ·exact .inr (hA x hx)
  ·rw [SvL.mem_own] at hx
   rcases Nat.lt_or_ge x w.heap.size with hl | hl
   ·left
    rw [SvL.mem_own]
    exact ⟨hl, h.2.2 x hl (hx.2.trans h.2.1)⟩
   ·exact .inr hl
theorem tdiv_nat (b : Nat) : ((b : Int).tdiv 16) = ((b / 16 : Nat) : Int) := by
 rw [Int.tdiv_eq_ediv_of_nonneg (by omega)]
 rfl
theorem conflict_calls (w : World) (L : SvL) (S : Sv) (h : SvAt w L S) (m : Nat) (ok : S.Ok m) (n : Nat) (hn : n < S.list.length) (hll : S.list.length < 1099511627776) (hu : S.used ≤ 1099511627776) (hbu : S.bump ≤ 1073741824) (hma : S.many < 4611686018427387904) (hmb : -4611686018427387904 < S.many) (hdl : S.T.levels.length ≤ 8796093022208) (S' : Sv) (b : Bool) (hres : S.conflict n = some (S', b)) :
  Calls Try.prog 48 #[.pointer (some ⟨L.a, 0, none⟩), .int .i64 n] w (SvP (.bool b) S' L w) := by
 have HH := Lib.hid h
 have HOK := Lib.hid ok
 obtain ⟨c0, -⟩ := h.cells
 have KD := Lib.hid (trail_depth w L.tL S.T h.tr)
 unfold Sv.conflict at hres
 by_cases hz : S.T.levels.length = 0
 ·rw [if_pos hz] at hres
  simp only [Option.some.injEq, Prod.mk.injEq] at hres
  obtain ⟨rfl, rfl⟩ := hres
  rw [hz] at KD
  have hfz := h.obj.frozen 13
  have c13 := h.cells.2.2.2.2.2.2.2.2.2.2.2.2.2.1
  obtain ⟨g1, g2⟩ := h.setc 13 (.bool true) { S with bad := true } (by simp [scs]) ⟨rfl, rfl, rfl, rfl, rfl, rfl, rfl⟩
  have FF : Hid (SvP (.bool false) { S with bad := true } L w (.returned (.bool false)) (w.setCell ⟨L.a, 13, none⟩ (.bool true))) := ⟨rfl, L, g1, SvL.ext_refl _ _, g2⟩
  clear h ok g1 g2 hz
  go_enter Try.func48, Try.ntmps48
  go_wp2_with fail
  refine KD.out.mono ?_
  rintro e w1 ⟨rfl, rfl⟩
  clear KD
  go_wp2_with fail
  go_ret
  exact FF.out
 ·rw [if_neg hz] at hres
  have hd : ((S.T.levels.length : Int) == (0 : Int)) = false := by rw [beq_eq_false_iff_ne]; omega
  cases hq : S.learned n with
  | none => rw [hq] at hres; cases hres
  | some q =>
   obtain ⟨S1, l, lev⟩ := q
   rw [hq] at hres
   simp only [Option.some.injEq, Prod.mk.injEq] at hres
   obtain ⟨rfl, rfl⟩ := hres
   have KLD := Lib.hid (learned_calls w L S h m ok n hn S1 l lev hq)
   obtain ⟨ok1, eT, eV, eL, eU, l0, l1, lr, lev0, lev1⟩ := Sv.learned_fit ok hq
   obtain ⟨lv, rfl⟩ : ∃ lv : Nat, lev = lv := ⟨lev.toNat, by omega⟩
   have hlv : lv ≤ 8796093022208 := by omega
   have HOK1 := Lib.hid ok1
   have HLR := Lib.hid lr
   have hvl := ok.vl
   obtain ⟨ok2, eV2, eL2⟩ := ok1.back lv
   have HOK2 := Lib.hid ok2
   obtain ⟨S2, hS2⟩ : ∃ S2, S1.back lv = S2 := ⟨_, rfl⟩
   have hx := Sv.back_rest S1 lv
   rw [hS2] at ok2 eV2 eL2 HOK2 hx
   have HS2 := Lib.hid hS2
   have hb2 : S2.bump = S.bump ∧ S2.many = S.many ∧ S2.used = S.used := ⟨hx.1.trans (Sv.learned_rest hq).1, hx.2.1.trans (Sv.learned_rest hq).2, hx.2.2.trans eU⟩
   obtain ⟨hbump, hmany, hused⟩ := hb2
   have hlen2 : S2.list.length = S.list.length := by rw [eL2]; exact eL
   have hvar2 : S2.vars = S.vars := eV2.trans eV
   have HV2 := Lib.hid hvar2
   have HLEN2 := Lib.hid hlen2
   have HUS := Lib.hid hused
   have HLL := Lib.hid hll
   have HU := Lib.hid hu
   have HRES : Hid (((S1.back ((lv : Int).toNat)).learnt l).bumped = (S2.learnt l).bumped) := by
    show _ = _
    rw [Int.toNat_natCast, hS2]
   rw [HRES.out]
   clear h ok hz hq ok1 lr ok2 hS2 eT eV eL eU eV2 eL2 hx hn hlen2 hvar2 hused hll hu lev0 lev1
   go_enter Try.func48, Try.ntmps48
   go_wp2_with fail
   refine KD.out.mono ?_
   rintro e w1 ⟨rfl, rfl⟩
   clear KD c0
   go_wp2_with fail
   refine KLD.out.mono ?_
   clear KLD hd
   rintro e w1 ⟨A, c, rfl, L1, h1, he1, hi1, hA1, hf1⟩
   have H1 := Lib.hid h1
   have HE1 := Lib.hid he1
   have HI1 := Lib.hid hi1
   have HA1 := Lib.hid hA1
   have HF1 := Lib.hid hf1
   clear h1 he1 hi1 hA1 hf1
   have KB := Lib.hid (back_calls w1 L1 S1 H1.out m HOK1.out lv (by omega))
   rw [HE1.out.1, HS2.out] at KB
   go_wp2_with fail
   refine KB.out.mono ?_
   clear KB
   rintro e w2 ⟨rfl, L2, h2, he2, hf2⟩
   have H2 := Lib.hid h2
   have HE2 := Lib.hid (SvL.ext_trans HE1.out he2 HF1.out.size)
   have HF2 := Lib.hid (SvL.own_then HE1.out HF1.out hf2)
   have HI2 : Hid (Ints w2 A c l) := HI1.out.fr hf2 (fun k hk hm => (HA1.out k hk).2 (SvL.mem_own.1 hm).2)
   have HA2 : Hid (∀ k, k ∈ blks A → w.heap.size ≤ k ∧ (L2.lab k).1 ≠ L2.id) := fun k hk => ⟨(HA1.out k hk).1, fun e => (HA1.out k hk).2 (he2.2.2 k (HI1.out.lt k hk) (e.trans he2.2.1))⟩
   clear h2 he2 hf2 HI1 HA1 H1 HE1 HF1 HOK1
   obtain ⟨ga, hga, hgl⟩ := HI2.out.pos l0
   subst hga
   have s0 := H2.out.cells.1
   rw [HE2.out.1] at s0
   have s1 := HI2.out.cell l0
   obtain ⟨y, hy⟩ : ∃ y, l[0]! = y := ⟨_, rfl⟩
   rw [hy] at s1
   have hyb := HLR.out y (by rw [← hy]; exact get_mem l0)
   obtain ⟨hy0, hy1, hy2⟩ := hyb
   have HY := Lib.hid hy
   have HC0 := Lib.hid s0
   have HC1 := Lib.hid s1
   clear hgl hy s0 s1
   by_cases hl1 : l.length = 1
   ·have hd1 : ((l.length : Int) == (1 : Int)) = true := by simp [hl1]
    have HLE : Hid (S2.learnt l = S2.put y 0) := by
     show _ = _
     unfold Sv.learnt
     rw [if_pos hl1, HY.out]
    have KP := Lib.hid (fun W (hW : Fr [] w2 W) => put_calls W L2 S2 (H2.out.keep hW) m HOK2.out y 0 (by rw [HV2.out]; exact hy1) (by rw [HV2.out]; exact hy2))
    go_wp2_with fail
    go_upto_region 7 with fail
    refine wp_region_noPanic ?_
    refine wp_region_C (fun w' : World => Fr [] w2 w') 7 (by kernel_rfl) ((Fr.refl [] w2).drew) (fun hT0 => ?_)
    refine T0 (i := 0) (oi := ?or7u1) (v := ?vr7u1) (by rfl) (by kernel_rfl) (by rfl) ?yr7u1 hT0 ?_
    case yr7u1 => (intro w; go_simp <;> with_reducible rfl)
    try simp only [Act.put, q5, q6, q7]
    refine T0 (i := 1) (oi := ?or7u2) (v := ?vr7u2) (by rfl) (by kernel_rfl) (by rfl) ?yr7u2 (hT0.more 0) ?_
    case yr7u2 => (intro w; go_simp <;> with_reducible rfl)
    try simp only [Act.put, q5, q6, q7]
    refine T0 (i := 2) (oi := ?or7u3) (v := ?vr7u3) (by rfl) (by kernel_rfl) (by rfl) ?yr7u3 ((hT0.more 0).more 1) ?_
    case yr7u3 => (intro w; go_simp <;> with_reducible rfl)
    try simp only [Act.put, q5, q6, q7]
    refine T1 (i := 3) (oi := ?or7u4) (v := ?vr7u4) [3, 7] (by rfl) (by kernel_rfl) (by rfl) ?yr7u4 ((((hT0.more 0).more 1).more 2).resolve_left (by decide)) ?_
    case yr7u4 => (intro w hSw; (have s0 := hSw.cellS HC0.out; have s1 := hSw.cellS HC1.out); go_simp <;> with_reducible rfl)
    try simp only [Act.put, q5, q6, q7]
    refine T0 (i := 4) (oi := ?or7u5) (v := ?vr7u5) (by rfl) (by kernel_rfl) (by rfl) ?yr7u5 ((((hT0.more 0).more 1).more 2).more 3) ?_
    case yr7u5 => (intro w; go_simp <;> with_reducible rfl)
    try simp only [Act.put, q5, q6, q7]
    refine T0 (i := 5) (oi := ?or7u6) (v := ?vr7u6) (by rfl) (by kernel_rfl) (by rfl) ?yr7u6 (((((hT0.more 0).more 1).more 2).more 3).more 4) ?_
    case yr7u6 => (intro w; go_simp <;> with_reducible rfl)
    try simp only [Act.put, q5, q6, q7]
    refine T1 (i := 6) (oi := ?or7u7) (v := ?vr7u7) [6, 7] (by rfl) (by kernel_rfl) (by rfl) ?yr7u7 (((((((hT0.more 0).more 1).more 2).more 3).more 4).more 5).resolve_left (by decide)) ?_
    case yr7u7 => (intro w hSw; (have s0 := hSw.cellS HC0.out; have s1 := hSw.cellS HC1.out); go_simp <;> with_reducible rfl)
    try simp only [Act.put, q5, q6, q7]
    have hSx := (((((((hT0.more 0).more 1).more 2).more 3).more 4).more 5).more 6).resolve_left (by decide)
    refine wpAnyC_ready (rs := [7]) (by kernel_rfl) (by simp) ?_
    refine ReadyC.cons (o := ?or7u8) ?hor7u8 ?hstepr7u8 ?_
    case hor7u8 => rfl
    case hstepr7u8 =>
     intro K hK
     (go_simp; refine (KP.out _ hSx).mono ?_; rintro e w5 ⟨⟨x5, rfl⟩, L5, h5, he5, hf5⟩; dsimp only)
     refine hK.out _ _ (.inl rfl) (fun hHeld => ?_)
     have hT8 := hHeld
     clear hHeld
     clear hK K
     try simp only [Act.put, q5, q6, q7]
     refine wpAnyC_done (by kernel_rfl) ?_ _
     refine NoPanic.normal ?_
     clear KP
     have HE5 : Hid (L.ext L5 w) := SvL.ext_trans HE2.out he5 (Nat.le_trans HF2.out.size hSx.size)
     have HF5 : Hid (Fr (L.own w) w w5) := SvL.own_then HE2.out (HF2.out.then_ (hSx.mono (fun k hk => by cases hk))) hf5
     have H5 := Lib.hid h5
     clear h5 he5 hf5
     obtain ⟨S6, hS6⟩ : ∃ S6, S2.put y 0 = S6 := ⟨_, rfl⟩
     rw [hS6] at H5
     have HS6 : Hid (S6 = S2.learnt l) := by rw [HLE.out]; exact hS6.symm
     have hb6 : S6.bump = S2.bump := by rw [← hS6]; rfl
     have H6 := H5
     have HF6 := HF5
     clear hS6
     go_wp2_with fail
     obtain ⟨-, -, -, -, -, -, -, -, -, -, b10, -⟩ := H6.out.cells
     rw [HE5.out.1] at b10
     have f10 := H6.out.obj.frozen 10
     rw [HE5.out.1] at f10
     have hbu6 : S6.bump = S.bump := hb6.trans hbump
     rw [hbu6] at b10
     obtain ⟨bb, hbb⟩ : ∃ bb, S.bump = bb := ⟨_, rfl⟩
     rw [hbb] at b10 hbu
     have HBB := Lib.hid (hbu6.trans hbb)
     have hq1 := tdiv_nat bb
     have hw7 : IntKind.i64.wrap ((bb : Int) + ((bb / 16 : Nat) : Int)) = (bb : Int) + ((bb / 16 : Nat) : Int) := IntWalk.i64_in _ (by omega)
     have hw8 : IntKind.i64.wrap ((bb : Int) + ((bb / 16 : Nat) : Int) + 1) = (bb : Int) + ((bb / 16 : Nat) : Int) + 1 := IntWalk.i64_in _ (by omega)
     clear hbu6 hbb hq1
     rcases Nat.lt_or_ge 1073741824 (bb + bb / 16 + 1) with hmc | hmc
     ·have hmi : (1073741824 : Int) < (bb : Int) + ((bb / 16 : Nat) : Int) + 1 := by omega
      have HMV : Hid (min (bb + bb / 16 + 1) 1073741824 = 1073741824) := Nat.min_eq_right (by omega)
      clear hmc
      go_upto_region 10 with fail
      go_region
      obtain ⟨g7, f7⟩ := H6.out.setc 10 (.int .i64 ((1073741824 : Nat) : Int)) { S6 with bump := 1073741824 } (by simp [scs]) ⟨rfl, rfl, rfl, rfl, rfl, rfl, rfl⟩
      rw [HE5.out.1] at g7 f7
      have h8 := g7.keep (Fr.refl [] _).drew
      have hS8 : ({ S6 with bump := 1073741824 } : Sv) = (S2.learnt l).bumped := by
       rw [← HS6.out]
       unfold Sv.bumped
       rw [HBB.out, HMV.out]
      rw [hS8] at h8
      have FF : Hid (SvP (.bool true) (S2.learnt l).bumped L w (.returned (.bool true)) _) := ⟨rfl, L5, h8, HE5.out, (SvL.own_then HE5.out HF6.out f7).drew⟩
      clear h8 f7 g7 hS8 b10 f10 hw7 hw8
      go_wp2_with fail
      go_ret
      exact FF.out
     ·have hmi : (bb : Int) + ((bb / 16 : Nat) : Int) + 1 ≤ (1073741824 : Int) := by omega
      have HMV : Hid (min (bb + bb / 16 + 1) 1073741824 = bb + bb / 16 + 1) := Nat.min_eq_left (by omega)
      have HCST : Hid ((bb : Int) + (bb : Int) / 16 + 1 = ((bb + bb / 16 + 1 : Nat) : Int)) := by show _ = _; omega
      clear hmc
      go_upto_region 10 with fail
      go_region
      rw [HCST.out]
      obtain ⟨g7, f7⟩ := H6.out.setc 10 (.int .i64 (((bb + bb / 16 + 1) : Nat) : Int)) { S6 with bump := (bb + bb / 16 + 1) } (by simp [scs]) ⟨rfl, rfl, rfl, rfl, rfl, rfl, rfl⟩
      rw [HE5.out.1] at g7 f7
      have h8 := g7.keep (Fr.refl [] _).drew
      have hS8 : ({ S6 with bump := (bb + bb / 16 + 1) } : Sv) = (S2.learnt l).bumped := by
       rw [← HS6.out]
       unfold Sv.bumped
       rw [HBB.out, HMV.out]
      rw [hS8] at h8
      have FF : Hid (SvP (.bool true) (S2.learnt l).bumped L w (.returned (.bool true)) _) := ⟨rfl, L5, h8, HE5.out, (SvL.own_then HE5.out HF6.out f7).drew⟩
      clear h8 f7 g7 hS8 b10 f10 hw7 hw8
      go_wp2_with fail
      go_ret
      exact FF.out
    exact ReadyC.nil
   ·have hd1 : ((l.length : Int) == (1 : Int)) = false := by rw [beq_eq_false_iff_ne]; omega
    have HFIT : Hid (S2.Fits l) := ⟨by omega, l1, fun x hx => by rw [HV2.out]; exact HLR.out x hx⟩
    obtain ⟨nl, hnl⟩ : ∃ nl, S2.list.length = nl := ⟨_, rfl⟩
    have HNL := Lib.hid hnl
    have hnl2 : nl < 1099511627776 := by rw [← hnl, HLEN2.out]; exact HLL.out
    have HLE : Hid (S2.learnt l = { ((S2.attach l true).put y ((nl : Int) + 1)) with many := S2.many + 1 }) := by
     show _ = _
     unfold Sv.learnt
     rw [if_neg hl1, HY.out, HNL.out]
    have KAT := Lib.hid (fun W (hW : Fr [] w2 W) => attach_calls W L2 S2 (H2.out.keep hW) m HOK2.out (some ⟨ga, 0, none⟩) c l true (HI2.out.keep' hW) HFIT.out (fun k hk => (HA2.out k hk).2) (by rw [HLEN2.out]; exact HLL.out) (by rw [HUS.out]; exact HU.out))
    rw [HE2.out.1, hnl] at KAT
    have HOK3 := Lib.hid (HOK2.out.attach HFIT.out true (by rw [HLEN2.out]; exact HLL.out))
    have hat := Sv.attach_same S2 l true
    have HAT := Lib.hid hat
    have hwn : IntKind.i64.wrap ((nl : Int) + 1) = (nl : Int) + 1 := IntWalk.i64_in _ (by omega)
    clear hat hnl
    go_wp2_with fail
    go_upto_region 8 with fail
    refine wp_region_noPanic ?_
    refine wp_region_C (fun w' : World => w'.cell? ⟨L.a, 0, none⟩ = some (.pointer (some ⟨L2.tL.a, 0, none⟩)) ∧ w'.cell? ⟨ga, 0, none⟩ = some (.int .i64 y)) 11 (by kernel_rfl) (⟨HC0.out, HC1.out⟩) (fun hT0 => ?_)
    refine T0 (i := 0) (oi := ?or8u1) (v := ?vr8u1) (by rfl) (by kernel_rfl) (by rfl) ?yr8u1 hT0 ?_
    case yr8u1 => (intro w; go_simp <;> with_reducible rfl)
    try simp only [Act.put, q5, q6, q7]
    refine T0 (i := 1) (oi := ?or8u2) (v := ?vr8u2) (by rfl) (by kernel_rfl) (by rfl) ?yr8u2 (hT0.more 0) ?_
    case yr8u2 => (intro w; go_simp <;> with_reducible rfl)
    try simp only [Act.put, q5, q6, q7]
    refine T0 (i := 2) (oi := ?or8u3) (v := ?vr8u3) (by rfl) (by kernel_rfl) (by rfl) ?yr8u3 ((hT0.more 0).more 1) ?_
    case yr8u3 => (intro w; go_simp <;> with_reducible rfl)
    try simp only [Act.put, q5, q6, q7]
    refine T1 (i := 3) (oi := ?or8u4) (v := ?vr8u4) [3, 11] (by rfl) (by kernel_rfl) (by rfl) ?yr8u4 ((((hT0.more 0).more 1).more 2).resolve_left (by decide)) ?_
    case yr8u4 => (intro w hSw; (have s0 := hSw.1; have s1 := hSw.2); go_simp <;> with_reducible rfl)
    try simp only [Act.put, q5, q6, q7]
    refine T0 (i := 4) (oi := ?or8u5) (v := ?vr8u5) (by rfl) (by kernel_rfl) (by rfl) ?yr8u5 ((((hT0.more 0).more 1).more 2).more 3) ?_
    case yr8u5 => (intro w; go_simp <;> with_reducible rfl)
    try simp only [Act.put, q5, q6, q7]
    refine T0 (i := 5) (oi := ?or8u6) (v := ?vr8u6) (by rfl) (by kernel_rfl) (by rfl) ?yr8u6 (((((hT0.more 0).more 1).more 2).more 3).more 4) ?_
    case yr8u6 => (intro w; go_simp <;> with_reducible rfl)
    try simp only [Act.put, q5, q6, q7]
    refine T1 (i := 6) (oi := ?or8u7) (v := ?vr8u7) [6, 11] (by rfl) (by kernel_rfl) (by rfl) ?yr8u7 (((((((hT0.more 0).more 1).more 2).more 3).more 4).more 5).resolve_left (by decide)) ?_
    case yr8u7 => (intro w hSw; (have s0 := hSw.1; have s1 := hSw.2); go_simp <;> with_reducible rfl)
    try simp only [Act.put, q5, q6, q7]
    refine T0 (i := 7) (oi := ?or8u8) (v := ?vr8u8) (by rfl) (by kernel_rfl) (by rfl) ?yr8u8 (((((((hT0.more 0).more 1).more 2).more 3).more 4).more 5).more 6) ?_
    case yr8u8 => (intro w; go_simp <;> with_reducible rfl)
    try simp only [Act.put, q5, q6, q7]
    refine T0 (i := 8) (oi := ?or8u9) (v := ?vr8u9) (by rfl) (by kernel_rfl) (by rfl) ?yr8u9 ((((((((hT0.more 0).more 1).more 2).more 3).more 4).more 5).more 6).more 7) ?_
    case yr8u9 => (intro w; go_simp <;> with_reducible rfl)
    try simp only [Act.put, q5, q6, q7]
    have hSx := (((((((((hT0.more 0).more 1).more 2).more 3).more 4).more 5).more 6).more 7).more 8).resolve_left (by decide)
    refine wpAnyC_ready (rs := [9]) (by kernel_rfl) (by simp) ?_
    refine ReadyC.cons (o := ?or8u10) ?hor8u10 ?hstepr8u10 ?_
    case hor8u10 => rfl
    case hstepr8u10 =>
     intro K hK
     (go_simp; refine (KAT.out _ (Fr.refl [] w2).drew).mono ?_; rintro e w4 ⟨rfl, L4, h4, ha4, hi4, hk4, hf4, hr4, ht4⟩; have s0' := h4.cells.1; rw [ha4, HE2.out.1, ht4] at s0'; have s1' := hr4.cell l0; rw [HY.out] at s1'; have H4 := Lib.hid h4; have HE4 : Hid (L.ext L4 w) := SvL.ext_in HE2.out ha4 hi4 hk4 HF2.out.size (fun k hk => (HA2.out k hk).1); have HF4 : Hid (Fr (L.own w) w w4) := SvL.own_in HE2.out HF2.out.drew hf4 (fun k hk => (HA2.out k hk).1); have HT4 := Lib.hid ht4; have KP := Lib.hid (put_calls w4 L4 (S2.attach l true) h4 m HOK3.out y ((nl : Int) + 1) (by rw [HAT.out.2.1, HV2.out]; exact hy1) (by rw [HAT.out.2.1, HV2.out]; exact hy2)); rw [ht4] at KP; clear h4 ha4 hi4 hk4 hf4 hr4 ht4; dsimp only)
     refine hK.out _ _ (.inr ?_) (fun hHeld => ?_)
     ·first | exact ⟨s0', s1'⟩ | exact hSx
     have hT10 := hHeld
     clear hHeld
     clear hK K
     try simp only [Act.put, q5, q6, q7]
     refine T0 (i := 10) (oi := ?or8u11) (v := ?vr8u11) (by rfl) (by kernel_rfl) (by rfl) ?yr8u11 hT10 ?_
     case yr8u11 => (intro w; go_simp <;> with_reducible rfl)
     try simp only [Act.put, q5, q6, q7]
     have hSx := (hT10.more 10).resolve_left (by decide)
     refine wpAnyC_ready (rs := [11]) (by kernel_rfl) (by simp) ?_
     refine ReadyC.cons (o := ?or8u12) ?hor8u12 ?hstepr8u12 ?_
     case hor8u12 => rfl
     case hstepr8u12 =>
      intro K hK
      (go_simp; refine KP.out.mono ?_; rintro e w5 ⟨⟨x5, rfl⟩, L5, h5, he5, hf5⟩; dsimp only)
      refine hK.out _ _ (.inl rfl) (fun hHeld => ?_)
      have hT12 := hHeld
      clear hHeld
      clear hK K
      try simp only [Act.put, q5, q6, q7]
      refine wpAnyC_done (by kernel_rfl) ?_ _
      refine NoPanic.normal ?_
      clear KP KAT
      have HE5 : Hid (L.ext L5 w) := SvL.ext_trans HE4.out he5 HF4.out.size
      have HF5 : Hid (Fr (L.own w) w w5) := SvL.own_then HE4.out HF4.out hf5
      have H5 := Lib.hid h5
      clear h5 he5 hf5
      obtain ⟨-, -, -, -, -, -, -, -, -, -, -, b11, -⟩ := H5.out.cells
      rw [HE5.out.1] at b11
      have f11 := H5.out.obj.frozen 11
      rw [HE5.out.1] at f11
      have hm5 : ((S2.attach l true).put y ((nl : Int) + 1)).many = S.many := hmany
      rw [hm5] at b11
      obtain ⟨mm, hmm⟩ : ∃ mm, S.many = mm := ⟨_, rfl⟩
      rw [hmm] at b11 hma hmb
      have hw9 : IntKind.i64.wrap (mm + 1) = mm + 1 := IntWalk.i64_in _ (by omega)
      obtain ⟨g6, f6⟩ := H5.out.setc 11 (.int .i64 (mm + 1)) { ((S2.attach l true).put y ((nl : Int) + 1)) with many := mm + 1 } (by simp [scs]) ⟨rfl, rfl, rfl, rfl, rfl, rfl, rfl⟩
      rw [HE5.out.1] at g6 f6
      obtain ⟨S6, hS6⟩ : ∃ S6, ({ ((S2.attach l true).put y ((nl : Int) + 1)) with many := mm + 1 } : Sv) = S6 := ⟨_, rfl⟩
      have HS6 : Hid (S6 = S2.learnt l) := by rw [HLE.out, hmany, hmm]; exact hS6.symm
      have hb6 : S6.bump = S2.bump := by rw [← hS6]; rfl
      rw [hS6] at g6
      clear hS6 hm5
      go_upto_region 9 with fail
      go_wp2_with fail
      obtain ⟨w6, hw6⟩ : ∃ w6, w5.setCell ⟨L.a, 11, none⟩ (.int .i64 (mm + 1)) = w6 := ⟨_, rfl⟩
      rw [hw6] at g6 f6 ⊢
      have H6 := Lib.hid g6
      have HF6 := Lib.hid (SvL.own_then HE5.out HF5.out f6)
      clear hw6 g6 f6 b11 f11 hw9 hmm
      obtain ⟨-, -, -, -, -, -, -, -, -, -, b10, -⟩ := H6.out.cells
      rw [HE5.out.1] at b10
      have f10 := H6.out.obj.frozen 10
      rw [HE5.out.1] at f10
      have hbu6 : S6.bump = S.bump := hb6.trans hbump
      rw [hbu6] at b10
      obtain ⟨bb, hbb⟩ : ∃ bb, S.bump = bb := ⟨_, rfl⟩
      rw [hbb] at b10 hbu
      have HBB := Lib.hid (hbu6.trans hbb)
      have hq1 := tdiv_nat bb
      have hw7 : IntKind.i64.wrap ((bb : Int) + ((bb / 16 : Nat) : Int)) = (bb : Int) + ((bb / 16 : Nat) : Int) := IntWalk.i64_in _ (by omega)
      have hw8 : IntKind.i64.wrap ((bb : Int) + ((bb / 16 : Nat) : Int) + 1) = (bb : Int) + ((bb / 16 : Nat) : Int) + 1 := IntWalk.i64_in _ (by omega)
      clear hbu6 hbb hq1
      rcases Nat.lt_or_ge 1073741824 (bb + bb / 16 + 1) with hmc | hmc
      ·have hmi : (1073741824 : Int) < (bb : Int) + ((bb / 16 : Nat) : Int) + 1 := by omega
       have HMV : Hid (min (bb + bb / 16 + 1) 1073741824 = 1073741824) := Nat.min_eq_right (by omega)
       clear hmc
       go_upto_region 10 with fail
       go_region
       obtain ⟨g7, f7⟩ := H6.out.setc 10 (.int .i64 ((1073741824 : Nat) : Int)) { S6 with bump := 1073741824 } (by simp [scs]) ⟨rfl, rfl, rfl, rfl, rfl, rfl, rfl⟩
       rw [HE5.out.1] at g7 f7
       have h8 := g7.keep (Fr.refl [] _).drew
       have hS8 : ({ S6 with bump := 1073741824 } : Sv) = (S2.learnt l).bumped := by
        rw [← HS6.out]
        unfold Sv.bumped
        rw [HBB.out, HMV.out]
       rw [hS8] at h8
       have FF : Hid (SvP (.bool true) (S2.learnt l).bumped L w (.returned (.bool true)) _) := ⟨rfl, L5, h8, HE5.out, (SvL.own_then HE5.out HF6.out f7).drew⟩
       clear h8 f7 g7 hS8 b10 f10 hw7 hw8
       go_wp2_with fail
       go_ret
       exact FF.out
      ·have hmi : (bb : Int) + ((bb / 16 : Nat) : Int) + 1 ≤ (1073741824 : Int) := by omega
       have HMV : Hid (min (bb + bb / 16 + 1) 1073741824 = bb + bb / 16 + 1) := Nat.min_eq_left (by omega)
       have HCST : Hid ((bb : Int) + (bb : Int) / 16 + 1 = ((bb + bb / 16 + 1 : Nat) : Int)) := by show _ = _; omega
       clear hmc
       go_upto_region 10 with fail
       go_region
       rw [HCST.out]
       obtain ⟨g7, f7⟩ := H6.out.setc 10 (.int .i64 (((bb + bb / 16 + 1) : Nat) : Int)) { S6 with bump := (bb + bb / 16 + 1) } (by simp [scs]) ⟨rfl, rfl, rfl, rfl, rfl, rfl, rfl⟩
       rw [HE5.out.1] at g7 f7
       have h8 := g7.keep (Fr.refl [] _).drew
       have hS8 : ({ S6 with bump := (bb + bb / 16 + 1) } : Sv) = (S2.learnt l).bumped := by
        rw [← HS6.out]
        unfold Sv.bumped
        rw [HBB.out, HMV.out]
       rw [hS8] at h8
       have FF : Hid (SvP (.bool true) (S2.learnt l).bumped L w (.returned (.bool true)) _) := ⟨rfl, L5, h8, HE5.out, (SvL.own_then HE5.out HF6.out f7).drew⟩
       clear h8 f7 g7 hS8 b10 f10 hw7 hw8
       go_wp2_with fail
       go_ret
       exact FF.out
     exact ReadyC.nil
    exact ReadyC.nil
namespace Sv
def RedR (S S' : Sv) : Prop := ∃ D : List Nat, D.Nodup ∧ (∀ n ∈ D, n ∈ S.worn) ∧ D.length = S.worn.length / 2 ∧ S' = D.foldl drop1 S
structure Small (S : Sv) : Prop where
 list : S.list.length < 1099511627776
 used : S.used < 1099511627776
 bump : S.bump ≤ 1073741824
 many0 : -1152921504606846976 ≤ S.many
 many1 : S.many ≤ 1152921504606846976
 lim : S.limit ≤ 1099511627776
 lev : S.T.levels.length ≤ 4398046511104
 core : S.core = []
def limUp (S : Sv) : Sv := { S with limit := S.limit + (S.limit / 16 + 1) }
def thinW (red : Bool) (S : Sv) (K : Sv → Prop) : Prop :=
 if (S.limit : Int) < S.many then (if red = true then ∀ S', RedR S S' → K S'.limUp else False) else K S
def afterC (budget : Int) (n : Nat) (Q : Sv → Int → Prop) (K : Sv → Prop) : Option (Sv × Bool) → Prop
 | none => False
 | some (S2, false) => Q S2 2
 | some (S2, true) => if budget < (n + 1 : Nat) then Q S2 0 else K S2
def used1 (S : Sv) : Sv := { S with used := S.used + 1 }
def roundW (red : Bool) (budget : Int) (us : List Int) (Q : Sv → Int → Prop) (K : Nat → Nat → Sv → Prop) : Nat → Nat → Nat → Sv → Prop
 | 0, _, _, _ => False
 | d + 1, next, n, S =>
  S.Small ∧ n < 1099511627776 ∧ next < 2199023255552 ∧
  match S.follow.2 with
  | some c => afterC budget n Q (K next (n + 1)) (S.follow.1.used1.conflict c)
  | none => thinW red (S.follow.1.rested n next) fun S3 =>
    if (S3.decide_ us).2 = 0 then roundW red budget us Q K d (if next ≤ n then n + 64 else next) n (S3.decide_ us).1 else Q (S3.decide_ us).1 (S3.decide_ us).2
def searchW (red : Bool) (budget : Int) (us : List Int) (Q : Sv → Int → Prop) (D : Nat) : Nat → Nat → Nat → Sv → Prop
 | 0, _, _, _ => False
 | c + 1, next, n, S => roundW red budget us Q (searchW red budget us Q D c) D next n S
theorem worn_lt {S : Sv} {n : Nat} (h : n ∈ S.worn) : n < S.list.length ∧ (S.rc n).lrn = true ∧ 2 < (S.rc n).lits.length ∧ S.locked n = false := by
 unfold worn at h
 rw [List.mem_filter, List.mem_range] at h
 obtain ⟨h1, h2⟩ := h
 simp only [Bool.and_eq_true, decide_eq_true_eq, Bool.not_eq_true'] at h2
 exact ⟨h1, h2.1.1, h2.1.2, h2.2⟩
theorem rc_drop1 (S : Sv) (n j : Nat) : (S.drop1 n).rc j = if n = j ∧ n < S.list.length then ⟨[], false, (S.rc n).act⟩ else S.rc j := getB_set _ _ _ _
theorem Ok.drop1 {S : Sv} {m : Nat} (ok : S.Ok m) (n : Nat) : (S.drop1 n).Ok m := by
 have el : (S.drop1 n).list.length = S.list.length := by simp [Sv.drop1]
 refine ⟨ok.vl, ok.tr, ok.hi, ok.hl, ok.ph, ok.wl, by rw [el]; exact ok.ll, fun c k hk => by rw [el]; exact ok.wb c k hk, by rw [el]; exact ok.wt, fun j x hx => ?_, fun j => ?_, fun j => ?_, ok.hd, fun v => by rw [el]; exact ok.rs v⟩
 ·rw [rc_drop1] at hx
  split at hx
  ·simp at hx
  ·exact ok.lr j x hx
 ·rw [rc_drop1]
  split
  ·simp
  ·exact ok.ln j
 ·rw [rc_drop1]
  split
  ·simp
  ·exact ok.lb j
theorem Ok.drops {m : Nat} : ∀ (D : List Nat) (S : Sv), S.Ok m → (D.foldl Sv.drop1 S).Ok m
 | [], S, ok => ok
 | n :: r, S, ok => Ok.drops r _ (ok.drop1 n)
theorem drops_same : ∀ (D : List Nat) (S : Sv), (D.foldl drop1 S).T = S.T ∧ (D.foldl drop1 S).vars = S.vars ∧ (D.foldl drop1 S).list.length = S.list.length ∧ (D.foldl drop1 S).core = S.core ∧ (D.foldl drop1 S).limit = S.limit ∧ (D.foldl drop1 S).many = S.many - D.length
 | [], S => ⟨rfl, rfl, rfl, rfl, rfl, by simp⟩
 | n :: r, S => by
  have h := drops_same r (S.drop1 n)
  refine ⟨h.1, h.2.1, h.2.2.1.trans (by simp [drop1]), h.2.2.2.1, h.2.2.2.2.1, h.2.2.2.2.2.trans ?_⟩
  simp only [List.length_cons, drop1]
  omega
theorem Ok.limUp {S : Sv} {m : Nat} (ok : S.Ok m) : S.limUp.Ok m := ⟨ok.vl, ok.tr, ok.hi, ok.hl, ok.ph, ok.wl, ok.ll, ok.wb, ok.wt, ok.lr, ok.ln, ok.lb, ok.hd, ok.rs⟩
theorem Ok.used1 {S : Sv} {m : Nat} (ok : S.Ok m) : S.used1.Ok m := ⟨ok.vl, ok.tr, ok.hi, ok.hl, ok.ph, ok.wl, ok.ll, ok.wb, ok.wt, ok.lr, ok.ln, ok.lb, ok.hd, ok.rs⟩
theorem Ok.rested {S : Sv} {m : Nat} (ok : S.Ok m) (n next : Nat) : (S.rested n next).Ok m := by
 unfold Sv.rested
 split
 ·exact (ok.back 0).1
 ·exact ok
theorem rested_same {S : Sv} {m : Nat} (ok : S.Ok m) (n next : Nat) : (S.rested n next).vars = S.vars ∧ (S.rested n next).list = S.list ∧ (S.rested n next).core = S.core ∧ (S.rested n next).many = S.many ∧ (S.rested n next).limit = S.limit ∧ (S.rested n next).T.levels.length ≤ S.T.levels.length := by
 unfold Sv.rested
 split
 ·have h := back_more S 0
  have h2 := ok.back 0
  exact ⟨h2.2.1, h2.2.2, h.1, h.2.2.1, h.2.2.2.1, h.2.2.2.2.2.1⟩
 ·exact ⟨rfl, rfl, rfl, rfl, rfl, Nat.le_refl _⟩
theorem Ok.conflict {S : Sv} (ok : S.Ok 0) (hl : S.list.length < 1099511627776) {n : Nat} {S' : Sv} {b : Bool} (h : S.conflict n = some (S', b)) : S'.Ok 0 ∧ S'.vars = S.vars := by
 unfold Sv.conflict at h
 split at h
 ·simp only [Option.some.injEq, Prod.mk.injEq] at h
  obtain ⟨rfl, rfl⟩ := h
  exact ⟨ok.setbad true, rfl⟩
 ·cases hq : S.learned n with
  | none => rw [hq] at h; cases h
  | some q =>
   obtain ⟨S1, l, lev⟩ := q
   rw [hq] at h
   simp only [Option.some.injEq, Prod.mk.injEq] at h
   obtain ⟨rfl, rfl⟩ := h
   obtain ⟨ok1, eT, eV, eL, eU, l0, l1, lr, lev0, lev1⟩ := learned_fit ok hq
   obtain ⟨ok2, eV2, eL2⟩ := ok1.back lev.toNat
   have e2 : (S1.back lev.toNat).vars = S.vars := eV2.trans eV
   have hll : (S1.back lev.toNat).list.length < 1099511627776 := by rw [eL2, eL]; exact hl
   refine ⟨(ok2.learnt l0 l1 (by rw [e2]; exact lr) hll).bumped, ?_⟩
   show ((S1.back lev.toNat).learnt l).vars = _
   rw [← e2]
   unfold Sv.learnt
   split
   ·rfl
   ·exact (attach_same _ l true).2.1
end Sv
def RedC : Prop := ∀ (w : World) (L : SvL) (S : Sv), SvAt w L S → S.Ok 0 → -1152921504606846976 ≤ S.many → S.many ≤ 1152921504606846976 →
 Calls Try.prog 49 #[.pointer (some ⟨L.a, 0, none⟩)] w fun e w' => ∃ S', Sv.RedR S S' ∧ SvP (.tuple #[]) S' L w e w'
def SrP (Q : Sv → Int → Prop) (L : SvL) (w : World) (e : Ending) (w' : World) : Prop := ∃ (S' : Sv) (r : Int), Q S' r ∧ S'.Ok 0 ∧ SvP (.int .i64 r) S' L w e w'
theorem search_calls (red : Bool) (KRED : red = true → RedC) (w : World) (L : SvL) (S : Sv) (h : SvAt w L S) (ok : S.Ok 0) (A : Option Addr) (c : Nat) (us : List Int) (hrd : Rdx w L A us) (hus : ∀ x ∈ us, -(S.vars : Int) ≤ x ∧ x ≤ S.vars) (hul : us.length ≤ 1099511627776) (budget : Int) (Q : Sv → Int → Prop) (D C : Nat) (hW : Sv.searchW red budget us Q D C 64 0 S) :
  Calls Try.prog 33 #[.pointer (some ⟨L.a, 0, none⟩), .int .i64 budget, .slice A us.length c] w (SrP Q L w) := by
 have HH := Lib.hid h
 have HOK := Lib.hid ok
 have HRD := Lib.hid hrd
 have HUS := Lib.hid hus
 have HKR := Lib.hid KRED
 obtain ⟨C0, rfl⟩ : ∃ C0, C = C0 + 1 := ⟨C - 1, by
  rcases C with _ | C
  ·exact absurd hW (by simp [Sv.searchW])
  ·omega⟩
 have HW0 : Hid (Sv.roundW red budget us Q (Sv.searchW red budget us Q D C0) D 64 0 S) := hW
 clear hW h ok hrd hus KRED
 go_enter Try.func33, Try.ntmps33
 go_wp2_with fail
 go_loopg [7, 8] (C0 * (D + 1) + D) (fun g x7 x8 wr => ∃ (c0 d next n : Nat) (S1 : Sv) (L1 : SvL), g = c0 * (D + 1) + d ∧ x7 = .int .i64 next ∧ x8 = .int .i64 n ∧ Hid (Sv.roundW red budget us Q (Sv.searchW red budget us Q D c0) d next n S1) ∧ Hid (S1.vars = S.vars) ∧ Hid (S1.Ok 0) ∧ Hid (SvAt wr L1 S1) ∧ Hid (L.ext L1 w) ∧ Hid (Fr (L.own w) w wr))
 case atStart => exact ⟨C0, D, 64, 0, S, L, rfl, rfl, rfl, HW0.out, rfl, HOK.out, HH.out, SvL.ext_refl _ _, Fr.refl _ _⟩
 case round =>
  obtain ⟨c0, d, next, n, S1, L1, hg, rfl, rfl, HW, HV1, HO1, H1, HE1, HF1⟩ := hrel
  obtain ⟨d, rfl⟩ : ∃ d', d = d' + 1 := ⟨d - 1, by
   rcases d with _ | d
   ·exact absurd HW.out (by simp [Sv.roundW])
   ·omega⟩
  have HG := Lib.hid hg
  have hw := HW.out
  rw [Sv.roundW] at hw
  obtain ⟨hsm, hn, hnext, hw⟩ := hw
  have KF := Lib.hid (follow_calls wr L1 S1 H1.out HO1.out)
  rw [HE1.out.1] at KF
  have hfo := HO1.out.follow
  obtain ⟨SF, hSF⟩ : ∃ SF, S1.follow.1 = SF := ⟨_, rfl⟩
  obtain ⟨oc, hoc⟩ : ∃ oc, S1.follow.2 = oc := ⟨_, rfl⟩
  rw [hSF, hoc] at hw hfo KF
  obtain ⟨hfo1, hfo2, hfo3⟩ := hfo
  have HSM := Lib.hid hsm
  have hvar : SF.vars = S.vars := (congrArg (fun x => x.2.1) hfo2).trans HV1.out
  have hcore : SF.core = [] := (congrArg (fun x => x.2.2.2.2.1) hfo2).trans hsm.core
  have hused : SF.used = S1.used := congrArg (fun x => x.2.2.2.2.2.1) hfo2
  have hbump : SF.bump = S1.bump := congrArg (fun x => x.2.2.2.2.2.2.1) hfo2
  have hmany : SF.many = S1.many := congrArg (fun x => x.2.2.2.2.2.2.2.1) hfo2
  have hlim : SF.limit = S1.limit := congrArg (fun x => x.2.2.2.2.2.2.2.2.1) hfo2
  have hlev : SF.T.levels = S1.T.levels := congrArg (fun x => x.2.2.2.2.2.2.2.2.2.2.2.1) hfo2
  have hlis : SF.list.length = S1.list.length := congrArg (fun x => x.2.2.2.2.2.2.2.2.2.2.2.2) hfo2
  have HOF := Lib.hid hfo1
  have HVF := Lib.hid hvar
  have HCF := Lib.hid hcore
  have HLIS := Lib.hid hlis
  have HLF : Hid (SF.T.levels.length ≤ 4398046511104) := by show _ ≤ _; rw [hlev]; exact hsm.lev
  have HIF : Hid (SF.list.length < 1099511627776) := by show _ < _; rw [hlis]; exact hsm.list
  have hsm1 := hsm.used
  have hsm2 := hsm.bump
  have hsm3 := hsm.many0
  have hsm4 := hsm.many1
  have hsm5 := hsm.lim
  rw [← hused] at hsm1
  rw [← hbump] at hsm2
  rw [← hmany] at hsm3 hsm4
  rw [← hlim] at hsm5
  clear hg HW hSF hoc hfo1 hfo2 hvar hcore hused hbump hmany hlim hlev hlis hsm
  go_wp2_with fail
  refine KF.out.mono ?_
  clear KF
  rintro e w2 ⟨rfl, L2, h2, he2, hf2⟩
  have H2 := Lib.hid h2
  have HE2 := Lib.hid (SvL.ext_trans HE1.out he2 HF1.out.size)
  have HF2 := Lib.hid (SvL.own_then HE1.out HF1.out hf2)
  clear h2 he2 hf2 H1 HE1 HF1
  cases oc with
  | some cf =>
   have hcf := hfo3 cf rfl
   have hcn : cf < SF.list.length := by
    rw [HLIS.out]
    exact hcf
   have HFI : Hid (foundI (some cf) = (cf : Int)) := rfl
   rw [HFI.out]
   have hnn : (0 : Int) ≤ (cf : Int) := by omega
   have hwn : IntKind.i64.wrap ((n : Int) + 1) = (n : Int) + 1 := IntWalk.i64_in _ (by omega)
   have hwu : IntKind.i64.wrap ((SF.used : Int) + 1) = (SF.used : Int) + 1 := IntWalk.i64_in _ (by omega)
   obtain ⟨-, -, -, -, -, -, -, -, -, c9, -⟩ := H2.out.cells
   rw [HE2.out.1] at c9
   have f9 := H2.out.obj.frozen 9
   rw [HE2.out.1] at f9
   obtain ⟨g3, f3⟩ := H2.out.setc 9 (.int .i64 ((SF.used : Int) + 1)) SF.used1 (by simp [scs, Sv.used1]) ⟨rfl, rfl, rfl, rfl, rfl, rfl, rfl⟩
   rw [HE2.out.1] at g3 f3
   have HQ := Lib.hid hw
   clear hw hfo3
   go_upto_region 7 with fail
   obtain ⟨w3, hw3⟩ : ∃ w3, w2.setCell ⟨L.a, 9, none⟩ (.int .i64 ((SF.used : Int) + 1)) = w3 := ⟨_, rfl⟩
   rw [hw3] at g3 f3 ⊢
   have H3 := Lib.hid g3
   have HF3 := Lib.hid (SvL.own_then HE2.out HF2.out f3)
   clear hw3 g3 f3 c9 f9 hwu
   have hq := HQ.out
   cases hcon : SF.used1.conflict cf with
   | none => rw [hcon] at hq; exact absurd hq (by simp [Sv.afterC])
   | some q =>
    obtain ⟨S4, b⟩ := q
    rw [hcon] at hq
    have KC := Lib.hid (conflict_calls w3 L2 SF.used1 H3.out 0 HOF.out.used1 cf hcn HIF.out (by show SF.used + 1 ≤ _; omega) hsm2 (by show SF.many < _; omega) (by show _ < SF.many; omega) (by have := HLF.out; show SF.T.levels.length ≤ _; omega) S4 b hcon)
    rw [HE2.out.1] at KC
    have ok4 := HOF.out.used1.conflict HIF.out hcon
    have HO4 := Lib.hid ok4.1
    have HV4 : Hid (S4.vars = S.vars) := ok4.2.trans HVF.out
    clear hcon ok4
    go_wp2_with fail
    refine KC.out.mono ?_
    clear KC
    rintro e w4 ⟨rfl, L4, h4, he4, hf4⟩
    have H4 := Lib.hid h4
    have HE4 := Lib.hid (SvL.ext_trans HE2.out he4 HF3.out.size)
    have HF4 := Lib.hid (SvL.own_then HE2.out HF3.out hf4)
    clear h4 he4 hf4
    cases b with
    | false =>
     have FF : Hid (SrP Q L w (.returned (.int .i64 2)) w4) := ⟨S4, 2, hq, HO4.out, rfl, L4, H4.out, HE4.out, HF4.out⟩
     clear hq
     go_wp2_with fail
     go_ret
     exact FF.out
    | true =>
     replace hq : if budget < ((n + 1 : Nat) : Int) then Q S4 0 else Sv.searchW red budget us Q D c0 next (n + 1) S4 := hq
     by_cases hbg : budget < ((n + 1 : Nat) : Int)
     ·rw [if_pos hbg] at hq
      have hbg' : budget < (n : Int) + 1 := by omega
      have FF : Hid (SrP Q L w (.returned (.int .i64 0)) w4) := ⟨S4, 0, hq, HO4.out, rfl, L4, H4.out, HE4.out, HF4.out⟩
      clear hq hbg
      go_wp2_with fail
      go_ret
      exact FF.out
     ·rw [if_neg hbg] at hq
      have hbg' : (n : Int) + 1 ≤ budget := by omega
      have HQ2 := Lib.hid hq
      obtain ⟨c1, rfl⟩ : ∃ c1, c0 = c1 + 1 := ⟨c0 - 1, by
       rcases c0 with _ | c0
       ·exact absurd hq (by simp [Sv.searchW])
       ·omega⟩
      have HQ3 : Hid (Sv.roundW red budget us Q (Sv.searchW red budget us Q D c1) D next (n + 1) S4) := HQ2.out
      clear hq hbg
      go_wp2_with fail
      go_roundg (c1 * (D + 1) + D)
      case measure => have := HG.out; rw [Nat.succ_mul] at this; omega
      case rel => exact ⟨c1, D, next, n + 1, S4, L4, rfl, rfl, by go_num, HQ3.out, HV4.out, HO4.out, H4.out, HE4.out, HF4.out⟩
  | none =>
   have HFI : Hid (foundI none = -1) := rfl
   rw [HFI.out]
   have HQ := Lib.hid hw
   clear hw hfo3
   by_cases hnx : next ≤ n
   ·have hre : SF.rested n next = SF.back 0 := by unfold Sv.rested; rw [if_pos hnx]
    have HN1 : Hid ((if next ≤ n then n + 64 else next) = n + 64) := if_pos hnx
    have KB := Lib.hid (back_calls w2 L2 SF H2.out 0 HOF.out 0 (by omega))
    rw [HE2.out.1, ← hre] at KB
    have hwn : IntKind.i64.wrap ((n : Int) + 64) = (n : Int) + 64 := IntWalk.i64_in _ (by omega)
    have HRS := Lib.hid (Sv.rested_same HOF.out n next)
    have HOR := Lib.hid (HOF.out.rested n next)
    clear hre
    go_wp2_with fail
    refine KB.out.mono ?_
    clear KB
    rintro e w3 ⟨rfl, L3, h3, he3, hf3⟩
    have H3 := Lib.hid h3
    have HE3 := Lib.hid (SvL.ext_trans HE2.out he3 HF2.out.size)
    have HF3 := Lib.hid (SvL.own_then HE2.out HF2.out hf3)
    clear h3 he3 hf3 hnx
    obtain ⟨SR, hSR⟩ : ∃ SR, SF.rested n next = SR := ⟨_, rfl⟩
    rw [hSR] at HRS HOR H3
    have hq := HQ.out
    rw [hSR] at hq
    simp only [HN1.out] at hq
    unfold Sv.thinW at hq
    obtain ⟨-, -, -, -, -, -, -, -, -, -, -, c11, c12, -⟩ := H3.out.cells
    rw [HE3.out.1] at c11 c12
    obtain ⟨hrv, hrl, hrc, hrm, hrli, hrlev⟩ := HRS.out
    have hsm3' : -1152921504606846976 ≤ SR.many ∧ SR.many ≤ 1152921504606846976 := by rw [hrm]; exact ⟨hsm3, hsm4⟩
    have hsm5' : SR.limit ≤ 1099511627776 := by rw [hrli]; exact hsm5
    have HVR : Hid (SR.vars = S.vars) := hrv.trans HVF.out
    have HCR : Hid (SR.core = []) := hrc.trans HCF.out
    have HLR : Hid (SR.T.levels.length ≤ 4398046511104) := Nat.le_trans hrlev HLF.out
    clear hSR hrv hrl hrc hrm hrli hrlev HRS HQ
    by_cases hth : (SR.limit : Int) < SR.many
    ·rw [if_pos hth] at hq
     have hred : red = true := by
      cases red with
      | true => rfl
      | false => simp at hq
     rw [if_pos hred] at hq
     have hth' : decide ((SR.limit : Int) < SR.many) = true := decide_eq_true hth
     have HQ := Lib.hid hq
     have hsmm := hsm3'
     clear hq hth hsm3'
     go_wp2_with fail
     go_region
     obtain ⟨w4, hw4⟩ : ∃ w4, World.drew w3 = w4 := ⟨_, rfl⟩
     have HFD0 : Hid (Fr [] w3 w4) := by rw [← hw4]; exact (Fr.refl [] _).drew
     rw [hw4]
     have KR2 := Lib.hid (HKR.out hred w4 L3 SR (H3.out.keep HFD0.out) HOR.out hsmm.1 hsmm.2)
     rw [HE3.out.1] at KR2
     have HFD : Hid (Fr (L.own w) w w4) := HF3.out.then_ (HFD0.out.mono (fun k hk => by cases hk))
     clear hw4 c11 c12 hth'
     go_wp2_with fail
     refine KR2.out.mono ?_
     clear KR2
     rintro e w5 ⟨S5, hred5, rfl, L5, h5, he5, hf5⟩
     have H5 := Lib.hid h5
     have HE5 := Lib.hid (SvL.ext_trans HE3.out he5 HFD.out.size)
     have HF5 := Lib.hid (SvL.own_then HE3.out HFD.out hf5)
     have HR5 := Lib.hid hred5
     obtain ⟨DD, hD1, hD2, hD3, rfl⟩ := hred5
     have hds := Sv.drops_same DD SR
     have HO5 := Lib.hid (Sv.Ok.drops DD SR HOR.out)
     obtain ⟨S5, hS5⟩ : ∃ S5, DD.foldl Sv.drop1 SR = S5 := ⟨_, rfl⟩
     rw [hS5] at hds HO5 H5 HR5
     have HV5 : Hid (S5.vars = S.vars) := hds.2.1.trans HVR.out
     have HC5 : Hid (S5.core = []) := hds.2.2.2.1.trans HCR.out
     have HL5 : Hid (S5.T.levels.length ≤ 4398046511104) := by show _ ≤ _; rw [hds.1]; exact HLR.out
     have hli : S5.limit ≤ 1099511627776 := by rw [hds.2.2.2.2.1]; exact hsm5'
     clear h5 he5 hf5 hD1 hD2 hD3 hds hS5
     obtain ⟨-, -, -, -, -, -, -, -, -, -, -, -, c12, -⟩ := H5.out.cells
     rw [HE5.out.1] at c12
     have f12 := H5.out.obj.frozen 12
     rw [HE5.out.1] at f12
     obtain ⟨lm, hlm⟩ : ∃ lm, S5.limit = lm := ⟨_, rfl⟩
     rw [hlm] at c12 hli
     have HLM := Lib.hid hlm
     have hw7 : IntKind.i64.wrap (((lm / 16 : Nat) : Int) + 1) = ((lm / 16 : Nat) : Int) + 1 := IntWalk.i64_in _ (by omega)
     have hw8 : IntKind.i64.wrap ((lm : Int) + (((lm / 16 : Nat) : Int) + 1)) = (lm : Int) + (((lm / 16 : Nat) : Int) + 1) := IntWalk.i64_in _ (by omega)
     have HCST : Hid ((lm : Int) + ((lm : Int) / 16 + 1) = ((lm + (lm / 16 + 1) : Nat) : Int)) := by show _ = _; omega
     obtain ⟨g6, f6⟩ := H5.out.setc 12 (.int .i64 ((lm + (lm / 16 + 1) : Nat) : Int)) S5.limUp (by simp [scs, Sv.limUp, hlm]) ⟨rfl, rfl, rfl, rfl, rfl, rfl, rfl⟩
     rw [HE5.out.1] at g6 f6
     have h6 := g6.keep (Fr.refl [] _).drew
     have H6a := Lib.hid h6
     have HF6a := Lib.hid ((SvL.own_then HE5.out HF5.out f6).drew)
     clear hlm g6 f6 h6
     go_upto_region 16 with fail
     go_region
     rw [HCST.out]
     obtain ⟨w6, hw6⟩ : ∃ w6, (w5.setCell ⟨L.a, 12, none⟩ (.int .i64 ((lm + (lm / 16 + 1) : Nat) : Int))).drew = w6 := ⟨_, rfl⟩
     rw [hw6] at H6a HF6a ⊢
     have H6 := H6a
     have HF6 := HF6a
     have HE6 := HE5
     have HO6 := Lib.hid HO5.out.limUp
     have HV6 : Hid (S5.limUp.vars = S.vars) := HV5.out
     have HC6 : Hid (S5.limUp.core = []) := HC5.out
     have HL6 : Hid (S5.limUp.T.levels.length ≤ 4398046511104) := HL5.out
     have HQ := Lib.hid (HQ.out S5 HR5.out)
     obtain ⟨S6, hS6⟩ : ∃ S6, S5.limUp = S6 := ⟨_, rfl⟩
     rw [hS6] at HQ H6 HO6 HV6 HC6 HL6
     clear hS6 hw6 c12 f12 hw7 hw8
     have KD := Lib.hid (decide_calls w6 L5 S6 H6.out 0 HO6.out A c us (HRD.out.step HE6.out HF6.out) (fun x hx => by have := HUS.out x hx; rw [HV6.out]; exact this) hul HC6.out HL6.out)
     rw [HE6.out.1] at KD
     have hod := HO6.out.decide_ us
     have HO7 := Lib.hid hod.1
     have HV7 : Hid ((S6.decide_ us).1.vars = S.vars) := hod.2.1.trans HV6.out
     have hq := HQ.out
     obtain ⟨DS, hDS⟩ : ∃ DS, S6.decide_ us = DS := ⟨_, rfl⟩
     rw [hDS] at KD HO7 HV7 hq
     obtain ⟨S7, r⟩ := DS
     simp only at KD HO7 HV7 hq
     clear hod hDS HQ
     go_wp2_with fail
     refine KD.out.mono ?_
     clear KD
     rintro e w7 ⟨rfl, L7, h7, he7, hf7⟩
     have H7 := Lib.hid h7
     have HE7 := Lib.hid (SvL.ext_trans HE6.out he7 HF6.out.size)
     have HF7 := Lib.hid (SvL.own_then HE6.out HF6.out hf7)
     clear h7 he7 hf7
     by_cases hr0 : r = 0
     ·rw [if_pos hr0] at hq
      have hdr : (r == (0 : Int)) = true := by simp [hr0]
      have HQ := Lib.hid hq
      clear hq
      go_wp2_with fail
      go_roundg (c0 * (D + 1) + d)
      case measure => have := HG.out; omega
      case rel => exact ⟨c0, d, n + 64, n, S7, L7, rfl, by go_num, rfl, HQ.out, HV7.out, HO7.out, H7.out, HE7.out, HF7.out⟩
     ·rw [if_neg hr0] at hq
      have hdr : (r == (0 : Int)) = false := by simp [hr0]
      have FF : Hid (SrP Q L w (.returned (.int .i64 r)) w7) := ⟨S7, r, hq, HO7.out, rfl, L7, H7.out, HE7.out, HF7.out⟩
      clear hq
      go_wp2_with fail
      go_ret
      exact FF.out
    ·rw [if_neg hth] at hq
     have hth' : decide ((SR.limit : Int) < SR.many) = false := decide_eq_false hth
     have HQ := Lib.hid hq
     clear hq hth
     go_wp2_with fail
     go_region
     obtain ⟨w6, hw6⟩ : ∃ w6, World.drew w3 = w6 := ⟨_, rfl⟩
     have HFD : Hid (Fr [] w3 w6) := by rw [← hw6]; exact (Fr.refl [] _).drew
     rw [hw6]
     have H6 := Lib.hid (H3.out.keep HFD.out)
     have HE6 := HE3
     have HF6 : Hid (Fr (L.own w) w w6) := HF3.out.then_ (HFD.out.mono (fun k hk => by cases hk))
     have HO6 := HOR
     have HV6 := HVR
     have HC6 := HCR
     have HL6 := HLR
     obtain ⟨S6, hS6⟩ : ∃ S6, SR = S6 := ⟨_, rfl⟩
     rw [hS6] at HQ H6 HO6 HV6 HC6 HL6
     clear hS6 hw6 c11 c12 hth'
     have KD := Lib.hid (decide_calls w6 L3 S6 H6.out 0 HO6.out A c us (HRD.out.step HE6.out HF6.out) (fun x hx => by have := HUS.out x hx; rw [HV6.out]; exact this) hul HC6.out HL6.out)
     rw [HE6.out.1] at KD
     have hod := HO6.out.decide_ us
     have HO7 := Lib.hid hod.1
     have HV7 : Hid ((S6.decide_ us).1.vars = S.vars) := hod.2.1.trans HV6.out
     have hq := HQ.out
     obtain ⟨DS, hDS⟩ : ∃ DS, S6.decide_ us = DS := ⟨_, rfl⟩
     rw [hDS] at KD HO7 HV7 hq
     obtain ⟨S7, r⟩ := DS
     simp only at KD HO7 HV7 hq
     clear hod hDS HQ
     go_wp2_with fail
     refine KD.out.mono ?_
     clear KD
     rintro e w7 ⟨rfl, L7, h7, he7, hf7⟩
     have H7 := Lib.hid h7
     have HE7 := Lib.hid (SvL.ext_trans HE6.out he7 HF6.out.size)
     have HF7 := Lib.hid (SvL.own_then HE6.out HF6.out hf7)
     clear h7 he7 hf7
     by_cases hr0 : r = 0
     ·rw [if_pos hr0] at hq
      have hdr : (r == (0 : Int)) = true := by simp [hr0]
      have HQ := Lib.hid hq
      clear hq
      go_wp2_with fail
      go_roundg (c0 * (D + 1) + d)
      case measure => have := HG.out; omega
      case rel => exact ⟨c0, d, n + 64, n, S7, L7, rfl, by go_num, rfl, HQ.out, HV7.out, HO7.out, H7.out, HE7.out, HF7.out⟩
     ·rw [if_neg hr0] at hq
      have hdr : (r == (0 : Int)) = false := by simp [hr0]
      have FF : Hid (SrP Q L w (.returned (.int .i64 r)) w7) := ⟨S7, r, hq, HO7.out, rfl, L7, H7.out, HE7.out, HF7.out⟩
      clear hq
      go_wp2_with fail
      go_ret
      exact FF.out
   ·have hre : SF.rested n next = SF := by unfold Sv.rested; rw [if_neg hnx]
    have HN1 : Hid ((if next ≤ n then n + 64 else next) = next) := if_neg hnx
    have HRS := Lib.hid (Sv.rested_same HOF.out n next)
    have HOR := Lib.hid (HOF.out.rested n next)
    have H3 : Hid (SvAt w2 L2 (SF.rested n next)) := by rw [hre]; exact H2.out
    clear hre
    obtain ⟨SR, hSR⟩ : ∃ SR, SF.rested n next = SR := ⟨_, rfl⟩
    rw [hSR] at HRS HOR H3
    have hq := HQ.out
    rw [hSR] at hq
    simp only [HN1.out] at hq
    unfold Sv.thinW at hq
    obtain ⟨-, -, -, -, -, -, -, -, -, -, -, c11, c12, -⟩ := H3.out.cells
    rw [HE2.out.1] at c11 c12
    obtain ⟨hrv, hrl, hrc, hrm, hrli, hrlev⟩ := HRS.out
    have hsm3' : -1152921504606846976 ≤ SR.many ∧ SR.many ≤ 1152921504606846976 := by rw [hrm]; exact ⟨hsm3, hsm4⟩
    have hsm5' : SR.limit ≤ 1099511627776 := by rw [hrli]; exact hsm5
    have HVR : Hid (SR.vars = S.vars) := hrv.trans HVF.out
    have HCR : Hid (SR.core = []) := hrc.trans HCF.out
    have HLR : Hid (SR.T.levels.length ≤ 4398046511104) := Nat.le_trans hrlev HLF.out
    clear hSR hrv hrl hrc hrm hrli hrlev HRS HQ
    by_cases hth : (SR.limit : Int) < SR.many
    ·rw [if_pos hth] at hq
     have hred : red = true := by
      cases red with
      | true => rfl
      | false => simp at hq
     rw [if_pos hred] at hq
     have hth' : decide ((SR.limit : Int) < SR.many) = true := decide_eq_true hth
     have HQ := Lib.hid hq
     have hsmm := hsm3'
     clear hq hth hsm3'
     go_wp2_with fail
     go_region
     obtain ⟨w4, hw4⟩ : ∃ w4, World.drew w2 = w4 := ⟨_, rfl⟩
     have HFD0 : Hid (Fr [] w2 w4) := by rw [← hw4]; exact (Fr.refl [] _).drew
     rw [hw4]
     have KR2 := Lib.hid (HKR.out hred w4 L2 SR (H3.out.keep HFD0.out) HOR.out hsmm.1 hsmm.2)
     rw [HE2.out.1] at KR2
     have HFD : Hid (Fr (L.own w) w w4) := HF2.out.then_ (HFD0.out.mono (fun k hk => by cases hk))
     clear hw4 c11 c12 hth'
     go_wp2_with fail
     refine KR2.out.mono ?_
     clear KR2
     rintro e w5 ⟨S5, hred5, rfl, L5, h5, he5, hf5⟩
     have H5 := Lib.hid h5
     have HE5 := Lib.hid (SvL.ext_trans HE2.out he5 HFD.out.size)
     have HF5 := Lib.hid (SvL.own_then HE2.out HFD.out hf5)
     have HR5 := Lib.hid hred5
     obtain ⟨DD, hD1, hD2, hD3, rfl⟩ := hred5
     have hds := Sv.drops_same DD SR
     have HO5 := Lib.hid (Sv.Ok.drops DD SR HOR.out)
     obtain ⟨S5, hS5⟩ : ∃ S5, DD.foldl Sv.drop1 SR = S5 := ⟨_, rfl⟩
     rw [hS5] at hds HO5 H5 HR5
     have HV5 : Hid (S5.vars = S.vars) := hds.2.1.trans HVR.out
     have HC5 : Hid (S5.core = []) := hds.2.2.2.1.trans HCR.out
     have HL5 : Hid (S5.T.levels.length ≤ 4398046511104) := by show _ ≤ _; rw [hds.1]; exact HLR.out
     have hli : S5.limit ≤ 1099511627776 := by rw [hds.2.2.2.2.1]; exact hsm5'
     clear h5 he5 hf5 hD1 hD2 hD3 hds hS5
     obtain ⟨-, -, -, -, -, -, -, -, -, -, -, -, c12, -⟩ := H5.out.cells
     rw [HE5.out.1] at c12
     have f12 := H5.out.obj.frozen 12
     rw [HE5.out.1] at f12
     obtain ⟨lm, hlm⟩ : ∃ lm, S5.limit = lm := ⟨_, rfl⟩
     rw [hlm] at c12 hli
     have HLM := Lib.hid hlm
     have hw7 : IntKind.i64.wrap (((lm / 16 : Nat) : Int) + 1) = ((lm / 16 : Nat) : Int) + 1 := IntWalk.i64_in _ (by omega)
     have hw8 : IntKind.i64.wrap ((lm : Int) + (((lm / 16 : Nat) : Int) + 1)) = (lm : Int) + (((lm / 16 : Nat) : Int) + 1) := IntWalk.i64_in _ (by omega)
     have HCST : Hid ((lm : Int) + ((lm : Int) / 16 + 1) = ((lm + (lm / 16 + 1) : Nat) : Int)) := by show _ = _; omega
     obtain ⟨g6, f6⟩ := H5.out.setc 12 (.int .i64 ((lm + (lm / 16 + 1) : Nat) : Int)) S5.limUp (by simp [scs, Sv.limUp, hlm]) ⟨rfl, rfl, rfl, rfl, rfl, rfl, rfl⟩
     rw [HE5.out.1] at g6 f6
     have h6 := g6.keep (Fr.refl [] _).drew
     have H6a := Lib.hid h6
     have HF6a := Lib.hid ((SvL.own_then HE5.out HF5.out f6).drew)
     clear hlm g6 f6 h6
     go_upto_region 16 with fail
     go_region
     rw [HCST.out]
     obtain ⟨w6, hw6⟩ : ∃ w6, (w5.setCell ⟨L.a, 12, none⟩ (.int .i64 ((lm + (lm / 16 + 1) : Nat) : Int))).drew = w6 := ⟨_, rfl⟩
     rw [hw6] at H6a HF6a ⊢
     have H6 := H6a
     have HF6 := HF6a
     have HE6 := HE5
     have HO6 := Lib.hid HO5.out.limUp
     have HV6 : Hid (S5.limUp.vars = S.vars) := HV5.out
     have HC6 : Hid (S5.limUp.core = []) := HC5.out
     have HL6 : Hid (S5.limUp.T.levels.length ≤ 4398046511104) := HL5.out
     have HQ := Lib.hid (HQ.out S5 HR5.out)
     obtain ⟨S6, hS6⟩ : ∃ S6, S5.limUp = S6 := ⟨_, rfl⟩
     rw [hS6] at HQ H6 HO6 HV6 HC6 HL6
     clear hS6 hw6 c12 f12 hw7 hw8
     have KD := Lib.hid (decide_calls w6 L5 S6 H6.out 0 HO6.out A c us (HRD.out.step HE6.out HF6.out) (fun x hx => by have := HUS.out x hx; rw [HV6.out]; exact this) hul HC6.out HL6.out)
     rw [HE6.out.1] at KD
     have hod := HO6.out.decide_ us
     have HO7 := Lib.hid hod.1
     have HV7 : Hid ((S6.decide_ us).1.vars = S.vars) := hod.2.1.trans HV6.out
     have hq := HQ.out
     obtain ⟨DS, hDS⟩ : ∃ DS, S6.decide_ us = DS := ⟨_, rfl⟩
     rw [hDS] at KD HO7 HV7 hq
     obtain ⟨S7, r⟩ := DS
     simp only at KD HO7 HV7 hq
     clear hod hDS HQ
     go_wp2_with fail
     refine KD.out.mono ?_
     clear KD
     rintro e w7 ⟨rfl, L7, h7, he7, hf7⟩
     have H7 := Lib.hid h7
     have HE7 := Lib.hid (SvL.ext_trans HE6.out he7 HF6.out.size)
     have HF7 := Lib.hid (SvL.own_then HE6.out HF6.out hf7)
     clear h7 he7 hf7
     by_cases hr0 : r = 0
     ·rw [if_pos hr0] at hq
      have hdr : (r == (0 : Int)) = true := by simp [hr0]
      have HQ := Lib.hid hq
      clear hq
      go_wp2_with fail
      go_roundg (c0 * (D + 1) + d)
      case measure => have := HG.out; omega
      case rel => exact ⟨c0, d, next, n, S7, L7, rfl, rfl, rfl, HQ.out, HV7.out, HO7.out, H7.out, HE7.out, HF7.out⟩
     ·rw [if_neg hr0] at hq
      have hdr : (r == (0 : Int)) = false := by simp [hr0]
      have FF : Hid (SrP Q L w (.returned (.int .i64 r)) w7) := ⟨S7, r, hq, HO7.out, rfl, L7, H7.out, HE7.out, HF7.out⟩
      clear hq
      go_wp2_with fail
      go_ret
      exact FF.out
    ·rw [if_neg hth] at hq
     have hth' : decide ((SR.limit : Int) < SR.many) = false := decide_eq_false hth
     have HQ := Lib.hid hq
     clear hq hth
     go_wp2_with fail
     go_region
     obtain ⟨w6, hw6⟩ : ∃ w6, World.drew w2 = w6 := ⟨_, rfl⟩
     have HFD : Hid (Fr [] w2 w6) := by rw [← hw6]; exact (Fr.refl [] _).drew
     rw [hw6]
     have H6 := Lib.hid (H3.out.keep HFD.out)
     have HE6 := HE2
     have HF6 : Hid (Fr (L.own w) w w6) := HF2.out.then_ (HFD.out.mono (fun k hk => by cases hk))
     have HO6 := HOR
     have HV6 := HVR
     have HC6 := HCR
     have HL6 := HLR
     obtain ⟨S6, hS6⟩ : ∃ S6, SR = S6 := ⟨_, rfl⟩
     rw [hS6] at HQ H6 HO6 HV6 HC6 HL6
     clear hS6 hw6 c11 c12 hth'
     have KD := Lib.hid (decide_calls w6 L2 S6 H6.out 0 HO6.out A c us (HRD.out.step HE6.out HF6.out) (fun x hx => by have := HUS.out x hx; rw [HV6.out]; exact this) hul HC6.out HL6.out)
     rw [HE6.out.1] at KD
     have hod := HO6.out.decide_ us
     have HO7 := Lib.hid hod.1
     have HV7 : Hid ((S6.decide_ us).1.vars = S.vars) := hod.2.1.trans HV6.out
     have hq := HQ.out
     obtain ⟨DS, hDS⟩ : ∃ DS, S6.decide_ us = DS := ⟨_, rfl⟩
     rw [hDS] at KD HO7 HV7 hq
     obtain ⟨S7, r⟩ := DS
     simp only at KD HO7 HV7 hq
     clear hod hDS HQ
     go_wp2_with fail
     refine KD.out.mono ?_
     clear KD
     rintro e w7 ⟨rfl, L7, h7, he7, hf7⟩
     have H7 := Lib.hid h7
     have HE7 := Lib.hid (SvL.ext_trans HE6.out he7 HF6.out.size)
     have HF7 := Lib.hid (SvL.own_then HE6.out HF6.out hf7)
     clear h7 he7 hf7
     by_cases hr0 : r = 0
     ·rw [if_pos hr0] at hq
      have hdr : (r == (0 : Int)) = true := by simp [hr0]
      have HQ := Lib.hid hq
      clear hq
      go_wp2_with fail
      go_roundg (c0 * (D + 1) + d)
      case measure => have := HG.out; omega
      case rel => exact ⟨c0, d, next, n, S7, L7, rfl, rfl, rfl, HQ.out, HV7.out, HO7.out, H7.out, HE7.out, HF7.out⟩
     ·rw [if_neg hr0] at hq
      have hdr : (r == (0 : Int)) = false := by simp [hr0]
      have FF : Hid (SrP Q L w (.returned (.int .i64 r)) w7) := ⟨S7, r, hq, HO7.out, rfl, L7, H7.out, HE7.out, HF7.out⟩
      clear hq
      go_wp2_with fail
      go_ret
      exact FF.out
theorem tv_up {a : Int} (h : R64 a) (hl : a < wrap64 (-a)) : wrap64 (-a) = tv a := by
 obtain ⟨h0, h1⟩ := h
 rcases lit_cases a h0 with ⟨h2, h3⟩ | ⟨h2, h3, h4⟩ | ⟨h2, h3, h4⟩
 ·have : wrap64 (-a) = -a := by unfold wrap64; omega
  omega
 ·rw [h4]; unfold wrap64; omega
 ·omega
theorem tv_on {a : Int} (h : R64 a) (hl : ¬ a < wrap64 (-a)) : a = tv a := by
 obtain ⟨h0, h1⟩ := h
 rcases lit_cases a h0 with ⟨h2, h3⟩ | ⟨h2, h3, h4⟩ | ⟨h2, h3, h4⟩
 ·omega
 ·have : wrap64 (-a) = -a := by unfold wrap64; omega
  omega
 ·omega
theorem abs_calls (w : World) (a : Int) (h : R64 a) : Calls Try.prog 39 #[.int .i64 a] w fun e w' => e = .returned (.int .i64 (tv a)) ∧ w = w' := by
 have HU := Lib.hid (@tv_up a h)
 have HO := Lib.hid (@tv_on a h)
 go_enter Try.func39, Try.ntmps39
 go_wp2_with fail
 all_goals (go_ret; first | exact ⟨by rw [← HU.out (by assumption)]; rfl, rfl⟩ | exact ⟨by rw [← HO.out (by omega)]; rfl, rfl⟩)
def offB (vars : Int) (x : Int) : Bool := decide (tv x < 1) || decide (vars < tv x)
theorem chk1_calls (W : World) (b : Nat) (vars : Int) (hc : W.cell? ⟨b, 0, none⟩ = some (.int .i64 vars)) (x : Int) (hx : R64 x) :
  Calls Try.prog 38 #[.int .i64 x, .pointer (some ⟨b, 0, none⟩)] W fun e w' => e = .returned (.bool (offB vars x)) ∧ Fr [] W w' := by
 have KA := Lib.hid (fun u : Ext W => abs_calls u.v x hx)
 obtain ⟨t, ht⟩ : ∃ t, tv x = t := ⟨_, rfl⟩
 simp only [ht] at KA
 have eb := Ext.cell hc
 unfold offB
 rw [ht]
 by_cases h1 : t < 1
 ·have hd : decide (t < 1) = true := decide_eq_true h1
  rw [hd]
  go_enter Try.func38, Try.ntmps38
  go_wp2_with fail
  refine wp_region_ext (by kernel_rfl) (by kernel_rfl) ?_
  repeat (go_big_quiet_step (exact call_same (KA.out _)))
  refine wpQuiet_nil ?_
  rintro w2 ⟨u2, hu2⟩
  have HF_w2 : Hid (Fr [] W w2) := hu2 ▸ u2.fr
  clear hu2 u2
  clear eb hc
  go_wp2_with fail
  go_ret
  exact ⟨rfl, HF_w2.out⟩
 ·have hd : decide (t < 1) = false := decide_eq_false h1
  rw [hd]
  by_cases h2 : vars < t
  ·have hd2 : decide (vars < t) = true := decide_eq_true h2
   rw [hd2]
   go_enter Try.func38, Try.ntmps38
   go_wp2_with fail
   refine wp_region_ext (by kernel_rfl) (by kernel_rfl) ?_
   repeat (go_big_quiet_step (exact call_same (KA.out _)))
   refine wpQuiet_nil ?_
   rintro w2 ⟨u2, hu2⟩
   have HF_w2 : Hid (Fr [] W w2) := hu2 ▸ u2.fr
   clear hu2 u2
   clear eb hc
   go_wp2_with fail
   go_ret
   exact ⟨rfl, HF_w2.out⟩
  ·have hd2 : decide (vars < t) = false := decide_eq_false h2
   rw [hd2]
   go_enter Try.func38, Try.ntmps38
   go_wp2_with fail
   refine wp_region_ext (by kernel_rfl) (by kernel_rfl) ?_
   repeat (go_big_quiet_step (exact call_same (KA.out _)))
   refine wpQuiet_nil ?_
   rintro w2 ⟨u2, hu2⟩
   have HF_w2 : Hid (Fr [] W w2) := hu2 ▸ u2.fr
   clear hu2 u2
   clear eb hc
   go_wp2_with fail
   go_ret
   exact ⟨rfl, HF_w2.out⟩
theorem enters_chk1 : ∀ args w, (callFunc 38 args).run Try.prog w = .ok (.enter 38 args) w := enters_of Try.func38 (by kernel_rfl) rfl
def chkF (vars : Int) (xs : List Int) : Int := if 1024 < xs.length then 5 else if xs.any (offB vars) = true then 4 else 0
theorem check_calls (w : World) (vars : Int) (A : Option Addr) (c : Nat) (xs : List Int) (h : Rd w A xs) (hr : Ra xs) :
  Calls Try.prog 22 #[.int .i64 vars, .slice A xs.length c] w fun e w' => e = .returned (.int .i64 (chkF vars xs)) ∧ Fr [] w w' := by
 unfold chkF
 by_cases hl : 1024 < xs.length
 ·rw [if_pos hl]
  have hl' : (1024 : Int) < (xs.length : Int) := by omega
  clear h hr
  go_enter Try.func22, Try.ntmps22
  go_wp2_with fail
  go_ret
  exact ⟨rfl, box_fr' _ _⟩
 ·rw [if_neg hl]
  have HB : Hid (Fr [] w (w.alloc (.cells #[.int .i64 vars] 3))) := box_fr' _ _
  have HCE : Hid ((w.alloc (.cells #[.int .i64 vars] 3)).cell? ⟨w.heap.size, 0, none⟩ = some (.int .i64 vars)) := (At.new w _ _).cell 0
  have KC := Lib.hid (contains_ints (w.alloc (.cells #[.int .i64 vars] 3)) A c xs 38 #[.pointer (some ⟨w.heap.size, 0, none⟩)] (offB vars) enters_chk1 (h.keep HB.out) hr (by omega) (fun W hW x _ hx => chk1_calls W w.heap.size vars (hW.cellS HCE.out) x hx))
  have hl' : (xs.length : Int) ≤ (1024 : Int) := by omega
  obtain ⟨q, hq⟩ : ∃ q, xs.any (offB vars) = q := ⟨_, rfl⟩
  rw [hq] at KC ⊢
  clear h hr hq
  go_enter Try.func22, Try.ntmps22
  go_wp2_with fail
  refine KC.out.mono ?_
  rintro e w2 ⟨rfl, hf⟩
  have HF := Lib.hid (HB.out.then_ hf)
  clear hf KC
  cases q with
  | true =>
   go_wp2_with fail
   go_ret
   exact ⟨rfl, HF.out⟩
  | false =>
   go_wp2_with fail
   go_ret
   exact ⟨rfl, HF.out⟩
theorem sol1_calls (W : World) (b a : Nat) (vars : Int) (hb : W.cell? ⟨b, 0, none⟩ = some (.pointer (some ⟨a, 0, none⟩))) (hc : W.cell? ⟨a, 2, none⟩ = some (.int .i64 vars)) (x : Int) (hx : R64 x) :
  Calls Try.prog 32 #[.int .i64 x, .pointer (some ⟨b, 0, none⟩)] W fun e w' => e = .returned (.bool (offB vars x)) ∧ Fr [] W w' := by
 have HU := Lib.hid (@tv_up x hx)
 have HO := Lib.hid (@tv_on x hx)
 unfold offB
 go_enter Try.func32, Try.ntmps32
 go_wp2_with fail
 all_goals (go_ret; refine ⟨?_, Fr.refl _ _⟩; first | rw [← HU.out (by assumption)] | rw [← HO.out (by omega)])
 all_goals first | (rw [Bool.or_comm]; rfl) | (rw [decide_eq_true (by assumption : vars < wrap64 (-x)), Bool.or_true]; rfl) | (rw [decide_eq_true (by assumption : vars < x), Bool.or_true]; rfl) | (rw [decide_eq_false (by omega : ¬ vars < wrap64 (-x)), Bool.or_false]; rfl) | (rw [decide_eq_false (by omega : ¬ vars < x), Bool.or_false]; rfl)
theorem enters_sol1 : ∀ args w, (callFunc 32 args).run Try.prog w = .ok (.enter 32 args) w := enters_of Try.func32 (by kernel_rfl) rfl
theorem Rd.take1024 {w : World} {A : Option Addr} {us : List Int} {k : Nat} (h : Rd w A us) : Rd w A (us.take k) := by
 intro h0
 rw [List.length_take] at h0
 obtain ⟨b, o, hA, hx⟩ := h (by omega)
 refine ⟨b, o, hA, fun j hj => ?_⟩
 rw [List.length_take] at hj
 rw [hx j (by omega)]
 simp only [List.getElem!_eq_getElem?_getD, List.getElem?_take, if_pos (show j < k by omega)]
theorem tv_rng {x : Int} (h : R64 x) : (x ≤ tv x ∧ -x ≤ tv x) ∨ tv x < 0 := by
 obtain ⟨h0, h1⟩ := h
 rcases lit_cases x h0 with ⟨h2, h3⟩ | ⟨h2, h3, h4⟩ | ⟨h2, h3, h4⟩ <;> omega
namespace Sv
def fresh0 (S : Sv) : Sv := { S with has := false, core := [] }
def solveW (red : Bool) (budget : Int) (us : List Int) (D C : Nat) (Q : Sv → Int → Prop) (S : Sv) : Prop :=
 if (decide (budget < 1) || us.any (offB S.vars)) = true then Q S.fresh0 0
 else if S.bad = true then Q S.fresh0.used1 2
 else searchW red budget us (fun S1 r => Q (S1.back 0) r) D C 64 0 S.fresh0.used1
theorem Ok.fresh0 {S : Sv} {m : Nat} (ok : S.Ok m) : S.fresh0.Ok m := ⟨ok.vl, ok.tr, ok.hi, ok.hl, ok.ph, ok.wl, ok.ll, ok.wb, ok.wt, ok.lr, ok.ln, ok.lb, ok.hd, ok.rs⟩
end Sv
theorem SvAt.fresh0 {w : World} {L : SvL} {S : Sv} (h : SvAt w L S) :
  ∃ L', SvAt ((w.setCell ⟨L.a, 14, none⟩ (.bool false)).setCell ⟨L.a, 7, none⟩ (.slice none 0 0)).drew L' S.fresh0 ∧ L.ext L' w ∧ Fr (L.own w) w ((w.setCell ⟨L.a, 14, none⟩ (.bool false)).setCell ⟨L.a, 7, none⟩ (.slice none 0 0)).drew := by
 obtain ⟨g1, f1⟩ := h.setc 14 (.bool false) { S with has := false } (by simp [scs]) ⟨rfl, rfl, rfl, rfl, rfl, rfl, rfl⟩
 obtain ⟨L', g2, e2, f2, _⟩ := g1.setcore (F := []) (Ints.nil _) (Fr.refl _ _) (fun k hk => by cases hk) (fun k hk => by simp [blks] at hk)
 have hz : w.heap.size ≤ (w.setCell ⟨L.a, 14, none⟩ (.bool false)).heap.size := f1.size
 exact ⟨L', g2.keep (Fr.refl [] _).drew, ⟨e2.1, e2.2.1, fun k hk e => e2.2.2 k (Nat.lt_of_lt_of_le hk hz) e⟩, (SvL.own_then (SvL.ext_refl L w) f1 f2).drew⟩
theorem solve_calls (red : Bool) (KRED : red = true → RedC) (w : World) (L : SvL) (S : Sv) (h : SvAt w L S) (ok : S.Ok 0) (A : Option Addr) (c : Nat) (us : List Int) (hrd : Rdx w L A us) (hra : Ra us) (hcap : us.length ≤ c) (hul : us.length ≤ 1099511627776) (budget : Int) (D C : Nat) (Q : Sv → Int → Prop) (hus : S.used < 4611686018427387904) (hW : S.solveW red budget us D C Q) :
  Calls Try.prog 17 #[.pointer (some ⟨L.a, 0, none⟩), .int .i64 budget, .slice A us.length c] w (SrP Q L w) := by
 obtain ⟨w1, hw1⟩ : ∃ w1, w.alloc (.cells #[.pointer (some ⟨L.a, 0, none⟩)] 36) = w1 := ⟨_, rfl⟩
 have HFB : Hid (Fr [] w w1) := by rw [← hw1]; exact box_fr' _ _
 have hcb : w1.cell? ⟨w.heap.size, 0, none⟩ = some (.pointer (some ⟨L.a, 0, none⟩)) := by rw [← hw1]; exact (At.new w _ _).cell 0
 have HCB := Lib.hid hcb
 obtain ⟨L1, hL1⟩ : ∃ L1, L.seal w = L1 := ⟨_, rfl⟩
 have H1 : Hid (SvAt w1 L1 S) := by rw [← hL1]; exact h.seal.keep HFB.out
 have HE1 : Hid (L.ext L1 w) := by rw [← hL1]; exact L.seal_ext w
 have hnb : (L1.lab w.heap.size).1 ≠ L1.id := by rw [← hL1]; exact SvL.seal_new (Nat.le_refl _)
 have HNB : Hid (w.heap.size ∉ L1.own w1) := SvL.not_own hnb
 have HNB' := Lib.hid hnb
 have HF1 : Hid (Fr (L.own w) w w1) := HFB.out.mono (fun k hk => by cases hk)
 have HR1 : Hid (Rdx w1 L1 A us) := ⟨hrd.1.keep HFB.out, fun h0 => far_ext HE1.out (hrd.2 h0) (fun k hk => hrd.1.blk h0 k hk)⟩
 have HOK := Lib.hid ok
 have HW := Lib.hid hW
 have HRA := Lib.hid hra
 have HKR := Lib.hid KRED
 have KM := Lib.hid (made_calls w1 L1 S H1.out)
 have hea : L1.a = L.a := HE1.out.1
 rw [hea] at KM
 have f14 := H1.out.obj.frozen 14
 have f7 := H1.out.obj.frozen 7
 obtain ⟨-, -, -, -, -, -, -, c7, -, -, -, -, -, -, c14⟩ := H1.out.cells
 rw [hea] at f14 f7 c7 c14
 obtain ⟨L2, h2, he2, hf2⟩ := H1.out.fresh0
 rw [hea] at h2 hf2
 have HH2 := Lib.hid h2
 have HEE2 := Lib.hid he2
 have HFF2 := Lib.hid hf2
 clear h ok hrd hW hra hL1 hea h2 he2 hf2 KRED hnb
 go_enter Try.func17, Try.ntmps17
 go_upto_region 1 with fail
 clear hw1
 go_wp2_with fail
 refine KM.out.mono ?_
 clear KM
 rintro e w2 ⟨rfl, rfl⟩
 go_upto_region 3 with fail
 go_region
 obtain ⟨w3, hw3⟩ : ∃ w3, ((w1.setCell ⟨L.a, 14, none⟩ (.bool false)).setCell ⟨L.a, 7, none⟩ (.slice none 0 0)).drew = w3 := ⟨_, rfl⟩
 rw [hw3] at HH2 HFF2 ⊢
 have H3 := HH2
 have HF13 := HFF2
 have HE3 : Hid (L.ext L2 w) := SvL.ext_trans HE1.out HEE2.out HF1.out.size
 have HF3 : Hid (Fr (L.own w) w w3) := SvL.own_then HE1.out HF1.out HF13.out
 have HR3 : Hid (Rdx w3 L2 A us) := HR1.out.step HEE2.out HF13.out
 have hcb3 := HF13.out.cellN HNB.out HCB.out
 have HCB3 := Lib.hid hcb3
 have HNB3 : Hid ((L2.lab w.heap.size).1 ≠ L2.id) := fun e => HNB'.out (HEE2.out.2.2 _ (by have := lt_of_cell HCB.out; exact this) (e.trans HEE2.out.2.1))
 have HO3 := Lib.hid HOK.out.fresh0
 clear hw3 hcb c7 c14 f7 f14 HH2 HFF2
 have hws := HW.out
 unfold Sv.solveW at hws
 by_cases hb1 : budget < 1
 ·have hd : decide (budget < 1) = true := decide_eq_true hb1
  rw [hd, Bool.true_or, if_pos rfl] at hws
  have HQ := Lib.hid hws
  clear hws
  go_wp2_with fail
  go_region
  clear hcb3
  have FF : Hid (SrP Q L w (.returned (.int .i64 0)) w3.drew) := ⟨S.fresh0, 0, HQ.out, HO3.out, rfl, L2, H3.out.keep (Fr.refl [] w3).drew, HE3.out, HF3.out.then_ ((Fr.refl [] w3).drew.mono (fun k hk => by cases hk))⟩
  go_wp2_with fail
  go_ret
  exact FF.out
 ·have hd : decide (budget < 1) = false := decide_eq_false hb1
  rw [hd, Bool.false_or] at hws
  have HQ := Lib.hid hws
  obtain ⟨-, -, c2, -⟩ := H3.out.cells
  rw [HE3.out.1] at c2
  have HC2 := Lib.hid c2
  have hvs : S.fresh0.vars = S.vars := rfl
  rw [hvs] at c2
  have e2 := Ext.cell c2
  have eb := Ext.cell hcb3
  have KCO := Lib.hid (fun u : Ext w3 => contains_ints u.v A c us 32 #[.pointer (some ⟨w.heap.size, 0, none⟩)] (offB (S.vars : Int)) enters_sol1 (HR3.out.1.keep u.fr) HRA.out (by omega) (fun W hW x _ hx => sol1_calls W w.heap.size L.a (S.vars : Int) ((u.fr.then_ hW).cellS HCB3.out) ((u.fr.then_ hW).cellS HC2.out) x hx))
  clear hws hvs
  by_cases hk : 1024 < us.length
  ·have hki : (1024 : Int) < (us.length : Int) := by omega
   have hcc : (1024 : Int) ≤ (c : Int) := by omega
   have hlen : (us.take 1024).length = 1024 := by rw [List.length_take]; omega
   have KCK := Lib.hid (fun u : Ext w3 => check_calls u.v (S.vars : Int) A c (us.take 1024) (HR3.out.1.keep u.fr).take1024 (Ra.sub HRA.out (fun y hy => List.mem_of_mem_take hy)))
   have HP : Hid ((us.take 1024).any (offB (S.vars : Int)) = true → us.any (offB (S.vars : Int)) = true) := fun h5 => by
    rw [List.any_eq_true] at h5 ⊢
    obtain ⟨y, hy, h6⟩ := h5
    exact ⟨y, List.mem_of_mem_take hy, h6⟩
   unfold chkF at KCK
   rw [hlen] at KCK
   simp only [Nat.lt_irrefl, if_false] at KCK
   obtain ⟨p, hp⟩ : ∃ p, (us.take 1024).any (offB (S.vars : Int)) = p := ⟨_, rfl⟩
   rw [hp] at KCK HP
   clear hp hlen hk
   cases p with
   | true =>
    have hq := HQ.out
    rw [if_pos (HP.out rfl)] at hq
    have HQ := Lib.hid hq
    simp only [if_true] at KCK
    clear hq HP
    go_wp2_with fail
    refine wp_region_ext (by kernel_rfl) (by kernel_rfl) ?_
    repeat (go_big_quiet_step (first | exact call_ext (KCK.out _) | exact call_ext (KCO.out _)))
    refine wpQuiet_nil ?_
    rintro w4 ⟨u2, hu2⟩
    have HF_w4 : Hid (Fr [] w3 w4) := hu2 ▸ u2.fr
    clear hu2 u2
    clear hcb3 c2 e2 eb KCK KCO
    have FF : Hid (SrP Q L w (.returned (.int .i64 0)) w4) := ⟨S.fresh0, 0, HQ.out, HO3.out, rfl, L2, H3.out.keep HF_w4.out, HE3.out, HF3.out.then_ (HF_w4.out.mono (fun k hk => by cases hk))⟩
    go_wp2_with fail
    go_ret
    exact FF.out
   | false =>
    simp only [Bool.false_eq_true, if_false] at KCK
    obtain ⟨q, hq5⟩ : ∃ q, us.any (offB (S.vars : Int)) = q := ⟨_, rfl⟩
    rw [hq5] at KCO
    have hq := HQ.out
    rw [hq5] at hq
    have HUQ := Lib.hid hq5
    cases q with
    | true =>
     rw [if_pos rfl] at hq
     have HQ := Lib.hid hq
     clear hq HP hq5
     go_wp2_with fail
     refine wp_region_ext (by kernel_rfl) (by kernel_rfl) ?_
     repeat (go_big_quiet_step (first | exact call_ext (KCK.out _) | exact call_ext (KCO.out _)))
     refine wpQuiet_nil ?_
     rintro w4 ⟨u2, hu2⟩
     have HF_w4 : Hid (Fr [] w3 w4) := hu2 ▸ u2.fr
     clear hu2 u2
     clear hcb3 c2 e2 eb KCK KCO
     have FF : Hid (SrP Q L w (.returned (.int .i64 0)) w4) := ⟨S.fresh0, 0, HQ.out, HO3.out, rfl, L2, H3.out.keep HF_w4.out, HE3.out, HF3.out.then_ (HF_w4.out.mono (fun k hk => by cases hk))⟩
     go_wp2_with fail
     go_ret
     exact FF.out
    | false =>
     rw [if_neg (by simp)] at hq
     have HQ := Lib.hid hq
     clear hq HP hq5
     go_wp2_with fail
     refine wp_region_ext (by kernel_rfl) (by kernel_rfl) ?_
     repeat (go_big_quiet_step (first | exact call_ext (KCK.out _) | exact call_ext (KCO.out _)))
     refine wpQuiet_nil ?_
     rintro w4 ⟨u2, hu2⟩
     have HF_w4 : Hid (Fr [] w3 w4) := hu2 ▸ u2.fr
     clear hu2 u2
     clear hcb3 c2 e2 eb KCK KCO
     have H4 := Lib.hid (H3.out.keep HF_w4.out)
     have HF4 : Hid (Fr (L.own w) w w4) := HF3.out.then_ (HF_w4.out.mono (fun k hk => by cases hk))
     have HR4 := Lib.hid (HR3.out.keep HF_w4.out)
     have hcb4 := HF_w4.out.cellS HCB3.out
     obtain ⟨-, -, -, -, -, -, -, -, -, c9, -, -, -, c13, -⟩ := H4.out.cells
     rw [HE3.out.1] at c9 c13
     have f9 := H4.out.obj.frozen 9
     rw [HE3.out.1] at f9
     obtain ⟨uu, huu⟩ : ∃ uu, S.fresh0.used = uu := ⟨_, rfl⟩
     have huu2 : uu < 4611686018427387904 := by rw [← huu]; exact hus
     obtain ⟨g5, f5⟩ := H4.out.setc 9 (.int .i64 ((uu : Int) + 1)) S.fresh0.used1 (by simp [scs, Sv.used1, huu]) ⟨rfl, rfl, rfl, rfl, rfl, rfl, rfl⟩
     rw [HE3.out.1] at g5 f5
     rw [huu] at c9
     have hwu : IntKind.i64.wrap ((uu : Int) + 1) = (uu : Int) + 1 := IntWalk.i64_in _ (by omega)
     obtain ⟨bd, hbd⟩ : ∃ bd, S.bad = bd := ⟨_, rfl⟩
     have hbd' : S.fresh0.bad = bd := hbd
     rw [hbd'] at c13
     have hq := HQ.out
     rw [hbd] at hq
     have HNL : Hid (w.heap.size ≠ L.a) := fun e => by
      have h5 := H4.out.t0
      rw [HE3.out.1, ← e] at h5
      exact HNB3.out (by rw [h5])
     clear hbd hbd' HQ huu hus
     go_upto_region 7 with fail
     obtain ⟨w5, hw5⟩ : ∃ w5, w4.setCell ⟨L.a, 9, none⟩ (.int .i64 ((uu : Int) + 1)) = w5 := ⟨_, rfl⟩
     have hcb5 : w5.cell? ⟨w.heap.size, 0, none⟩ = some (.pointer (some ⟨L.a, 0, none⟩)) := by
      rw [← hw5]
      exact ((Fr.refl [L.a] w4).setCell (p := ⟨L.a, 9, none⟩) (.inl (by simp)) _).cellN (by simpa using HNL.out) hcb4
     have hc13 : w5.cell? ⟨L.a, 13, none⟩ = some (.bool bd) := by
      have h5 := g5.cells.2.2.2.2.2.2.2.2.2.2.2.2.2.1
      rw [HE3.out.1, hw5] at h5
      have h6 := H4.out.cells.2.2.2.2.2.2.2.2.2.2.2.2.2.1
      rw [HE3.out.1, c13] at h6
      have h7 : bd = S.fresh0.bad := by simpa using h6
      rw [h7]
      exact h5
     rw [hw5] at g5 f5 ⊢
     have H5 := Lib.hid g5
     have HF5 := Lib.hid (SvL.own_then HE3.out HF4.out f5)
     have HR5 := Lib.hid (HR4.out.step (SvL.ext_refl L2 w4) f5)
     have HCB5 := Lib.hid hcb5
     clear hw5 g5 f5 c9 c13 f9 hcb4 hwu
     cases bd with
     | true =>
      rw [if_pos rfl] at hq
      have FF : Hid (SrP Q L w (.returned (.int .i64 2)) w5) := ⟨S.fresh0.used1, 2, hq, HO3.out.used1, rfl, L2, H5.out, HE3.out, HF5.out⟩
      clear hq
      go_wp2_with fail
      go_ret
      exact FF.out
     | false =>
      rw [if_neg (by simp)] at hq
      have KS := Lib.hid (search_calls red HKR.out w5 L2 S.fresh0.used1 H5.out HO3.out.used1 A c us HR5.out (fun x hx => by
       have h5 := HUQ.out
       rw [List.any_eq_false] at h5
       have h6 := h5 x hx
       unfold offB at h6
       simp only [Bool.or_eq_true, decide_eq_true_eq, not_or] at h6
       have h7 := (mem_idx (p := R64)).1 HRA.out x hx
       have h8 := tv_rng h7
       show -(S.vars : Int) ≤ x ∧ x ≤ (S.vars : Int)
       omega) hul budget _ D C hq)
      rw [HE3.out.1] at KS
      clear hq
      go_wp2_with fail
      refine KS.out.mono ?_
      clear KS
      rintro e w6 ⟨S6, r, hq6, ho6, rfl, L6, h6, he6, hf6⟩
      have H6 := Lib.hid h6
      have HE6 := Lib.hid (SvL.ext_trans HE3.out he6 HF5.out.size)
      have HF6 := Lib.hid (SvL.own_then HE3.out HF5.out hf6)
      have hcb6 := hf6.cellN (SvL.not_own HNB3.out) HCB5.out
      have HQ6 := Lib.hid hq6
      have HO6 := Lib.hid ho6
      have KB := Lib.hid (back_calls w6 L6 S6 H6.out 0 ho6 0 (by omega))
      rw [HE6.out.1] at KB
      clear h6 he6 hf6 hq6 ho6 hcb5
      go_wp2_with fail
      refine KB.out.mono ?_
      clear KB hcb6
      rintro e w7 ⟨rfl, L7, h7, he7, hf7⟩
      have FF : Hid (SrP Q L w (.returned (.int .i64 r)) w7) := ⟨S6.back 0, r, HQ6.out, (HO6.out.back 0).1, rfl, L7, h7, SvL.ext_trans HE6.out he7 HF6.out.size, SvL.own_then HE6.out HF6.out hf7⟩
      clear h7 he7 hf7
      go_wp2_with fail
      go_ret
      exact FF.out
  ·have hki : (us.length : Int) ≤ (1024 : Int) := by omega
   have hcc : (us.length : Int) ≤ (c : Int) := by omega
   have KCK := Lib.hid (fun u : Ext w3 => check_calls u.v (S.vars : Int) A c us (HR3.out.1.keep u.fr) HRA.out)
   unfold chkF at KCK
   rw [if_neg hk] at KCK
   have HP : Hid (us.any (offB (S.vars : Int)) = true → us.any (offB (S.vars : Int)) = true) := id
   obtain ⟨p, hp⟩ : ∃ p, us.any (offB (S.vars : Int)) = p := ⟨_, rfl⟩
   have HP : Hid (p = true → us.any (offB (S.vars : Int)) = true) := fun h5 => hp.trans h5
   rw [hp] at KCK
   clear hp hk
   cases p with
   | true =>
    have hq := HQ.out
    rw [if_pos (HP.out rfl)] at hq
    have HQ := Lib.hid hq
    simp only [if_true] at KCK
    clear hq HP
    go_wp2_with fail
    refine wp_region_ext (by kernel_rfl) (by kernel_rfl) ?_
    repeat (go_big_quiet_step (first | exact call_ext (KCK.out _) | exact call_ext (KCO.out _)))
    refine wpQuiet_nil ?_
    rintro w4 ⟨u2, hu2⟩
    have HF_w4 : Hid (Fr [] w3 w4) := hu2 ▸ u2.fr
    clear hu2 u2
    clear hcb3 c2 e2 eb KCK KCO
    have FF : Hid (SrP Q L w (.returned (.int .i64 0)) w4) := ⟨S.fresh0, 0, HQ.out, HO3.out, rfl, L2, H3.out.keep HF_w4.out, HE3.out, HF3.out.then_ (HF_w4.out.mono (fun k hk => by cases hk))⟩
    go_wp2_with fail
    go_ret
    exact FF.out
   | false =>
    simp only [Bool.false_eq_true, if_false] at KCK
    obtain ⟨q, hq5⟩ : ∃ q, us.any (offB (S.vars : Int)) = q := ⟨_, rfl⟩
    rw [hq5] at KCO
    have hq := HQ.out
    rw [hq5] at hq
    have HUQ := Lib.hid hq5
    cases q with
    | true =>
     rw [if_pos rfl] at hq
     have HQ := Lib.hid hq
     clear hq HP hq5
     go_wp2_with fail
     refine wp_region_ext (by kernel_rfl) (by kernel_rfl) ?_
     repeat (go_big_quiet_step (first | exact call_ext (KCK.out _) | exact call_ext (KCO.out _)))
     refine wpQuiet_nil ?_
     rintro w4 ⟨u2, hu2⟩
     have HF_w4 : Hid (Fr [] w3 w4) := hu2 ▸ u2.fr
     clear hu2 u2
     clear hcb3 c2 e2 eb KCK KCO
     have FF : Hid (SrP Q L w (.returned (.int .i64 0)) w4) := ⟨S.fresh0, 0, HQ.out, HO3.out, rfl, L2, H3.out.keep HF_w4.out, HE3.out, HF3.out.then_ (HF_w4.out.mono (fun k hk => by cases hk))⟩
     go_wp2_with fail
     go_ret
     exact FF.out
    | false =>
     rw [if_neg (by simp)] at hq
     have HQ := Lib.hid hq
     clear hq HP hq5
     go_wp2_with fail
     refine wp_region_ext (by kernel_rfl) (by kernel_rfl) ?_
     repeat (go_big_quiet_step (first | exact call_ext (KCK.out _) | exact call_ext (KCO.out _)))
     refine wpQuiet_nil ?_
     rintro w4 ⟨u2, hu2⟩
     have HF_w4 : Hid (Fr [] w3 w4) := hu2 ▸ u2.fr
     clear hu2 u2
     clear hcb3 c2 e2 eb KCK KCO
     have H4 := Lib.hid (H3.out.keep HF_w4.out)
     have HF4 : Hid (Fr (L.own w) w w4) := HF3.out.then_ (HF_w4.out.mono (fun k hk => by cases hk))
     have HR4 := Lib.hid (HR3.out.keep HF_w4.out)
     have hcb4 := HF_w4.out.cellS HCB3.out
     obtain ⟨-, -, -, -, -, -, -, -, -, c9, -, -, -, c13, -⟩ := H4.out.cells
     rw [HE3.out.1] at c9 c13
     have f9 := H4.out.obj.frozen 9
     rw [HE3.out.1] at f9
     obtain ⟨uu, huu⟩ : ∃ uu, S.fresh0.used = uu := ⟨_, rfl⟩
     have huu2 : uu < 4611686018427387904 := by rw [← huu]; exact hus
     obtain ⟨g5, f5⟩ := H4.out.setc 9 (.int .i64 ((uu : Int) + 1)) S.fresh0.used1 (by simp [scs, Sv.used1, huu]) ⟨rfl, rfl, rfl, rfl, rfl, rfl, rfl⟩
     rw [HE3.out.1] at g5 f5
     rw [huu] at c9
     have hwu : IntKind.i64.wrap ((uu : Int) + 1) = (uu : Int) + 1 := IntWalk.i64_in _ (by omega)
     obtain ⟨bd, hbd⟩ : ∃ bd, S.bad = bd := ⟨_, rfl⟩
     have hbd' : S.fresh0.bad = bd := hbd
     rw [hbd'] at c13
     have hq := HQ.out
     rw [hbd] at hq
     have HNL : Hid (w.heap.size ≠ L.a) := fun e => by
      have h5 := H4.out.t0
      rw [HE3.out.1, ← e] at h5
      exact HNB3.out (by rw [h5])
     clear hbd hbd' HQ huu hus
     go_upto_region 7 with fail
     obtain ⟨w5, hw5⟩ : ∃ w5, w4.setCell ⟨L.a, 9, none⟩ (.int .i64 ((uu : Int) + 1)) = w5 := ⟨_, rfl⟩
     have hcb5 : w5.cell? ⟨w.heap.size, 0, none⟩ = some (.pointer (some ⟨L.a, 0, none⟩)) := by
      rw [← hw5]
      exact ((Fr.refl [L.a] w4).setCell (p := ⟨L.a, 9, none⟩) (.inl (by simp)) _).cellN (by simpa using HNL.out) hcb4
     have hc13 : w5.cell? ⟨L.a, 13, none⟩ = some (.bool bd) := by
      have h5 := g5.cells.2.2.2.2.2.2.2.2.2.2.2.2.2.1
      rw [HE3.out.1, hw5] at h5
      have h6 := H4.out.cells.2.2.2.2.2.2.2.2.2.2.2.2.2.1
      rw [HE3.out.1, c13] at h6
      have h7 : bd = S.fresh0.bad := by simpa using h6
      rw [h7]
      exact h5
     rw [hw5] at g5 f5 ⊢
     have H5 := Lib.hid g5
     have HF5 := Lib.hid (SvL.own_then HE3.out HF4.out f5)
     have HR5 := Lib.hid (HR4.out.step (SvL.ext_refl L2 w4) f5)
     have HCB5 := Lib.hid hcb5
     clear hw5 g5 f5 c9 c13 f9 hcb4 hwu
     cases bd with
     | true =>
      rw [if_pos rfl] at hq
      have FF : Hid (SrP Q L w (.returned (.int .i64 2)) w5) := ⟨S.fresh0.used1, 2, hq, HO3.out.used1, rfl, L2, H5.out, HE3.out, HF5.out⟩
      clear hq
      go_wp2_with fail
      go_ret
      exact FF.out
     | false =>
      rw [if_neg (by simp)] at hq
      have KS := Lib.hid (search_calls red HKR.out w5 L2 S.fresh0.used1 H5.out HO3.out.used1 A c us HR5.out (fun x hx => by
       have h5 := HUQ.out
       rw [List.any_eq_false] at h5
       have h6 := h5 x hx
       unfold offB at h6
       simp only [Bool.or_eq_true, decide_eq_true_eq, not_or] at h6
       have h7 := (mem_idx (p := R64)).1 HRA.out x hx
       have h8 := tv_rng h7
       show -(S.vars : Int) ≤ x ∧ x ≤ (S.vars : Int)
       omega) hul budget _ D C hq)
      rw [HE3.out.1] at KS
      clear hq
      go_wp2_with fail
      refine KS.out.mono ?_
      clear KS
      rintro e w6 ⟨S6, r, hq6, ho6, rfl, L6, h6, he6, hf6⟩
      have H6 := Lib.hid h6
      have HE6 := Lib.hid (SvL.ext_trans HE3.out he6 HF5.out.size)
      have HF6 := Lib.hid (SvL.own_then HE3.out HF5.out hf6)
      have hcb6 := hf6.cellN (SvL.not_own HNB3.out) HCB5.out
      have HQ6 := Lib.hid hq6
      have HO6 := Lib.hid ho6
      have KB := Lib.hid (back_calls w6 L6 S6 H6.out 0 ho6 0 (by omega))
      rw [HE6.out.1] at KB
      clear h6 he6 hf6 hq6 ho6 hcb5
      go_wp2_with fail
      refine KB.out.mono ?_
      clear KB hcb6
      rintro e w7 ⟨rfl, L7, h7, he7, hf7⟩
      have FF : Hid (SrP Q L w (.returned (.int .i64 r)) w7) := ⟨S6.back 0, r, HQ6.out, (HO6.out.back 0).1, rfl, L7, h7, SvL.ext_trans HE6.out he7 HF6.out.size, SvL.own_then HE6.out HF6.out hf7⟩
      clear h7 he7 hf7
      go_wp2_with fail
      go_ret
      exact FF.out
end Go.Proofs.Ytjchilcpflfcnaa
