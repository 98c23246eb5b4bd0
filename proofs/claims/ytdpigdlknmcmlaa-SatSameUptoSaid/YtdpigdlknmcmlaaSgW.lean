/- Lists of lists; the law's laid walked. The function of SatSame walked. -/
import Derived.Test.YtdpigdlknmcmlaaSgM
import Derived.Test.YtdpigdlknmcmlaaSgV
namespace Go.Proofs.Ytdpigdlknmcmlaa
open Go.RowKit
set_option linter.unusedVariables false

/-- A list of numbers, and where it lies. -/
structure Ls where
  A : Option Addr
  c : Nat
  l : List Int
instance : Inhabited Ls := ⟨⟨none, 0, []⟩⟩
def Ls.val (h : Ls) : Value := .slice h.A h.l.length h.c
/-- It can be read. -/
def OkL (w : World) (h : Ls) : Prop := Rd w h.A h.l ∧ Ra h.l ∧ h.l.length ≤ 17592186044416 ∧ (h.A = none → h.l.length = 0 ∧ h.c = 0)
theorem OkL.keep {w w' : World} {h : Ls} (k : OkL w h) (hf : Fr [] w w') : OkL w' h := ⟨k.1.keep hf, k.2⟩
/-- The lists lie there. -/
def RdL (w : World) (A : Option Addr) (hs : List Ls) : Prop := (0 < hs.length → ∃ b o, A = some ⟨b, o, none⟩ ∧ ∀ j : Nat, j < hs.length → w.cell? ⟨b, o + j, none⟩ = some (hs[j]!).val) ∧ ∀ j : Nat, j < hs.length → OkL w hs[j]!
theorem RdL.keep {w w' : World} {A : Option Addr} {hs : List Ls} (k : RdL w A hs) (hf : Fr [] w w') : RdL w' A hs := by
  refine ⟨fun h0 => ?_, fun j hj => (k.2 j hj).keep hf⟩
  obtain ⟨b, o, hA, hx⟩ := k.1 h0
  exact ⟨b, o, hA, fun j hj => hf.cellS (hx j hj)⟩
theorem RdL.one {w : World} {A : Option Addr} {hs : List Ls} (k : RdL w A hs) {j : Nat} (hj : j < hs.length) : ∃ b o B d l, A = some ⟨b, o, none⟩ ∧ Hid (hs[j]! = ⟨B, d, l⟩) ∧ w.cell? ⟨b, o + j, none⟩ = some (.slice B l.length d) ∧ OkL w ⟨B, d, l⟩ := by
  obtain ⟨b, o, hA, hx⟩ := k.1 (by omega)
  exact ⟨b, o, _, _, _, hA, rfl, hx j hj, k.2 j hj⟩
theorem lists_drop {hs : List Ls} {k : Nat} (h : k < hs.length) : (hs.map (·.l)).drop k = (hs[k]!).l :: (hs.map (·.l)).drop (k + 1) := by
  rw [List.drop_eq_getElem_cons (by simpa using h), List.getElem_map]
  simp only [List.getElem!_eq_getElem?_getD, List.getElem?_eq_getElem h, Option.getD_some]
theorem addF_snd2 (S : Sv) (l : List Int) : (S.addF l).2 = chkF S.vars l := by
  unfold Sv.addF
  split
  · rename_i h; exact h.symm
  · rfl
theorem Own.old {w w1 w2 : World} {L : SvL} {S : Sv} (h : Own w1 w2 L S) (hf : Fr [] w w1) : Own w w2 L S :=
  ⟨h.sv, fun k hk => h.nw k (Nat.lt_of_lt_of_le hk hf.size), hf.then_ h.fr⟩
/-- What laid leaves. -/
def LayP (q : Sv × Bool) (w0 : World) (e : Ending) (w' : World) : Prop := ∃ L : SvL, e = .returned (.tuple #[.pointer (some ⟨L.a, 0, none⟩), .bool q.2]) ∧ Own w0 w' L q.1

set_option maxRecDepth 100000 in
set_option maxHeartbeats 8000000 in
theorem laid_calls (w : World) (vars : Int) (hv : R64 vars) (A : Option Addr) (c : Nat) (hs : List Ls) (h : RdL w A hs) (hl : hs.length ≤ 1099511620000) :
    Calls Try.prog 11 #[.agg #[.int .i64 vars, .slice A hs.length c]] w (LayP (Sv.layN (hs.map (·.l)) (Sv.new vars)) w) := by
  obtain ⟨RES, hRES⟩ : ∃ RES, Sv.layN (hs.map (·.l)) (Sv.new vars) = RES := ⟨_, rfl⟩
  rw [hRES]
  have HRES := Lib.hid hRES
  obtain ⟨w1, hw1⟩ : ∃ w1, w.alloc (.cells #[.int .i64 vars, .slice A hs.length c] 33) = w1 := ⟨_, rfl⟩
  have HW1 := Lib.hid hw1
  have HF1 : Hid (Fr [] w w1) := hw1 ▸ box_fr' _ _
  have HS : Hid (At w1 w.heap.size 33 #[.int .i64 vars, .slice A hs.length c]) := hw1 ▸ At.new _ _ _
  have HH := Lib.hid (h.keep HF1.out)
  have c0 := HS.out.cell 0
  have c1 := HS.out.cell 1
  simp at c0 c1
  have C1 := Lib.hid c1
  have KN := Lib.hid (own_new w1 vars hv.1 hv.2)
  have KI := Sv.Inv.new vars
  have HLA0 : Hid (Sv.Laid (Sv.new vars) (Sv.new vars) 0) := ⟨KI.1, KI.2.1, rfl, rfl, rfl, rfl, Nat.le_refl _, rfl⟩
  have HN0 := Lib.hid KI.2.2
  clear h hRES KI
  go_enter Try.func11, Try.ntmps11
  go_upto_region 1 with fail
  clear hw1
  go_wp2_with fail
  refine KN.out.mono ?_
  clear KN c0 c1
  rintro e w2 ⟨L2, rfl, h2⟩
  obtain ⟨a, ha⟩ : ∃ a, L2.a = a := ⟨_, rfl⟩
  rw [ha]
  have H2 := Lib.hid h2
  have HA2 := Lib.hid ha
  clear h2 ha
  go_upto_region 3 with fail
  go_wp2_with fail
  go_loopg [5] hs.length (fun g x5 wr => ∃ (k : Nat) (L : SvL) (S : Sv), k + g = hs.length ∧ x5 = .int .i64 k ∧ Hid (L.a = a) ∧ Hid (Own w1 wr L S) ∧ Hid (Sv.Laid (Sv.new vars) S k) ∧ Hid (Sv.layN ((hs.map (·.l)).drop k) S = RES))
  case atStart => exact ⟨0, L2, _, by omega, rfl, HA2, H2, HLA0, HRES⟩
  case round =>
    clear HA2 H2 HLA0 HRES
    obtain ⟨k, L, S, hk, rfl, HLA, HOW, HLD, HRES⟩ := hrel
    have HK := Lib.hid hk
    have hkn : k ≤ hs.length := by omega
    have e1 := HOW.out.fr.cellS C1.out
    clear hk
    by_cases hlt : k < hs.length
    · obtain ⟨b, o, B, d, l, hA, hx, cx, ok⟩ := HH.out.one hlt
      subst hA
      have e2 := HOW.out.fr.cellS cx
      have hld := HLD.out
      have hn0 := HN0.out
      have hsl : S.list.length < 1099511627776 := by have := hld.list; rw [hn0.2.2.1] at this; simp at this; omega
      have KA := HOW.out.add hld.inv.ok B d l (HOW.out.far_old ok.1) ok.2.1 (fun h => (ok.2.2.2 h).2) hsl (by rw [hld.used, hn0.2.2.2.1]; decide)
      rw [addF_snd2, HLA.out] at KA
      have hdr := lists_drop hlt
      rw [hx.out] at hdr
      have hres := HRES.out
      rw [hdr, Sv.layN] at hres
      have HST := Lib.hid (hld.step ok.2.1 (by rw [hn0.2.2.1]; simp; omega))
      obtain ⟨ck, hck⟩ : ∃ ck, chkF S.vars l = ck := ⟨_, rfl⟩
      have HSA0 : Hid (ck ≠ 0 → (S.addF l).1 = S) := fun h => by
        unfold Sv.addF
        rw [if_neg (by rw [hck]; exact h)]
      rw [hck] at KA hres
      have KA := Lib.hid KA
      have HRS := Lib.hid hres
      clear hld hn0 hsl hdr hres hck ok cx
      by_cases h0 : ck = 0
      · have hd : (ck != (0 : Int)) = false := by simp [h0]
        have HR2 : Hid (Sv.layN ((hs.map (·.l)).drop (k + 1)) (S.addF l).1 = RES) := by
          have := HRS.out
          rw [if_pos h0] at this
          exact this
        clear HRS
        go_wp2_with fail
        refine KA.out.mono ?_
        clear KA
        rintro e w4 ⟨rfl, L4, hL4, h4⟩
        have HL4 := Lib.hid hL4
        have H4 := Lib.hid h4
        clear h4 hL4
        go_wp2_with fail
        clear e1 e2
        go_roundg (gk - 1)
        case measure => have := HK.out; omega
        case rel => exact ⟨k + 1, L4, _, by have := HK.out; omega, by go_num, HL4, H4, HST, HR2⟩
      · have hd : (ck != (0 : Int)) = true := by simp [h0]
        have HR2 : Hid ((S, false) = RES) := by
          have := HRS.out
          rw [if_neg h0] at this
          exact this
        have HSA : Hid ((S.addF l).1 = S) := HSA0.out h0
        clear HRS
        go_wp2_with fail
        refine KA.out.mono ?_
        clear KA
        rintro e w4 ⟨rfl, L4, hL4, h4⟩
        have HL4 := Lib.hid hL4
        have H4 := Lib.hid h4
        clear h4 hL4
        go_wp2_with fail
        go_ret2
        have h4 := H4.out
        rw [HSA.out] at h4
        refine ⟨L4, ?_, ?_⟩
        · rw [HL4.out, ← HR2.out]; rfl
        · rw [← HR2.out]; exact h4.old HF1.out
    · have hlen : (hs.map (·.l)).drop k = [] := List.drop_eq_nil_of_le (by simp; omega)
      have HR2 : Hid ((S, true) = RES) := by
        have := HRES.out
        rw [hlen, Sv.layN] at this
        exact this
      have hkl : k = hs.length := by omega
      subst hkl
      clear HK HRES hlen
      go_wp2_with fail
      go_ret2
      refine ⟨L, ?_, ?_⟩
      · rw [HLA.out, ← HR2.out]; rfl
      · rw [← HR2.out]; exact HOW.out.old HF1.out

end Go.Proofs.Ytdpigdlknmcmlaa
namespace Go.Proofs.Ytdpigdlknmcmlaa
open Go.RowKit
set_option linter.unusedVariables false

set_option maxRecDepth 100000 in
set_option maxHeartbeats 16000000 in
theorem same_calls (w : World) (vars : Int) (hv : R64 vars) (A : Option Addr) (c : Nat) (hs : List Ls) (h : RdL w A hs) (hl : hs.length ≤ 1099511620000)
    (B : Option Addr) (d : Nat) (us : List Int) (hb : Rd w B us) (hra : Ra us) (hcap : us.length ≤ d) (hul : us.length ≤ 1099511627776) (hlr : ∀ c ∈ hs.map (·.l), Ra c) :
    Calls Try.prog 4 #[.agg #[.int .i64 vars, .slice A hs.length c], .slice B us.length d] w fun e w' => e = .returned (.bool true) ∧ Fr [] w w' := by
  obtain ⟨w1, hw1⟩ : ∃ w1, w.alloc (.cells #[.int .i64 vars, .slice A hs.length c] 33) = w1 := ⟨_, rfl⟩
  have HF1 : Hid (Fr [] w w1) := hw1 ▸ box_fr' _ _
  have HS : Hid (At w1 w.heap.size 33 #[.int .i64 vars, .slice A hs.length c]) := hw1 ▸ At.new _ _ _
  have HC0 := Lib.hid (HS.out.cell 0)
  have HC1 := Lib.hid (HS.out.cell 1)
  have HH := Lib.hid (h.keep HF1.out)
  have HB := Lib.hid (hb.keep HF1.out)
  have HBK : Hid (∀ k, k ∈ blks B → 0 < us.length → k < w1.heap.size) := fun k hk h0 => HB.out.blk h0 k hk
  have HRA := Lib.hid hra
  have HCAP := Lib.hid hcap
  have HUL := Lib.hid hul
  have KAL := Lib.hid (alive_calls w1)
  have KI := Sv.Inv.new vars
  obtain ⟨m, hm, hld⟩ := Sv.layN_laid (S0 := Sv.new vars) (hs.map (·.l)) (Sv.new vars) 0 ⟨KI.1, KI.2.1, rfl, rfl, rfl, rfl, Nat.le_refl _, rfl⟩ hlr (by rw [KI.2.2.2.2.1]; simp; omega)
  have hm2 : m ≤ 1099511620000 := by simp at hm; omega
  have KL := Lib.hid (fun W (hf : Fr [] w1 W) => laid_calls W vars hv A c hs (HH.out.keep hf) hl)
  obtain ⟨RES, hRES⟩ : ∃ RES, Sv.layN (hs.map (·.l)) (Sv.new vars) = RES := ⟨_, rfl⟩
  rw [hRES] at KL hld
  obtain ⟨S0, b0⟩ := RES
  obtain ⟨q, hq, hq1, hq2⟩ := Sv.solve_ends (us := us) hld.inv hld.lev (by have := hld.list; rw [KI.2.2.2.2.1] at this; simp at this ⊢; omega) (by rw [hld.used, KI.2.2.2.2.2.1]; decide) (by rw [hld.bump, KI.2.2.2.2.2.2]; decide) (by rw [hld.many, KI.2.2.1]) (by rw [hld.limit, KI.2.2.2.1]) hra hul
  have HOK := Lib.hid hld.inv.ok
  have HUS : Hid (S0.used < 4611686018427387904) := by show _ < _; rw [hld.used, KI.2.2.2.2.2.1]; decide
  obtain ⟨SE, re⟩ := q
  have HQ := Lib.hid (Sv.solveN_W hq)
  have HMO := Lib.hid hq1
  have hcl : SE.core.length < 17592186044416 := by have : SE.core.length ≤ us.length := hq2; omega
  clear h hb hra hcap hul KI hm hld hRES hq hq1 hq2 hlr hl
  go_enter Try.func4, Try.ntmps4
  go_upto_region 1 with fail
  clear hw1
  go_wp2_with fail
  refine KAL.out.mono ?_
  clear KAL
  rintro e w2 ⟨rfl, hf2⟩
  have HF2 := Lib.hid hf2
  clear hf2
  have c0 := HF2.out.cellS HC0.out
  have c1 := HF2.out.cellS HC1.out
  simp at c0 c1
  have KL1 := Lib.hid (KL.out w2 HF2.out)
  go_upto_region 3 with fail
  go_wp2_with fail
  refine KL1.out.mono ?_
  clear KL1 c0 c1
  rintro e w3 ⟨L1, rfl, h1⟩
  have H1 := Lib.hid h1
  have HF3 := Lib.hid (HF2.out.then_ h1.fr)
  clear h1
  have c0 := HF3.out.cellS HC0.out
  have c1 := HF3.out.cellS HC1.out
  simp at c0 c1
  have KL2 := Lib.hid (KL.out w3 HF3.out)
  go_upto_region 4 with fail
  go_wp2_with fail
  refine KL2.out.mono ?_
  clear KL2 KL c0 c1
  rintro e w4 ⟨L2, rfl, h2⟩
  have HF4 := Lib.hid (HF3.out.then_ h2.fr)
  have H2 := Lib.hid h2
  have H14 := Lib.hid (H1.out.seal.keep h2.fr)
  clear h2
  have KS1 := Lib.hid (solve_calls false (fun h => by cases h) w4 (L1.seal w3) S0 H14.out.sv HOK.out B d us ⟨HB.out.keep HF4.out, fun h0 k hk => H14.out.nw k (Nat.lt_of_lt_of_le (HBK.out k hk h0) HF2.out.size)⟩ HRA.out HCAP.out HUL.out 200 _ _ _ HUS.out HQ.out)
  have KS1 : Hid (Calls Try.prog 9 #[.pointer (some ⟨L1.a, 0, none⟩), .int .i64 200, .slice B us.length d] w4 (SrP (fun S' r => (S', r) = (SE, re)) (L1.seal w3) w4)) := KS1
  go_upto_region 5 with fail
  go_wp2_with fail
  refine KS1.out.mono ?_
  clear KS1
  rintro e w5 ⟨S1, r1, hq1, ho1, rfl, M1, h15, he1, hf5⟩
  simp only [Prod.mk.injEq] at hq1
  obtain ⟨q1, q2⟩ := hq1
  rw [q1] at h15
  rw [q2]
  have ha1 : M1.a = L1.a := he1.1
  have HF5 : Hid (Fr [] w1 w5) := HF4.out.trans hf5 (fun k hk => .inr (by
    obtain ⟨k1, k2⟩ := SvL.mem_own.1 hk
    by_cases hlt : k < w2.heap.size
    · exact absurd k2 (H14.out.nw k hlt)
    · have := HF2.out.size; omega))
  have hl2 : ∀ k, k < w3.heap.size → ((L2.seal w4).lab k).1 ≠ (L2.seal w4).id := fun k hk => by
    rw [SvL.seal_old (Nat.lt_of_lt_of_le hk H2.out.fr.size)]
    exact H2.out.nw k hk
  have h25 : SvAt w5 (L2.seal w4) S0 := H2.out.sv.seal.fr hf5 (fun k hk _ => by
    obtain ⟨k1, k2⟩ := SvL.mem_own.1 hk
    by_cases hlt : k < w3.heap.size
    · exact hl2 k hlt
    · exact absurd k2 (SvL.seal_new (by omega)))
  have HL2 := Lib.hid hl2
  have H15 := Lib.hid h15
  have HE1 := Lib.hid he1
  have KS2 := Lib.hid (solve_calls false (fun h => by cases h) w5 (L2.seal w4) S0 h25 HOK.out B d us ⟨HB.out.keep HF5.out, fun h0 k hk => hl2 k (Nat.lt_of_lt_of_le (HBK.out k hk h0) HF3.out.size)⟩ HRA.out HCAP.out HUL.out 200 _ _ _ HUS.out HQ.out)
  have KS2 : Hid (Calls Try.prog 9 #[.pointer (some ⟨L2.a, 0, none⟩), .int .i64 200, .slice B us.length d] w5 (SrP (fun S' r => (S', r) = (SE, re)) (L2.seal w4) w5)) := KS2
  clear q1 q2 ho1 h15 he1 hf5 hl2 h25
  go_wp2_with fail
  refine KS2.out.mono ?_
  clear KS2
  rintro e w6 ⟨S2, r2, hq2, ho2, rfl, M2, h26, he2, hf6⟩
  simp only [Prod.mk.injEq] at hq2
  obtain ⟨q1, q2⟩ := hq2
  rw [q1] at h26
  rw [q2]
  have ha2 : M2.a = L2.a := he2.1
  have HF6 : Hid (Fr [] w1 w6) := HF5.out.trans hf6 (fun k hk => .inr (by
    obtain ⟨k1, k2⟩ := SvL.mem_own.1 hk
    by_cases hlt : k < w3.heap.size
    · exact absurd k2 (HL2.out k hlt)
    · have := HF3.out.size; omega))
  have H16 : Hid (SvAt w6 M1 SE) := H15.out.fr hf6 (fun k hk _ e => by
    obtain ⟨k1, k2⟩ := SvL.mem_own.1 hk
    have k3 : ¬ k < w3.heap.size := fun hlt => HL2.out k hlt k2
    have k4 : k < w4.heap.size := Classical.byContradiction fun hlt => SvL.seal_new (by omega) k2
    exact SvL.seal_new (by omega) (HE1.out.2.2 k k4 (e.trans HE1.out.2.1)))
  have H26 := Lib.hid h26
  clear q1 q2 ho2 h26 he2 hf6
  have KVA : Hid (Calls Try.prog 12 #[.pointer (some ⟨L1.a, 0, none⟩)] w6 fun e w' => e = .returned (.int .i64 SE.vars) ∧ w6 = w') := by
    have := vars_calls w6 M1 SE H16.out
    rw [ha1] at this
    exact this
  have KV1 : Hid (∀ v : Int, Calls Try.prog 13 #[.pointer (some ⟨L1.a, 0, none⟩), .int .i64 v] w6 fun e w' => e = .returned (.bool (SE.valB v)) ∧ w6 = w') := fun v => by
    have := value_calls w6 M1 SE H16.out HMO.out v
    rw [ha1] at this
    exact this
  have KV2 : Hid (∀ v : Int, Calls Try.prog 13 #[.pointer (some ⟨L2.a, 0, none⟩), .int .i64 v] w6 fun e w' => e = .returned (.bool (SE.valB v)) ∧ w6 = w') := fun v => by
    have := value_calls w6 M2 SE H26.out HMO.out v
    rw [ha2] at this
    exact this
  obtain ⟨V, hV⟩ : ∃ V, SE.vars = V := ⟨_, rfl⟩
  rw [hV] at KVA
  clear hV
  go_upto_region 7 with fail
  go_wp2_with fail
  go_loopg [11] V (fun g x11 wr => ∃ k : Nat, k + g = V ∧ x11 = .int .i64 ((k : Int) + 1) ∧ w6 = wr)
  case atStart => exact ⟨0, by omega, rfl, rfl⟩
  case round =>
    obtain ⟨k, hk, rfl, rfl⟩ := hrel
    have HKK := Lib.hid hk
    have hkn : k ≤ V := by omega
    clear hk
    by_cases hlt : k < V
    · have hlt' : (k : Int) + 1 ≤ (V : Int) := by omega
      by_cases h3 : (k : Int) + 1 ≤ 300
      · obtain ⟨bv, hbv⟩ : ∃ bv, SE.valB ((k : Int) + 1) = bv := ⟨_, rfl⟩
        have KA := KV1.out ((k : Int) + 1)
        have KB := KV2.out ((k : Int) + 1)
        rw [hbv] at KA KB
        have KA := Lib.hid KA
        have KB := Lib.hid KB
        have hne : (bv != bv) = false := by simp
        clear hbv
        go_wp2_with fail
        refine KVA.out.mono ?_
        rintro e wj ⟨rfl, rfl⟩
        go_wp2_with fail
        refine KA.out.mono ?_
        rintro e wj ⟨rfl, rfl⟩
        go_wp2_with fail
        refine KB.out.mono ?_
        rintro e wj ⟨rfl, rfl⟩
        go_wp2_with fail
        go_roundg (gk - 1)
        case measure => have := HKK.out; omega
        case rel => exact ⟨k + 1, by have := HKK.out; omega, by go_num, rfl⟩
      · go_wp2_with fail
        refine KVA.out.mono ?_
        rintro e wj ⟨rfl, rfl⟩
        have KC1 : Hid (Calls Try.prog 10 #[.pointer (some ⟨L1.a, 0, none⟩)] w6 fun e w' => ∃ A' c', e = .returned (.slice A' SE.core.length c') ∧ Ints w' A' c' SE.core ∧ (∀ k, k ∈ blks A' → w6.heap.size ≤ k) ∧ Fr [] w6 w') := by
          have := core_calls w6 M1 SE H16.out hcl
          rw [ha1] at this
          exact this
        go_upto_region 11 with fail
        go_wp2_with fail
        refine KC1.out.mono ?_
        clear KC1
        rintro e w7 ⟨P1, p1, rfl, hi1, hn1, hf7⟩
        have HI1 := Lib.hid hi1
        have HF7 := Lib.hid hf7
        clear hi1 hn1 hf7
        have KC2 : Hid (Calls Try.prog 10 #[.pointer (some ⟨L2.a, 0, none⟩)] w7 fun e w' => ∃ A' c', e = .returned (.slice A' SE.core.length c') ∧ Ints w' A' c' SE.core ∧ (∀ k, k ∈ blks A' → w7.heap.size ≤ k) ∧ Fr [] w7 w') := by
          have := core_calls w7 M2 SE (H26.out.keep HF7.out) hcl
          rw [ha2] at this
          exact this
        go_wp2_with fail
        refine KC2.out.mono ?_
        clear KC2
        rintro e w8 ⟨P2, p2, rfl, hi2, hn2, hf8⟩
        have R1 := Lib.hid (HI1.out.rd.keep hf8)
        have R2 := Lib.hid hi2.rd
        have HF8 := Lib.hid (HF7.out.then_ hf8)
        clear hi2 hn2 hf8 HI1 HF7
        have hne0 : ((SE.core.length : Int) != (SE.core.length : Int)) = false := by simp
        obtain ⟨cl, hcle⟩ : ∃ cl, SE.core.length = cl := ⟨_, rfl⟩
        have HCLE := Lib.hid hcle
        rw [hcle] at hcl hne0 ⊢
        clear hcle
        go_upto_region 14 with fail
        clear hne0
        go_wp2_with fail
        go_loopg [14] cl (fun g x14 wr => ∃ k : Nat, k + g = cl ∧ x14 = .int .i64 k ∧ Fr [] w8 wr)
        case atStart => exact ⟨0, by omega, rfl, Fr.refl _ _⟩
        case round =>
          obtain ⟨k2, hk2, rfl, hfr⟩ := hrel
          have HK := Lib.hid hk2
          have HFR := Lib.hid hfr
          have hkn2 : k2 ≤ cl := by omega
          clear hk2 hfr
          by_cases hlt2 : k2 < cl
          · obtain ⟨g1, o1, hA1, hx1⟩ := R1.out (by rw [HCLE.out]; omega)
            obtain ⟨g2, o2, hA2, hx2⟩ := R2.out (by rw [HCLE.out]; omega)
            have cx := HFR.out.cellS (hx1 k2 (by rw [HCLE.out]; exact hlt2))
            have cx' := HFR.out.cellS (hx2 k2 (by rw [HCLE.out]; exact hlt2))
            obtain ⟨x, hx⟩ : ∃ x, SE.core[k2]! = x := ⟨_, rfl⟩
            rw [hx] at cx cx'
            subst hA1 hA2
            clear hx hx1 hx2
            have e1 := Ext.cell cx
            have e2 := Ext.cell cx'
            have hne : (x != x) = false := by simp
            go_wp2_with fail
            refine wp_region_ext (by kernel_rfl) (by kernel_rfl) ?_
            repeat (go_big_quiet_step (fail))
            refine wpQuiet_nil ?_
            rintro w9 ⟨u2, hu2⟩
            have HF_w9 : Hid (Fr [] wr w9) := hu2 ▸ u2.fr
            clear hu2 u2
            clear cx cx' e1 e2
            go_wp2_with fail
            go_roundg (gk - 1)
            case measure => have := HK.out; omega
            case rel => exact ⟨k2 + 1, by have := HK.out; omega, by go_num, HFR.out.then_ HF_w9.out⟩
          · have hre : (re == re) = true := by simp
            have hus : ((SE.used : Int) == (SE.used : Int)) = true := by simp
            have KU1 : Hid (Calls Try.prog 14 #[.pointer (some ⟨L1.a, 0, none⟩)] wr fun e w' => e = .returned (.int .i64 SE.used) ∧ wr = w') := by
              have := used_calls wr M1 SE (H16.out.keep (HF8.out.then_ HFR.out))
              rw [ha1] at this
              exact this
            have KU2 : Hid (Calls Try.prog 14 #[.pointer (some ⟨L2.a, 0, none⟩)] wr fun e w' => e = .returned (.int .i64 SE.used) ∧ wr = w') := by
              have := used_calls wr M2 SE (H26.out.keep (HF8.out.then_ HFR.out))
              rw [ha2] at this
              exact this
            clear HK
            go_wp2_with fail
            refine KU1.out.mono ?_
            rintro e w9 ⟨rfl, rfl⟩
            go_wp2_with fail
            refine KU2.out.mono ?_
            rintro e w9 ⟨rfl, rfl⟩
            go_wp2_with fail
            go_ret
            exact ⟨rfl, HF1.out.then_ (HF6.out.then_ (HF8.out.then_ HFR.out))⟩
    · have hlt' : ¬ (k : Int) + 1 ≤ (V : Int) := by omega
      go_wp2_with fail
      refine KVA.out.mono ?_
      rintro e wj ⟨rfl, rfl⟩
      have KC1 : Hid (Calls Try.prog 10 #[.pointer (some ⟨L1.a, 0, none⟩)] w6 fun e w' => ∃ A' c', e = .returned (.slice A' SE.core.length c') ∧ Ints w' A' c' SE.core ∧ (∀ k, k ∈ blks A' → w6.heap.size ≤ k) ∧ Fr [] w6 w') := by
        have := core_calls w6 M1 SE H16.out hcl
        rw [ha1] at this
        exact this
      go_upto_region 11 with fail
      go_wp2_with fail
      refine KC1.out.mono ?_
      clear KC1
      rintro e w7 ⟨P1, p1, rfl, hi1, hn1, hf7⟩
      have HI1 := Lib.hid hi1
      have HF7 := Lib.hid hf7
      clear hi1 hn1 hf7
      have KC2 : Hid (Calls Try.prog 10 #[.pointer (some ⟨L2.a, 0, none⟩)] w7 fun e w' => ∃ A' c', e = .returned (.slice A' SE.core.length c') ∧ Ints w' A' c' SE.core ∧ (∀ k, k ∈ blks A' → w7.heap.size ≤ k) ∧ Fr [] w7 w') := by
        have := core_calls w7 M2 SE (H26.out.keep HF7.out) hcl
        rw [ha2] at this
        exact this
      go_wp2_with fail
      refine KC2.out.mono ?_
      clear KC2
      rintro e w8 ⟨P2, p2, rfl, hi2, hn2, hf8⟩
      have R1 := Lib.hid (HI1.out.rd.keep hf8)
      have R2 := Lib.hid hi2.rd
      have HF8 := Lib.hid (HF7.out.then_ hf8)
      clear hi2 hn2 hf8 HI1 HF7
      have hne0 : ((SE.core.length : Int) != (SE.core.length : Int)) = false := by simp
      obtain ⟨cl, hcle⟩ : ∃ cl, SE.core.length = cl := ⟨_, rfl⟩
      have HCLE := Lib.hid hcle
      rw [hcle] at hcl hne0 ⊢
      clear hcle
      go_upto_region 14 with fail
      clear hne0
      go_wp2_with fail
      go_loopg [14] cl (fun g x14 wr => ∃ k : Nat, k + g = cl ∧ x14 = .int .i64 k ∧ Fr [] w8 wr)
      case atStart => exact ⟨0, by omega, rfl, Fr.refl _ _⟩
      case round =>
        obtain ⟨k2, hk2, rfl, hfr⟩ := hrel
        have HK := Lib.hid hk2
        have HFR := Lib.hid hfr
        have hkn2 : k2 ≤ cl := by omega
        clear hk2 hfr
        by_cases hlt2 : k2 < cl
        · obtain ⟨g1, o1, hA1, hx1⟩ := R1.out (by rw [HCLE.out]; omega)
          obtain ⟨g2, o2, hA2, hx2⟩ := R2.out (by rw [HCLE.out]; omega)
          have cx := HFR.out.cellS (hx1 k2 (by rw [HCLE.out]; exact hlt2))
          have cx' := HFR.out.cellS (hx2 k2 (by rw [HCLE.out]; exact hlt2))
          obtain ⟨x, hx⟩ : ∃ x, SE.core[k2]! = x := ⟨_, rfl⟩
          rw [hx] at cx cx'
          subst hA1 hA2
          clear hx hx1 hx2
          have e1 := Ext.cell cx
          have e2 := Ext.cell cx'
          have hne : (x != x) = false := by simp
          go_wp2_with fail
          refine wp_region_ext (by kernel_rfl) (by kernel_rfl) ?_
          repeat (go_big_quiet_step (fail))
          refine wpQuiet_nil ?_
          rintro w9 ⟨u2, hu2⟩
          have HF_w9 : Hid (Fr [] wr w9) := hu2 ▸ u2.fr
          clear hu2 u2
          clear cx cx' e1 e2
          go_wp2_with fail
          go_roundg (gk - 1)
          case measure => have := HK.out; omega
          case rel => exact ⟨k2 + 1, by have := HK.out; omega, by go_num, HFR.out.then_ HF_w9.out⟩
        · have hre : (re == re) = true := by simp
          have hus : ((SE.used : Int) == (SE.used : Int)) = true := by simp
          have KU1 : Hid (Calls Try.prog 14 #[.pointer (some ⟨L1.a, 0, none⟩)] wr fun e w' => e = .returned (.int .i64 SE.used) ∧ wr = w') := by
            have := used_calls wr M1 SE (H16.out.keep (HF8.out.then_ HFR.out))
            rw [ha1] at this
            exact this
          have KU2 : Hid (Calls Try.prog 14 #[.pointer (some ⟨L2.a, 0, none⟩)] wr fun e w' => e = .returned (.int .i64 SE.used) ∧ wr = w') := by
            have := used_calls wr M2 SE (H26.out.keep (HF8.out.then_ HFR.out))
            rw [ha2] at this
            exact this
          clear HK
          go_wp2_with fail
          refine KU1.out.mono ?_
          rintro e w9 ⟨rfl, rfl⟩
          go_wp2_with fail
          refine KU2.out.mono ?_
          rintro e w9 ⟨rfl, rfl⟩
          go_wp2_with fail
          go_ret
          exact ⟨rfl, HF1.out.then_ (HF6.out.then_ (HF8.out.then_ HFR.out))⟩

end Go.Proofs.Ytdpigdlknmcmlaa
