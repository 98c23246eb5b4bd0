/- Parts of a proof. -/
import Derived.Test.YtpjbaobgnhjgoaaGreatGAO
set_option linter.unusedVariables false
set_option linter.unusedSimpArgs false
namespace Go.Proofs.YtpjbaobgnhjgoaaGreat
open Go.RowKit
def ybl (A : Option Addr) (hs : List Ls) : List Nat := ah A ++ hs.flatMap fun x => ah x.A
theorem NwLs.marks {w : World} {B : Nat} {A : Option Addr} {c : Nat} {hs : List Ls} (k : NwLs w B A c hs) : ∀ j ∈ ybl A hs, B ≤ j ∧ j < w.heap.size := fun j hj => by
 rcases aj.1 hj with h1 | h1
 ·refine ⟨k.new j h1, ?_⟩
  rcases k.yX with ⟨h2, _, _⟩ | ⟨g, h2, _⟩
  ·rw [h2] at h1; simp [ah] at h1
  ·rw [h2] at h1
   simp [ah] at h1
   subst h1
   have := k.row
   rw [h2] at this
   exact (this.lt j rfl).2
 ·obtain ⟨x, hx, h2⟩ := List.mem_flatMap.1 h1
  exact ⟨(k.each x hx).2.2.2 j h2, (k.each x hx).1.lt j h2⟩
theorem NwLs.rdl {w : World} {B : Nat} {A : Option Addr} {c : Nat} {hs : List Ls} (k : NwLs w B A c hs) : CC w A hs := by
 refine ⟨fun h0 => ?_, fun j hj => k.okl _ (bw hj)⟩
 rcases k.yX with ⟨_, h2, _⟩ | ⟨g, h2, h3⟩
 ·rw [h2] at h0; simp at h0
 ·exact ⟨g, 0, h2, fun j hj => by rw [cZ]; exact h3 j hj⟩
theorem ua {w0 w w' : World} {L : aH} {S : Sv} (h : Own w0 w L S) (hf : Fr [] w w') {A : Option Addr} {c : Nat} {hs : List Ls} (hn : NwLs w' w.heap.size A c hs) {LL : List (List Int)} (hm : hs.map (·.l) = LL)
  {vars V : Nat} (hk : S.gE vars 0 V) (hv : vars ≤ 262143) (oU : ∀ l ∈ LL, CD vars l) (hl : V + LL.length ≤ 8388608) :
  Calls Tryz.prog 70 #[.pointer (some ⟨L.a, 0, none⟩), .slice A hs.length c] w' fun e w2 => ∃ L2, e = .returned (.int .i64 0) ∧ L2.a = L.a ∧ Own w0 w2 L2 (S.dQ LL) := by
 have hx := h.mark hf hn.marks
 have ha : (L.seal w).a = L.a := rfl
 have hc := An w' (L.seal w) S hx hk A c hs hn.rdl (fun j hj => aW _ hj) (fun x NW j hj => List.mem_append_right _ (List.mem_flatMap.2 ⟨x, NW, hj⟩))
  (fun x NW => (oU x.l (hm ▸ bE.2 ⟨x, NW, rfl⟩)).chk hv) (by rw [← hm, ax] at hl; exact hl)
 rw [hm] at hc
 exact hc.mono fun e w2 ⟨h1, L2, h2, h3, _⟩ => ⟨L2, h1, h2, h3.own⟩
theorem om {w : World} {g : Nat} {H : Qh} {q : Qn} (h : At w g 40 (tI H q)) :
  w.cell? ⟨g, 0, none⟩ = some (.int .i64 q.C.mx) ∧ w.cell? ⟨g, 1, none⟩ = some (.slice H.H.iA q.C.ins.length H.H.iC) ∧ w.cell? ⟨g, 2, none⟩ = some (.slice H.H.lA q.C.aX.length H.H.lC) ∧ w.cell? ⟨g, 3, none⟩ = some (.slice H.H.oA q.C.outs.length H.H.oC) ∧
  w.cell? ⟨g, 4, none⟩ = some (.slice H.H.bA q.C.aO.length H.H.bC) ∧ w.cell? ⟨g, 5, none⟩ = some (.slice H.H.vA q.C.aN.length H.H.vC) ∧ w.cell? ⟨g, 6, none⟩ = some (.slice H.H.gA q.C.au.length H.H.gC) ∧ w.cell? ⟨g, 7, none⟩ = some (.slice H.H.nA q.C.bO.length H.H.nC) ∧
  w.cell? ⟨g, 8, none⟩ = some (.slice H.aA q.am.length H.aC) ∧ w.cell? ⟨g, 9, none⟩ = some (.slice H.lA q.ls.length H.lC) ∧ w.cell? ⟨g, 10, none⟩ = some (.slice H.kA q.ks.length H.kC) ∧
  w.cell? ⟨g, 11, none⟩ = some (.int .i64 q.bad) ∧ w.cell? ⟨g, 12, none⟩ = some (.int .i64 q.dep) ∧ w.cell? ⟨g, 13, none⟩ = some (.int .i64 q.gT) := by
 refine ⟨?_, ?_, ?_, ?_, ?_, ?_, ?_, ?_, ?_, ?_, ?_, ?_, ?_, ?_⟩ <;> (rw [h.cell]; rfl)
theorem Own.Ww {w w1 w2 : World} {L : aH} {S : Sv} (h : Own w1 w2 L S) (hf : Fr [] w w1) : Own w w2 L S := h.old hf
set_option maxRecDepth 100000 in
set_option maxHeartbeats 8000000 in
theorem vI (w : World) (H : Qh) (q : Qn) (h : u5 w H q) (hu : od q = 0) (hl : q.ls = []) (hk : q.ks = []) (n : Nat) (hn : 1 ≤ n ∧ n ≤ 80) (hb : eH q.C n ≤ 262143) :
  Calls Tryz.prog 38 #[qt H q, .int .i64 (n : Int), .bool true] w fun e w' => ∃ L, e = .returned (.tuple #[.pointer (some ⟨L.a, 0, none⟩), .int .i64 0]) ∧ Own w w' L (zb q.C (q.am.map (·.l)) n n) := by
 obtain ⟨hv, zu, uq⟩ := xH hu
 obtain ⟨w1, ep⟩ : ∃ W, w.alloc (.cells (tI H q) 40) = W := ⟨_, rfl⟩
 have cE : Fr [] w w1 := ep ▸ aP _ _
 have dv := aa cE
 have E4 : Hid (At w1 w.heap.size 40 (tI H q)) := ep ▸ At.new _ _ _
 have KC := kY w1 H q (h.keep cE)
 rw [hu] at KC
 have KC := aa KC
 have h0 := p8 hv.m0 (f := (n : Int)) (by omega)
 have hnv := Kr h0 hb
 have KV := aa (fun W (hW : Fr [] w1 W) => qQ W H.H q.C (h.c.keep (cE.ag hW)) hv n (by omega))
 have KN := aa (fun W => OI W (eH q.C n) (by omega) (by omega))
 have KFI := aa (fun W (hW : Fr [] w1 W) => xJ W H.H q.C (h.c.keep (cE.ag hW)) hv)
 have KLI := aa (fun W (hW : Fr [] w1 W) (f : Int) hf => zN W H.H q.C (h.c.keep (cE.ag hW)) hv f hf)
 have KFR := aa (fun W (hW : Fr [] w1 W) (f : Nat) (hf : f < n) => xI W H q (h.keep (cE.ag hW)) hv hl hk (uq.afa hv.m1) (by have := uq.1; rwa [ax] at this) f (by omega) (by have := fU hv.m0 (f := (f : Int)) (g := (n : Int)) (by omega); omega))
 have vt := fun k (hk : k ≤ n) => BV hv uq hk hn hb
 have Ql := fun k => pW hv uq.1 k
 have Jx : (Sv.new (eH q.C n)).vars ≤ 262143 := by omega
 have LA0 : Hid (∀ (W0 W W' : World) L A c hs, Own W0 W L (Sv.new (eH q.C n)) → Fr [] W W' → NwLs W' W.heap.size A c hs → hs.map (·.l) = uB q.C q.C.aX.length → Calls Tryz.prog 70 #[.pointer (some ⟨L.a, 0, none⟩), .slice A hs.length c] W' fun e w2 => ∃ L2, e = .returned (.int .i64 0) ∧ L2.a = L.a ∧ Own W0 w2 L2 (zb q.C (q.am.map (·.l)) n 0)) := fun W0 W W' L A c hs g1 g2 g3 g4 => by
  have := ua g1 g2 g3 g4 (Sv.gE.new _) Jx (fun l hl => by rw [hnv]; exact (Mw hv l hl).mono (fU hv.m0 (by omega))) (by have := uA q.C q.C.aX.length; have := hv.l; omega)
  have e : pX q.C (q.am.map (·.l)) 0 = uB q.C q.C.aX.length := by unfold pX; simp
  unfold zb
  rw [e]
  exact this
 have LA1 : Hid (∀ (W0 W W' : World) L A c hs (k : Nat), k < n → 0 < k → Own W0 W L (zb q.C (q.am.map (·.l)) n k) → Fr [] W W' → NwLs W' W.heap.size A c hs → hs.map (·.l) = mJ q.C ((k : Int) - 1) q.C.aX.length → Calls Tryz.prog 70 #[.pointer (some ⟨L.a, 0, none⟩), .slice A hs.length c] W' fun e w2 => ∃ L2, e = .returned (.int .i64 0) ∧ L2.a = L.a ∧ Own W0 w2 L2 ((zb q.C (q.am.map (·.l)) n k).dQ (if k = 0 then [] else mJ q.C ((k : Int) - 1) q.C.aX.length))) := fun W0 W W' L A c hs k hk h0 g1 g2 g3 g4 => by
  have h5 := vt k (by omega)
  rw [if_neg (by omega)]
  exact ua g1 g2 g3 g4 h5 Jx (fun l hl => by rw [hnv]; exact (Dj hv (f := (k : Int) - 1) (by omega) l hl).mono (fU hv.m0 (by omega))) (by have := Ql k; have := hv.l; rw [pB]; omega)
 have LA2 : Hid (∀ (W0 W W' : World) L A c hs (k : Nat), k < n → Own W0 W L ((zb q.C (q.am.map (·.l)) n k).dQ (if k = 0 then [] else mJ q.C ((k : Int) - 1) q.C.aX.length)) → Fr [] W W' → NwLs W' W.heap.size A c hs → hs.map (·.l) = lz q.C (q.am.map (·.l)) k → Calls Tryz.prog 70 #[.pointer (some ⟨L.a, 0, none⟩), .slice A hs.length c] W' fun e w2 => ∃ L2, e = .returned (.int .i64 0) ∧ L2.a = L.a ∧ Own W0 w2 L2 (zb q.C (q.am.map (·.l)) n (k + 1))) := fun W0 W W' L A c hs k hk g1 g2 g3 g4 => by
  have h5 := vt k (by omega)
  have h6 : ∀ l ∈ (if k = 0 then [] else mJ q.C ((k : Int) - 1) q.C.aX.length), CD (eH q.C n) l := fun l hl => by
   split at hl
   ·cases hl
   ·exact (Dj hv (f := (k : Int) - 1) (by omega) l hl).mono (fU hv.m0 (by omega))
  have h7 : (if k = 0 then [] else mJ q.C ((k : Int) - 1) q.C.aX.length).length ≤ 128 := by
   split
   ·simp
   ·rw [pB]; have := hv.l; omega
  have h8 := h5.dQ (by have := Ql k; omega) (fun c hc => (h6 c hc).ra hb)
  rw [MO]
  exact ua g1 g2 g3 g4 h8 Jx (fun l hl => by rw [hnv]; exact (Bu hv uq (f := (k : Int)) (by omega) l hl).mono (fU hv.m0 (by omega))) (by have := Ql k; have := uC hv uq.1 (k : Int); omega)
 obtain ⟨BS, hBS⟩ : ∃ BS : Nat → Sv, zb q.C (q.am.map (·.l)) n = BS := ⟨_, rfl⟩
 obtain ⟨BT, hBT⟩ : ∃ BT : Nat → Sv, (fun k => (zb q.C (q.am.map (·.l)) n k).dQ (if k = 0 then [] else mJ q.C ((k : Int) - 1) q.C.aX.length)) = BT := ⟨_, rfl⟩
 have Ux : ∀ k : Nat, (zb q.C (q.am.map (·.l)) n k).dQ (if k = 0 then [] else mJ q.C ((k : Int) - 1) q.C.aX.length) = BT k := fun k => congrFun hBT k
 have HBZ : Hid (BT 0 = BS 0) := by
  show _ = _
  rw [← Ux 0, ← hBS]
  rfl
 simp only [Ux] at LA1 LA2
 simp only [hBS] at LA0 LA1 LA2 ⊢
 obtain ⟨ba, JK⟩ : ∃ ba, eH q.C n = ba := ⟨_, rfl⟩
 simp only [JK] at KV KN LA0
 obtain ⟨SN, hSN⟩ : ∃ SN, Sv.new ba = SN := ⟨_, rfl⟩
 simp only [hSN] at KN LA0
 have d1 : decide (262144 ≤ ba) = false := decide_eq_false (by omega)
 obtain ⟨jZ, se⟩ := hn
 have d2 : decide ((n : Int) < 1) = false := decide_eq_false (by omega)
 have d3 : decide ((80 : Int) < (n : Int)) = false := decide_eq_false (by omega)
 clear h hu hv zu uq cE h0 hnv vt Ql Jx hBS hBT Ux hb JK hSN
 obtain ⟨⟨mx, ins, aX, outs, aO, aN, au, bO⟩, am, ls, ks, bad, dep, gT⟩ := q
 obtain ⟨⟨iA, iC, lA, lC, oA, oC, bA, bC, vA, vC, gA, gC, nA, nC⟩, aA, aC, mA, mC, kA, kC⟩ := H
 try simp only at hl hk
 subst hl hk
 have HQ := fun W (hW : Fr [] w1 W) => om (E4.out.keep hW)
 simp only [qt, tI, dn, gH, List.length_nil] at *
 have HQ := aa HQ
 obtain ⟨q0, q1, q2, q3, q4, q5, q6, q7, q8, q9, lT, mG, mc, mF⟩ := HQ.out w1 (Fr.refl _ _)
 go_enter Tryz.func38, Tryz.ntmps38
 go_wp2_with fail
 refine KC.out.mono ?_
 rintro e w2 ⟨rfl, cd⟩
 have cJ := aa cd
 clear cd q0 q1 q2 q3 q4 q5 q6 q7 q8 q9 lT mG mc mF KC ep
 obtain ⟨q0, q1, q2, q3, q4, q5, q6, q7, q8, q9, lT, mG, mc, mF⟩ := HQ.out w2 cJ.out
 go_wp2_with fail
 refine (KV.out w2 cJ.out).mono ?_
 rintro e w3 ⟨rfl, cY⟩
 have cR := aa (cJ.out.ag cY)
 clear cY q0 q1 q2 q3 q4 q5 q6 q7 q8 q9 lT mG mc mF cJ
 obtain ⟨q0, q1, q2, q3, q4, q5, q6, q7, q8, q9, lT, mG, mc, mF⟩ := HQ.out w3 cR.out
 go_wp2_with fail
 refine (KV.out w3 cR.out).mono ?_
 rintro e w4 ⟨rfl, eF⟩
 have gS := aa (cR.out.ag eF)
 clear eF q0 q1 q2 q3 q4 q5 q6 q7 q8 q9 lT mG mc mF cR
 go_wp2_with fail
 refine (KN.out w4).mono ?_
 rintro e w5 ⟨L5, rfl, h5⟩
 have Jf := aa (h5.Ww gS.out)
 obtain ⟨a, ha⟩ : ∃ a, L5.a = a := ⟨_, rfl⟩
 rw [ha]
 have Z8 := aa ha
 clear h5 ha gS
 obtain ⟨q0, q1, q2, q3, q4, q5, q6, q7, q8, q9, lT, mG, mc, mF⟩ := HQ.out w5 Jf.out.fr
 go_wp2_with fail
 refine (KFI.out w5 Jf.out.fr).mono ?_
 rintro e w6 ⟨A6, c6, DU, rfl, XT, RM, fZ⟩
 have Ze := LA0.out w1 w5 w6 L5 A6 c6 DU Jf.out fZ XT RM
 rw [Z8.out] at Ze
 have Ze := aa Ze
 clear XT RM fZ q0 q1 q2 q3 q4 q5 q6 q7 q8 q9 lT mG mc mF
 go_wp2_with fail
 refine Ze.out.mono ?_
 rintro e w7 ⟨L7, rfl, ha7, h7⟩
 have HA7 := aa ha7
 have vB := aa h7
 clear ha7 h7 Jf Z8 Ze
 go_wp2_with fail
 go_loopg [43] n (fun g x43 wr => ∃ (k : Nat) (L : aH), k + g = n ∧ x43 = .int .i64 k ∧ Hid (L.a = a) ∧ Hid (Own w1 wr L (BS k)))
 case atStart => exact ⟨0, L7, by omega, rfl, HA7, vB⟩
 case round =>
  clear HA7 vB
  obtain ⟨k, L, hk, rfl, HA, HO⟩ := hrel
  have HK := aa hk
  have j4 : k ≤ n := by omega
  clear hk
  by_cases bM : k < n
  ·have pI : (k : Int) < (n : Int) := by omega
   by_cases h0 : k = 0
   ·subst h0
    have HOb : Hid (Own w1 wr L (BT 0)) := by
     show Own _ _ _ _
     rw [HBZ.out]
     exact HO.out
    clear HO
    go_upto_region 16 with fail
    obtain ⟨q0, q1, q2, q3, q4, q5, q6, q7, q8, q9, lT, mG, mc, mF⟩ := HQ.out wr HOb.out.fr
    go_wp2_with fail
    refine (KFR.out wr HOb.out.fr 0 bM).mono ?_
    rintro e wb ⟨Ab, cb, hsb, rfl, FV, vP, Yn⟩
    have M9 := LA2.out w1 wr wb L Ab cb hsb 0 bM HOb.out Yn FV vP
    rw [HA.out] at M9
    have M9 := aa M9
    clear FV vP Yn q0 q1 q2 q3 q4 q5 q6 q7 q8 q9 lT mG mc mF
    go_wp2_with fail
    refine M9.out.mono ?_
    rintro e wc ⟨Lc, rfl, YJ, hc⟩
    have HAc := aa YJ
    have HOc := aa hc
    clear YJ hc M9
    go_wp2_with fail
    go_roundg (gk - 1)
    case measure => have := HK.out; omega
    case rel => exact ⟨0 + 1, Lc, by have := HK.out; omega, by go_num, HAc, HOc⟩
   ·have d4 : decide ((0 : Int) < (k : Int)) = true := decide_eq_true (by omega)
    have hw : IntKind.i64.wrap ((k : Int) - 1) = (k : Int) - 1 := IntWalk.i64_in _ (by omega)
    have hr : 0 ≤ (k : Int) - 1 ∧ (k : Int) - 1 ≤ 79 := by omega
    have h0p : 0 < k := by omega
    obtain ⟨q0, q1, q2, q3, q4, q5, q6, q7, q8, q9, lT, mG, mc, mF⟩ := HQ.out wr HO.out.fr
    go_upto_region 16 with fail
    refine (KLI.out wr HO.out.fr _ hr).mono ?_
    rintro e w8 ⟨A8, c8, hs8, rfl, hn8, hm8, kh⟩
    have Zd := LA1.out w1 wr w8 L A8 c8 hs8 k bM h0p HO.out kh hn8 hm8
    rw [HA.out] at Zd
    have Zd := aa Zd
    clear hn8 hm8 kh q0 q1 q2 q3 q4 q5 q6 q7 q8 q9 lT mG mc mF
    go_upto_region 16 with fail
    refine Zd.out.mono ?_
    rintro e w9 ⟨L9, rfl, ha9, h9⟩
    have Sy := aa ha9
    have Vf := aa h9
    clear ha9 h9 HO HA Zd hw d4
    go_upto_region 16 with fail
    obtain ⟨q0, q1, q2, q3, q4, q5, q6, q7, q8, q9, lT, mG, mc, mF⟩ := HQ.out w9 Vf.out.fr
    go_wp2_with fail
    refine (KFR.out w9 Vf.out.fr k bM).mono ?_
    rintro e wb ⟨Ab, cb, hsb, rfl, FV, vP, Yn⟩
    have M9 := LA2.out w1 w9 wb L9 Ab cb hsb k bM Vf.out Yn FV vP
    rw [Sy.out] at M9
    have M9 := aa M9
    clear FV vP Yn q0 q1 q2 q3 q4 q5 q6 q7 q8 q9 lT mG mc mF
    go_wp2_with fail
    refine M9.out.mono ?_
    rintro e wc ⟨Lc, rfl, YJ, hc⟩
    have HAc := aa YJ
    have HOc := aa hc
    clear YJ hc M9
    go_wp2_with fail
    go_roundg (gk - 1)
    case measure => have := HK.out; omega
    case rel => exact ⟨k + 1, Lc, by have := HK.out; omega, by go_num, HAc, HOc⟩
  ·obtain rfl : k = n := by omega
   have HF := aa (HO.out.old dv.out)
   clear HK
   go_wp2_with fail
   go_ret2
   exact ⟨L, by rw [HA.out]; rfl, HF.out⟩
end Go.Proofs.YtpjbaobgnhjgoaaGreat
