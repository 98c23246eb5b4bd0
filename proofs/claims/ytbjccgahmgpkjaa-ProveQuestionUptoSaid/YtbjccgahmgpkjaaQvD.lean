/- keep.Known walked. keep.Known walked: the walk. prove.Question walked. -/
import Derived.Test.YtbjccgahmgpkjaaQvC
namespace Go.Proofs.Ytbjccgahmgpkjaa
open Go.RowKit
set_option linter.unusedVariables false

/-- What is kept together: clauses, and what they rest on. -/
structure Kp where
  A : Option Addr
  c : Nat
  hs : List Ls
  T : Ls
instance : Inhabited Kp := ⟨⟨none, 0, [], default⟩⟩
def RdK (w : World) (A : Option Addr) (ks : List Kp) : Prop := (0 < ks.length → ∃ b o, A = some ⟨b, o, none⟩ ∧ ∀ j : Nat, j < ks.length →
  w.cell? ⟨b, o + j * 2, none⟩ = some (.slice (ks[j]!).A (ks[j]!).hs.length (ks[j]!).c) ∧ w.cell? ⟨b, o + j * 2 + 1, none⟩ = some ((ks[j]!).T.val)) ∧ ∀ j : Nat, j < ks.length → RdL w (ks[j]!).A (ks[j]!).hs ∧ OkL w (ks[j]!).T ∧ (ks[j]!).hs.length ≤ 1048576 ∧ ∀ m : Nat, m < (ks[j]!).hs.length → ((ks[j]!).hs[m]!).l.length ≤ 1048576
theorem RdK.keep {w w' : World} {A : Option Addr} {ks : List Kp} (k : RdK w A ks) (hf : Fr [] w w') : RdK w' A ks := by
  refine ⟨fun h0 => ?_, fun j hj => ⟨(k.2 j hj).1.keep hf, (k.2 j hj).2.1.keep hf, (k.2 j hj).2.2⟩⟩
  obtain ⟨b, o, hA, hx⟩ := k.1 h0
  exact ⟨b, o, hA, fun j hj => ⟨hf.cellS (hx j hj).1, hf.cellS (hx j hj).2⟩⟩
theorem RdK.one {w : World} {A : Option Addr} {ks : List Kp} (k : RdK w A ks) {j : Nat} (hj : j < ks.length) : ∃ b o B d hs B2 d2 l2, A = some ⟨b, o, none⟩ ∧ Hid (ks[j]! = ⟨B, d, hs, ⟨B2, d2, l2⟩⟩) ∧
    w.cell? ⟨b, o + j * 2, none⟩ = some (.slice B hs.length d) ∧ w.cell? ⟨b, o + j * 2 + 1, none⟩ = some (.slice B2 l2.length d2) ∧ RdL w B hs ∧ OkL w ⟨B2, d2, l2⟩ ∧ hs.length ≤ 1048576 ∧ ∀ m : Nat, m < hs.length → (hs[m]!).l.length ≤ 1048576 := by
  obtain ⟨b, o, hA, hx⟩ := k.1 (by omega)
  obtain ⟨h0, h1⟩ := hx j hj
  obtain ⟨k1, k2, k3, k4⟩ := k.2 j hj
  exact ⟨b, o, _, _, _, _, _, _, hA, rfl, h0, h1, k1, k2, k3, k4⟩

/-- How many clauses there are of which nothing is beyond what is assumed. -/
def kn1 (s : List Int) (k : Kp) : Nat := if k.T.l.any (lackB s) then 0 else k.hs.length
def kn (s : List Int) (ks : List Kp) : Nat := (ks.map (kn1 s)).sum
theorem kn_take (s : List Int) (ks : List Kp) (k : Nat) (hk : k < ks.length) : kn s (ks.take (k + 1)) = kn s (ks.take k) + kn1 s ks[k]! := by
  rw [take_snoc ks k hk, kn, List.map_append, List.sum_append, kn]
  simp
def KnP (s : List Int) (ks : List Kp) (w : World) (e : Ending) (w' : World) : Prop := ∃ A' c' hs, e = .returned (.slice A' hs.length c') ∧ OwLs w' w.heap.size A' c' hs ∧ hs.length ≤ kn s ks ∧ Fr [] w w'

end Go.Proofs.Ytbjccgahmgpkjaa
namespace Go.Proofs.Ytbjccgahmgpkjaa
open Go.RowKit
set_option linter.unusedVariables false

theorem own_at {w : World} {e t : TypeId} {size n c ob : Nat} {A : Option Addr} {vs : List Value} {cs : Array Value} (h : w.ownsRow 0 e size (.slice A n c) n vs) (hob : At w ob t cs) (hne : e ≠ t) : ob ∉ blks A := by
  intro hm
  rcases h.2 with ⟨h2, _⟩ | ⟨g, cap, cur, hv, _, hg, _⟩
  · simp only [Value.slice.injEq] at h2
    rw [h2.1] at hm
    simp [blks] at hm
  · simp only [Value.slice.injEq, true_and] at hv
    obtain ⟨rfl, rfl⟩ := hv
    simp [blks] at hm
    subst hm
    unfold At at hob
    rw [hg] at hob
    simp only [Option.some.injEq, Obj.cells.injEq] at hob
    exact hne hob.2.1

set_option maxRecDepth 100000 in
set_option maxHeartbeats 8000000 in
theorem known_calls2 (w : World) (A S : Option Addr) (c d : Nat) (ks : List Kp) (s : List Int) (h : RdK w A ks) (hl : ks.length ≤ 1048576) (hsr : Rd w S s) (hsa : Ra s) (hsl : s.length ≤ 1048576) (hk : kn s ks ≤ 1048576) :
    Calls Try.prog 34 #[.slice A ks.length c, .slice S s.length d] w (KnP s ks w) := by
  have HH := Lib.hid h
  have HSR := Lib.hid hsr
  have HSA := Lib.hid hsa
  have HKN := Lib.hid hk
  have HMON : Hid (∀ k : Nat, k < ks.length → kn s (ks.take k) + kn1 s ks[k]! ≤ 1048576) := fun k hk' => by
    rw [← kn_take s ks k hk']
    refine Nat.le_trans ?_ hk
    have e : kn s ks = kn s (ks.take (k + 1)) + kn s (ks.drop (k + 1)) := by
      rw [kn, kn, kn, ← List.sum_append, ← List.map_append, List.take_append_drop]
    omega
  have YES : Hid (∀ A' c' hs W, OwLs W w.heap.size A' c' hs → hs.length ≤ kn s (ks.take ks.length) → Fr [] w W → KnP s ks w (.returned (.slice A' hs.length c')) W) := fun A' c' hs W h1 h2 h3 => ⟨A', c', hs, rfl, h1, by rwa [List.take_length] at h2, h3⟩
  have KB := Lib.hid (fun W B e (xs : List Int) h1 h2 h3 h4 => beyond_calls W B S e d xs s h1 h2 h3 h4 hsa (by omega))
  have KH := Lib.hid khas_any
  have KC := Lib.hid clone_zero
  clear h hsr hsa hk
  go_enter Try.func34, Try.ntmps34
  go_wp2_with fail
  go_loopg [5, 12] ks.length (fun gk1 x5 x12 wr => ∃ (k : Nat) (A' : Option Addr) (c' : Nat) (hs : List Ls), k + gk1 = ks.length ∧ x5 = .slice A' hs.length c' ∧ x12 = .int .i64 k ∧ OwLs wr w.heap.size A' c' hs ∧ (∀ h ∈ hs, h.l.length ≤ 1048576) ∧ hs.length ≤ kn s (ks.take k) ∧ Fr [] w wr)
  case atStart => exact ⟨0, none, 0, [], by omega, rfl, rfl, OwLs.nil _ _, by simp, by simp, Fr.refl _ _⟩
  case round =>
    obtain ⟨k, A', c', hs, hk, rfl, rfl, ho, hsm, he, hf⟩ := hrel
    obtain ⟨gk0, hgk0⟩ : ∃ q, gk = q := ⟨_, rfl⟩
    subst hgk0
    have HK := Lib.hid hk
    have HO := Lib.hid ho
    have HE := Lib.hid he
    have HF := Lib.hid hf
    have HSM := Lib.hid hsm
    have hkn : k ≤ ks.length := by omega
    clear hk ho he hf hsm
    by_cases hlt : k < ks.length
    · obtain ⟨b, o, B, dB, ls, B2, d2, l2, hA, hx, x0, x1, hrl, hot, hll, hlm⟩ := (HH.out.keep HF.out).one hlt
      subst hA
      go_upto_region 5 with fail
      obtain ⟨wb, hwb⟩ : ∃ W, wr.alloc (.cells #[.slice B ls.length dB, .slice B2 l2.length d2] 50) = W := ⟨_, rfl⟩
      rw [hwb]
      have HFB : Hid (Fr [] wr wb) := hwb ▸ box_fr _ _
      have HBX : Hid (At wb wr.heap.size 50 #[.slice B ls.length dB, .slice B2 l2.length d2]) := hwb ▸ At.new _ _ _
      obtain ⟨bx, hbx⟩ : ∃ bx, wr.heap.size = bx := ⟨_, rfl⟩
      rw [hbx] at HBX ⊢
      have hw0 := HH.out.2 k hlt
      rw [hx.out] at hw0
      have HRL : Hid (RdL w B ls) := hw0.1
      have HOT : Hid (OkL w ⟨B2, d2, l2⟩) := hw0.2.1
      clear hw0
      have HLM := Lib.hid hlm
      have HFW := Lib.hid (HF.out.then_ HFB.out)
      have HO1 := Lib.hid (HO.out.keep HFB.out)
      have hmon := HMON.out k hlt
      have hkt := kn_take s ks k hlt
      rw [hx.out] at hmon hkt
      simp only [kn1] at hmon hkt
      have HMO := Lib.hid hmon
      have HKT := Lib.hid hkt
      obtain ⟨qb, HQB⟩ : ∃ q : Bool, Hid (l2.any (lackB s) = q) := ⟨l2.any (lackB s), Lib.hid rfl⟩
      rw [HQB.out] at HMO HKT
      obtain ⟨t, ht⟩ : ∃ t, kn s (ks.take k) = t := ⟨_, rfl⟩
      rw [ht] at HE HMO HKT
      have c0 := HBX.out.cell 0
      simp at c0
      clear hwb hbx hrl hot hlm hmon hkt x0 x1 HO HFB HF ht
      go_wp2_with fail
      clear c0
      go_loopg [5, 19] ls.length (fun g2 x5 x19 wi => ∃ (m : Nat) (A2 : Option Addr) (c2 : Nat) (hs2 : List Ls), m + g2 = ls.length ∧ x5 = .slice A2 hs2.length c2 ∧ x19 = .int .i64 m ∧ OwLs wi w.heap.size A2 c2 hs2 ∧ (∀ h ∈ hs2, h.l.length ≤ 1048576) ∧ hs2.length ≤ t + (if qb then 0 else m) ∧ Fr [] w wi ∧ At wi bx 50 #[.slice B ls.length dB, .slice B2 l2.length d2])
      case atStart => exact ⟨0, A', c', hs, by omega, rfl, rfl, HO1.out, HSM.out, by have := HE.out; omega, HFW.out, HBX.out⟩
      case round =>
        obtain ⟨m, A2, c2, hs2, hm, rfl, rfl, ho, hsm, he, hf, hfb⟩ := hrel
        have HM := Lib.hid hm
        have HO := Lib.hid ho
        have HE2 := Lib.hid he
        have HF := Lib.hid hf
        have HFB := Lib.hid hfb
        have HSM2 := Lib.hid hsm
        have hmn : m ≤ ls.length := by omega
        have hbig : hs2.length ≤ 1048576 := by
          have := HMO.out
          cases qb <;> simp at this he <;> omega
        have HBI := Lib.hid hfb
        have c1 := HBI.out.cell 1
        simp at c1
        clear hm ho he hf hfb hsm HO1 HFW
        by_cases hlt2 : m < ls.length
        · obtain ⟨b3, o3, B3, d3, l3, hA3, he3, cx, ok⟩ := (HRL.out.keep HF.out).one hlt2
          subst hA3
          have hl3 : l3.length ≤ 1048576 := by have := HLM.out m hlt2; rw [he3.out] at this; exact this
          have hot := HOT.out.keep HF.out
          have HB1 := Lib.hid (KB.out _ B2 d2 l2 hot.1 hot.2.1 hot.2.2.1 ((HSR.out.keep HF.out)))
          rw [HQB.out] at HB1
          have HOK := Lib.hid ok
          clear ok hot
          go_wp2_with fail
          refine HB1.out.mono ?_
          clear HB1 cx c1
          rintro e w2 ⟨rfl, hfx⟩
          have HF2 := Lib.hid (HF.out.then_ hfx)
          have HFB2 := Lib.hid (HFB.out.keep hfx)
          have HO2 := Lib.hid (HO.out.keep hfx)
          have HOK2 := Lib.hid (HOK.out.keep hfx)
          clear hfx HF HFB HO HBI HOK
          cases qb with
          | true =>
            go_wp2_with fail
            go_roundg (gk - 1)
            case measure => have := HM.out; omega
            case rel => exact ⟨m + 1, A2, c2, hs2, by have := HM.out; omega, rfl, by go_num, HO2.out, HSM2.out, by have := HE2.out; simpa using this, HF2.out, HFB2.out⟩
          | false =>
            have HH1 := Lib.hid (KH.out w2 A2 B3 c2 d3 hs2 l3 HO2.out.rd ((mem_idx (p := fun h : Ls => h.l.length ≤ 1048576)).2 HSM2.out) (by omega) ⟨HOK2.out, hl3⟩)
            go_wp2_with fail
            refine HH1.out.mono ?_
            rintro e w3 ⟨⟨q, rfl⟩, hfx⟩
            have HF3 := Lib.hid (HF2.out.then_ hfx)
            have HFB3 := Lib.hid (HFB2.out.keep hfx)
            have HO3 := Lib.hid (HO2.out.keep hfx)
            have HOK3 := Lib.hid (HOK2.out.keep hfx)
            clear hfx HF2 HFB2 HO2 HOK2 HH1
            cases q with
            | true =>
              go_wp2_with fail
              go_roundg (gk - 1)
              case measure => have := HM.out; omega
              case rel => exact ⟨m + 1, A2, c2, hs2, by have := HM.out; omega, rfl, by go_num, HO3.out, HSM2.out, by have := HE2.out; simp at this ⊢; omega, HF3.out, HFB3.out⟩
            | false =>
              have HC1 := Lib.hid (KC.out w3 B3 l3 d3 HOK3.out.1 HOK3.out.2.1 hl3 HOK3.out.2.2.2)
              go_wp2_with fail
              refine HC1.out.mono ?_
              rintro e w4 ⟨A4, c4, rfl, ho4, hb4, hf4⟩
              have HF4 := Lib.hid (HF3.out.then_ hf4)
              have HFB4 := Lib.hid (HFB3.out.keep hf4)
              have HO4 := Lib.hid (HO3.out.keep hf4)
              have HL4 : Hid (OwL w4 ⟨A4, c4, l3⟩) := ⟨ho4, HOK3.out.2.1, HOK3.out.2.2.1⟩
              clear ho4 hb4 hf4 HF3 HFB3 HO3 HOK3 HC1
              have HFA : Hid (Fr [] w4 (w4.alloc (.cells #[.slice A4 l3.length c4] 22))) := box_fr _ _
              have hcell : ∀ (j : Nat) (u : Value), [Value.slice A4 l3.length c4][j]? = some u → (w4.alloc (.cells #[.slice A4 l3.length c4] 22)).cell? ((Addr.mk w4.heap.size 0 none).add j) = some u := fun j u hu => by
                rw [adr_add, Nat.zero_add]
                refine Eq.trans ((At.new w4 22 #[.slice A4 l3.length c4]).cell j) ?_
                simpa using hu
              go_wp2_with (at_builtin; (refine wpList_append_one _ rfl _ _ 44 rfl 22 (.slice none 0 0) 1 24 Try.underlying44 infoInts rfl (by decide) A2 c2 hs2.length rfl (hs2.map Ls.val) (HO4.out.keep HFA.out).row ⟨w4.heap.size, 0, none⟩ 1 rfl [.slice A4 l3.length c4] rfl hcell (by simp [Value.oneCell']) (by unfold maxLen; omega) (by omega) ?_; intro g cap w5 hrow hfr hg hs3))
              have HM5 : Hid (OwLs w5 w.heap.size (some ⟨g, 0, none⟩) cap (hs2 ++ [⟨A4, c4, l3⟩])) := HO4.out.more HFA.out (HL4.out.keep HFA.out) hfr hrow (fun j hj => by simp [blks] at hj; subst hj; exact hg) (by have := HF4.out.size; have := HFA.out.size; omega)
              have HF5 : Hid (Fr [] w w5) := (HF4.out.then_ HFA.out).trans hfr (fun x hx => .inr (HO4.out.new x hx))
              have HFB5 : Hid (At w5 bx _ _) := hfr.at_ (HFB4.out.keep HFA.out) (own_at (HO4.out.keep HFA.out).row (HFB4.out.keep HFA.out) (by decide))
              clear hcell hrow hfr hg hs3
              go_roundg (gk - 1)
              case measure => have := HM.out; omega
              case rel => exact ⟨m + 1, some ⟨g, 0, none⟩, cap, hs2 ++ [⟨A4, c4, l3⟩], by have := HM.out; omega, by simp, by go_num, HM5.out, fun h hh => by rcases List.mem_append.1 hh with h1 | h1; exact HSM2.out h h1; simp at h1; subst h1; exact hl3, by have := HE2.out; simp at this ⊢; omega, HF5.out, HFB5.out⟩
        · obtain rfl : m = ls.length := by omega
          have HF9 := Lib.hid HF.out
          have HE9 : Hid (hs2.length ≤ kn s (ks.take (k + 1))) := (by rw [HKT.out]; exact HE2.out : hs2.length ≤ kn s (ks.take (k + 1)))
          clear HM
          go_wp2_with fail
          go_roundg (ks.length - (k + 1))
          case measure => have := HK.out; omega
          case rel => exact ⟨k + 1, A2, c2, hs2, by have := HK.out; omega, rfl, by go_num, HO.out, HSM2.out, HE9.out, HF9.out⟩
    · obtain rfl : k = ks.length := by omega
      clear HK
      go_wp2_with fail
      go_ret
      exact YES.out _ _ _ _ HO.out HE.out HF.out

end Go.Proofs.Ytbjccgahmgpkjaa
namespace Go.Proofs.Ytbjccgahmgpkjaa
open Go.RowKit
set_option linter.unusedVariables false

theorem OwLs.off {w w' : World} {B : Nat} {A : Option Addr} {c : Nat} {hs : List Ls} {b : Nat} {t : TypeId} {cs : Array Value} (k : OwLs w B A c hs) (hf : Fr [b] w w') (hat : At w b t cs) (h1 : 3 ≠ t) (h2 : 22 ≠ t) : OwLs w' B A c hs :=
  ⟨hf.own k.row (fun x hx hm => by simp at hm; subst hm; exact own_at k.row hat h2 ((blks_own x).1 hx)), k.new, fun h hh => ⟨hf.own (k.each h hh).1 (fun x hx hm => by simp at hm; subst hm; exact own_at (k.each h hh).1 hat h1 ((blks_own x).1 hx)), (k.each h hh).2⟩⟩

/-- A question's value: a circuit's cells, three rows of lists, three numbers. -/
def qval (H : Hd) (C : Pc) (A1 : Option Addr) (n1 c1 : Nat) (A2 : Option Addr) (n2 c2 : Nat) (A3 : Option Addr) (n3 c3 : Nat) (x y z : Int) : Value :=
  .agg (cvs H C ++ #[.slice A1 n1 c1, .slice A2 n2 c2, .slice A3 n3 c3, .int .i64 x, .int .i64 y, .int .i64 z])
def QuP (C : Pc) (fs : List Fa) (ks : List Kp) (x y z : Int) (w : World) (e : Ending) (w' : World) : Prop :=
  ∃ H' A1 c1 h1 A2 c2 h2 A3 c3 h3, e = .returned (qval H' C A1 (List.length (α := Ls) h1) c1 A2 (List.length (α := Ls) h2) c2 A3 (List.length (α := Ls) h3) c3 x y z) ∧ OwC w' w.heap.size H' C ∧ RdL w' A1 h1 ∧ h1.map (·.l) = cls fs 1 ∧ RdL w' A2 h2 ∧ h2.map (·.l) = cls fs 2 ∧ h3.length ≤ kn (act fs) ks ∧ Fr [] w w'

set_option maxRecDepth 100000 in
set_option maxHeartbeats 8000000 in
theorem question_calls (w : World) (H : Hd) (C : Pc) (h : CiAt w H C) (hn : NilOk H C) (nx dp : Int) (TA : Option Addr) (tc : Nat) (fs : List Fa) (hf : RdF w TA fs) (hfl : fs.length ≤ 1048576) (hfm : ∀ j : Nat, j < fs.length → (fs[j]!).L.l.length ≤ 1048576) (hfr : ∀ j : Nat, j < fs.length → R64 (fs[j]!).id)
    (KA : Option Addr) (kc : Nat) (ks : List Kp) (hk : RdK w KA ks) (hkl : ks.length ≤ 1048576) (hkn : ∀ s, kn s ks ≤ 1048576) (x y z : Int) :
    Calls Try.prog 14 #[cval H C, .agg (tvs nx dp TA tc fs), .slice KA ks.length kc, .int .i64 x, .int .i64 y, .int .i64 z] w (QuP C fs ks x y z w) := by
  have YES : Hid (∀ H' A1 c1 (h1 : List Ls) A2 c2 (h2 : List Ls) A3 c3 (h3 : List Ls) W, OwC W w.heap.size H' C → RdL W A1 h1 → h1.map (·.l) = cls fs 1 → RdL W A2 h2 → h2.map (·.l) = cls fs 2 → h3.length ≤ kn (act fs) ks → Fr [] w W →
      QuP C fs ks x y z w (.returned (.agg (cvs H' C ++ #[.slice A1 h1.length c1, .slice A2 h2.length c2, .slice A3 h3.length c3, .int .i64 x, .int .i64 y, .int .i64 z]))) W) := fun H' A1 c1 h1 A2 c2 h2 A3 c3 h3 W a1 a2 a3 a4 a5 a6 a7 => ⟨H', A1, c1, h1, A2, c2, h2, A3, c3, h3, rfl, a1, a2, a3, a4, a5, a6, a7⟩
  have HC1 : Hid (∀ W, Fr [] w W → Calls Try.prog 22 #[cval H C] W (CpP C W)) := fun W hW => copy_calls W H C (h.keep hW) hn
  have HC2 : Hid (∀ W kd, Fr [] w W → Calls Try.prog 19 #[.agg (tvs nx dp TA tc fs), .int .i64 kd] W (ClsP fs kd W)) := fun W kd hW => clauses_calls W nx dp TA tc fs kd (hf.keep hW) hfl hfm
  have HC3 : Hid (∀ W, Fr [] w W → Calls Try.prog 15 #[.agg (tvs nx dp TA tc fs)] W (ActP fs W)) := fun W hW => active_calls W nx dp TA tc fs (hf.keep hW) hfl
  have HC4 : Hid (∀ W S d, Fr [] w W → Rd W S (act fs) → Calls Try.prog 34 #[.slice KA ks.length kc, .slice S (act fs).length d] W (KnP (act fs) ks W)) := fun W S d hW hS => known_calls2 W KA S kc d ks (act fs) (hk.keep hW) hkl hS (act_r hfr) (Nat.le_trans (act_len fs) hfl) (hkn _)
  clear h hn hf hk hfm hfr hkn
  obtain ⟨mx, ins, lat, outs, bads, invs, ands, nms⟩ := C
  obtain ⟨iA, iC, lA, lC, oA, oC, bA, bC, vA, vC, gA, gC, nA, nC⟩ := H
  simp only [cval, cvs] at *
  simp only [tvs] at *
  go_enter Try.func14, Try.ntmps14
  go_upto_region 1 with fail
  obtain ⟨W0, hW0⟩ : ∃ W, ((w.alloc (.cells #[.int .i64 mx, .slice iA ins.length iC, .slice lA lat.length lC, .slice oA outs.length oC, .slice bA bads.length bC, .slice vA invs.length vC, .slice gA ands.length gC, .slice nA nms.length nC] 27)).alloc (.cells #[.int .i64 nx, .int .i64 dp, .slice TA fs.length tc] 42)).alloc (.cells #[.int .i64 0, .slice none 0 0, .slice none 0 0, .slice none 0 0, .slice none 0 0, .slice none 0 0, .slice none 0 0, .slice none 0 0, .slice none 0 0, .slice none 0 0, .slice none 0 0, .int .i64 0, .int .i64 0, .int .i64 0] 46) = W := ⟨_, rfl⟩
  rw [hW0]
  have HF0 : Hid (Fr [] w W0) := hW0 ▸ (((box_fr _ _).then_ (box_fr _ _)).then_ (box_fr _ _))
  have HB0 : Hid (At W0 w.heap.size 27 #[.int .i64 mx, .slice iA ins.length iC, .slice lA lat.length lC, .slice oA outs.length oC, .slice bA bads.length bC, .slice vA invs.length vC, .slice gA ands.length gC, .slice nA nms.length nC]) := hW0 ▸ ((At.new w _ _).alloc _).alloc _
  have HT0 : Hid (At W0 (w.heap.size + 1) 42 #[.int .i64 nx, .int .i64 dp, .slice TA fs.length tc]) := by
    rw [← hW0]
    have := (At.new (w.alloc (.cells #[.int .i64 mx, .slice iA ins.length iC, .slice lA lat.length lC, .slice oA outs.length oC, .slice bA bads.length bC, .slice vA invs.length vC, .slice gA ands.length gC, .slice nA nms.length nC] 27)) 42 #[.int .i64 nx, .int .i64 dp, .slice TA fs.length tc]).alloc (.cells #[.int .i64 0, .slice none 0 0, .slice none 0 0, .slice none 0 0, .slice none 0 0, .slice none 0 0, .slice none 0 0, .slice none 0 0, .slice none 0 0, .slice none 0 0, .slice none 0 0, .int .i64 0, .int .i64 0, .int .i64 0] 46)
    have e : (w.alloc (.cells #[.int .i64 mx, .slice iA ins.length iC, .slice lA lat.length lC, .slice oA outs.length oC, .slice bA bads.length bC, .slice vA invs.length vC, .slice gA ands.length gC, .slice nA nms.length nC] 27)).heap.size = w.heap.size + 1 := by simp
    rw [e] at this
    exact this
  have HR0 : Hid (At W0 (w.heap.size + 2) 46 #[.int .i64 0, .slice none 0 0, .slice none 0 0, .slice none 0 0, .slice none 0 0, .slice none 0 0, .slice none 0 0, .slice none 0 0, .slice none 0 0, .slice none 0 0, .slice none 0 0, .int .i64 0, .int .i64 0, .int .i64 0]) := by
    rw [← hW0]
    have := At.new ((w.alloc (.cells #[.int .i64 mx, .slice iA ins.length iC, .slice lA lat.length lC, .slice oA outs.length oC, .slice bA bads.length bC, .slice vA invs.length vC, .slice gA ands.length gC, .slice nA nms.length nC] 27)).alloc (.cells #[.int .i64 nx, .int .i64 dp, .slice TA fs.length tc] 42)) 46 #[.int .i64 0, .slice none 0 0, .slice none 0 0, .slice none 0 0, .slice none 0 0, .slice none 0 0, .slice none 0 0, .slice none 0 0, .slice none 0 0, .slice none 0 0, .slice none 0 0, .int .i64 0, .int .i64 0, .int .i64 0]
    have e : ((w.alloc (.cells #[.int .i64 mx, .slice iA ins.length iC, .slice lA lat.length lC, .slice oA outs.length oC, .slice bA bads.length bC, .slice vA invs.length vC, .slice gA ands.length gC, .slice nA nms.length nC] 27)).alloc (.cells #[.int .i64 nx, .int .i64 dp, .slice TA fs.length tc] 42)).heap.size = w.heap.size + 2 := by simp
    rw [e] at this
    exact this
  obtain ⟨bx, hbx⟩ : ∃ bx, w.heap.size = bx := ⟨_, rfl⟩
  rw [hbx] at HB0 HT0 HR0 ⊢
  have HBX := Lib.hid hbx
  have HLT : Hid (bx + 2 < W0.heap.size) := HR0.out.lt
  clear hW0 hbx
  refine wp_region_noPanic ?_
  refine wp_region_C (fun w' => Fr [] W0 w') 14 (by kernel_rfl) ((Fr.refl [] W0).drew) (fun hT0 => ?_)
  refine wpAnyC_take (i := 0) (oi := ?oir1u1) (v := ?vr1u1) [0, 14] ?hir1u1 (by kernel_rfl) (by kernel_rfl) (by kernel_rfl) (by kernel_rfl) ?hQr1u1 (.inl ⟨?hwr1u1, ?hyr1u1⟩) (hT0.resolve_left (by decide)) ?_
  case hir1u1 => (simp only [List.getElem?_toArray, List.getElem?_cons_zero]; rfl)
  case hQr1u1 => exact fun _ _ _ h => h
  case hwr1u1 => rfl
  case hyr1u1 => (intro w hSw; (have s := hSw.at_ HB0.out (by simp); have s0 := s.cell 0; have s1 := s.cell 1; have s2 := s.cell 2; have s3 := s.cell 3; have s4 := s.cell 4; have s5 := s.cell 5; have s6 := s.cell 6; have s7 := s.cell 7; have t := hSw.at_ HT0.out (by simp); have t0 := t.cell 0; have t1 := t.cell 1; have t2 := t.cell 2; simp at s0 s1 s2 s3 s4 s5 s6 s7 t0 t1 t2); go_simp <;> with_reducible rfl)
  try simp only [Act.put, List.setIfInBounds_toArray, List.set_cons_zero, List.set_cons_succ]
  refine wpAnyC_take (i := 2) (oi := ?oir1u2) (v := ?vr1u2) [2, 14] ?hir1u2 (by kernel_rfl) (by kernel_rfl) (by kernel_rfl) (by kernel_rfl) ?hQr1u2 (.inl ⟨?hwr1u2, ?hyr1u2⟩) ((hT0.more 0).resolve_left (by decide)) ?_
  case hir1u2 => (simp only [List.getElem?_toArray, List.getElem?_cons_succ, List.getElem?_cons_zero]; rfl)
  case hQr1u2 => exact fun _ _ _ h => h
  case hwr1u2 => rfl
  case hyr1u2 => (intro w hSw; (have s := hSw.at_ HB0.out (by simp); have s0 := s.cell 0; have s1 := s.cell 1; have s2 := s.cell 2; have s3 := s.cell 3; have s4 := s.cell 4; have s5 := s.cell 5; have s6 := s.cell 6; have s7 := s.cell 7; have t := hSw.at_ HT0.out (by simp); have t0 := t.cell 0; have t1 := t.cell 1; have t2 := t.cell 2; simp at s0 s1 s2 s3 s4 s5 s6 s7 t0 t1 t2); go_simp <;> with_reducible rfl)
  try simp only [Act.put, List.setIfInBounds_toArray, List.set_cons_zero, List.set_cons_succ]
  refine wpAnyC_take (i := 4) (oi := ?oir1u3) (v := ?vr1u3) [4, 14] ?hir1u3 (by kernel_rfl) (by kernel_rfl) (by kernel_rfl) (by kernel_rfl) ?hQr1u3 (.inl ⟨?hwr1u3, ?hyr1u3⟩) (((hT0.more 0).more 2).resolve_left (by decide)) ?_
  case hir1u3 => (simp only [List.getElem?_toArray, List.getElem?_cons_succ, List.getElem?_cons_zero]; rfl)
  case hQr1u3 => exact fun _ _ _ h => h
  case hwr1u3 => rfl
  case hyr1u3 => (intro w hSw; (have s := hSw.at_ HB0.out (by simp); have s0 := s.cell 0; have s1 := s.cell 1; have s2 := s.cell 2; have s3 := s.cell 3; have s4 := s.cell 4; have s5 := s.cell 5; have s6 := s.cell 6; have s7 := s.cell 7; have t := hSw.at_ HT0.out (by simp); have t0 := t.cell 0; have t1 := t.cell 1; have t2 := t.cell 2; simp at s0 s1 s2 s3 s4 s5 s6 s7 t0 t1 t2); go_simp <;> with_reducible rfl)
  try simp only [Act.put, List.setIfInBounds_toArray, List.set_cons_zero, List.set_cons_succ]
  refine wpAnyC_take0 (i := 6) (oi := ?oir1u4) (v := ?vr1u4) ?hir1u4 (by kernel_rfl) (by kernel_rfl) (by kernel_rfl) (by kernel_rfl) ?hQr1u4 ?hwr1u4 ?hyr1u4 (((hT0.more 0).more 2).more 4) ?_
  case hir1u4 => (simp only [List.getElem?_toArray, List.getElem?_cons_succ, List.getElem?_cons_zero]; rfl)
  case hQr1u4 => exact fun _ _ _ h => h
  case hwr1u4 => rfl
  case hyr1u4 => (intro w; go_simp <;> with_reducible rfl)
  try simp only [Act.put, List.setIfInBounds_toArray, List.set_cons_zero, List.set_cons_succ]
  refine wpAnyC_take (i := 7) (oi := ?oir1u5) (v := ?vr1u5) [7, 14] ?hir1u5 (by kernel_rfl) (by kernel_rfl) (by kernel_rfl) (by kernel_rfl) ?hQr1u5 (.inl ⟨?hwr1u5, ?hyr1u5⟩) (((((hT0.more 0).more 2).more 4).more 6).resolve_left (by decide)) ?_
  case hir1u5 => (simp only [List.getElem?_toArray, List.getElem?_cons_succ, List.getElem?_cons_zero]; rfl)
  case hQr1u5 => exact fun _ _ _ h => h
  case hwr1u5 => rfl
  case hyr1u5 => (intro w hSw; (have s := hSw.at_ HB0.out (by simp); have s0 := s.cell 0; have s1 := s.cell 1; have s2 := s.cell 2; have s3 := s.cell 3; have s4 := s.cell 4; have s5 := s.cell 5; have s6 := s.cell 6; have s7 := s.cell 7; have t := hSw.at_ HT0.out (by simp); have t0 := t.cell 0; have t1 := t.cell 1; have t2 := t.cell 2; simp at s0 s1 s2 s3 s4 s5 s6 s7 t0 t1 t2); go_simp <;> with_reducible rfl)
  try simp only [Act.put, List.setIfInBounds_toArray, List.set_cons_zero, List.set_cons_succ]
  refine wpAnyC_take0 (i := 10) (oi := ?oir1u6) (v := ?vr1u6) ?hir1u6 (by kernel_rfl) (by kernel_rfl) (by kernel_rfl) (by kernel_rfl) ?hQr1u6 ?hwr1u6 ?hyr1u6 (((((hT0.more 0).more 2).more 4).more 6).more 7) ?_
  case hir1u6 => (simp only [List.getElem?_toArray, List.getElem?_cons_succ, List.getElem?_cons_zero]; rfl)
  case hQr1u6 => exact fun _ _ _ h => h
  case hwr1u6 => rfl
  case hyr1u6 => (intro w; go_simp <;> with_reducible rfl)
  try simp only [Act.put, List.setIfInBounds_toArray, List.set_cons_zero, List.set_cons_succ]
  refine wpAnyC_take0 (i := 11) (oi := ?oir1u7) (v := ?vr1u7) ?hir1u7 (by kernel_rfl) (by kernel_rfl) (by kernel_rfl) (by kernel_rfl) ?hQr1u7 ?hwr1u7 ?hyr1u7 ((((((hT0.more 0).more 2).more 4).more 6).more 7).more 10) ?_
  case hir1u7 => (simp only [List.getElem?_toArray, List.getElem?_cons_succ, List.getElem?_cons_zero]; rfl)
  case hQr1u7 => exact fun _ _ _ h => h
  case hwr1u7 => rfl
  case hyr1u7 => (intro w; go_simp <;> with_reducible rfl)
  try simp only [Act.put, List.setIfInBounds_toArray, List.set_cons_zero, List.set_cons_succ]
  refine wpAnyC_take0 (i := 12) (oi := ?oir1u8) (v := ?vr1u8) ?hir1u8 (by kernel_rfl) (by kernel_rfl) (by kernel_rfl) (by kernel_rfl) ?hQr1u8 ?hwr1u8 ?hyr1u8 (((((((hT0.more 0).more 2).more 4).more 6).more 7).more 10).more 11) ?_
  case hir1u8 => (simp only [List.getElem?_toArray, List.getElem?_cons_succ, List.getElem?_cons_zero]; rfl)
  case hQr1u8 => exact fun _ _ _ h => h
  case hwr1u8 => rfl
  case hyr1u8 => (intro w; go_simp <;> with_reducible rfl)
  try simp only [Act.put, List.setIfInBounds_toArray, List.set_cons_zero, List.set_cons_succ]
  have hSx := ((((((((hT0.more 0).more 2).more 4).more 6).more 7).more 10).more 11).more 12).resolve_left (by decide)
  refine wpAnyC_ready (rs := [1]) (by kernel_rfl) (by simp) ?_
  refine ReadyC.cons (o := ?or1u9) ?hor1u9 ?hstepr1u9 ?_
  case hor1u9 => (simp only [List.getElem?_toArray, List.getElem?_cons_succ, List.getElem?_cons_zero]; rfl)
  case hstepr1u9 =>
    intro K hK
    (go_simp; refine (HC1.out _ (HF0.out.then_ hSx)).mono ?_; rintro e w1 ⟨H1, rfl, ho, hf1⟩; have HO1 := Lib.hid ho; clear ho; obtain ⟨iA1, iC1, lA1, lC1, oA1, oC1, bA1, bC1, vA1, vC1, gA1, gC1, nA1, nC1⟩ := H1; simp only [cval, cvs])
    refine hK.out _ _ (.inr ?_) (fun hHeld => ?_)
    · first | exact hSx.then_ hf5 | exact hSx.then_ hf4 | exact hSx.then_ hf3 | exact hSx.then_ hf2 | exact hSx.then_ hf1 | exact hSx
    have hT9 := hHeld
    clear hHeld
    clear hK K
    try simp only [Act.put, List.setIfInBounds_toArray, List.set_cons_zero, List.set_cons_succ]
    have hSx := hT9.resolve_left (by decide)
    refine wpAnyC_ready (rs := [3]) (by kernel_rfl) (by simp) ?_
    refine ReadyC.cons (o := ?or1u10) ?hor1u10 ?hstepr1u10 ?_
    case hor1u10 => (simp only [List.getElem?_toArray, List.getElem?_cons_succ, List.getElem?_cons_zero]; rfl)
    case hstepr1u10 =>
      intro K hK
      (go_simp; refine (HC2.out _ 1 (HF0.out.then_ hSx)).mono ?_; rintro e w2 ⟨A2, k2, h2, rfl, ho, hm, hf2⟩; have HO2 := Lib.hid ho; have HM2 := Lib.hid hm; clear ho hm; dsimp only)
      refine hK.out _ _ (.inr ?_) (fun hHeld => ?_)
      · first | exact hSx.then_ hf5 | exact hSx.then_ hf4 | exact hSx.then_ hf3 | exact hSx.then_ hf2 | exact hSx.then_ hf1 | exact hSx
      have hT10 := hHeld
      clear hHeld
      clear hK K
      try simp only [Act.put, List.setIfInBounds_toArray, List.set_cons_zero, List.set_cons_succ]
      have hSx := hT10.resolve_left (by decide)
      refine wpAnyC_ready (rs := [5]) (by kernel_rfl) (by simp) ?_
      refine ReadyC.cons (o := ?or1u11) ?hor1u11 ?hstepr1u11 ?_
      case hor1u11 => (simp only [List.getElem?_toArray, List.getElem?_cons_succ, List.getElem?_cons_zero]; rfl)
      case hstepr1u11 =>
        intro K hK
        (go_simp; refine (HC2.out _ 2 (HF0.out.then_ hSx)).mono ?_; rintro e w3 ⟨A3, k3, h3, rfl, ho, hm, hf3⟩; have HO3 := Lib.hid ho; have HM3 := Lib.hid hm; clear ho hm; dsimp only)
        refine hK.out _ _ (.inr ?_) (fun hHeld => ?_)
        · first | exact hSx.then_ hf5 | exact hSx.then_ hf4 | exact hSx.then_ hf3 | exact hSx.then_ hf2 | exact hSx.then_ hf1 | exact hSx
        have hT11 := hHeld
        clear hHeld
        clear hK K
        try simp only [Act.put, List.setIfInBounds_toArray, List.set_cons_zero, List.set_cons_succ]
        have hSx := hT11.resolve_left (by decide)
        refine wpAnyC_ready (rs := [8]) (by kernel_rfl) (by simp) ?_
        refine ReadyC.cons (o := ?or1u12) ?hor1u12 ?hstepr1u12 ?_
        case hor1u12 => (simp only [List.getElem?_toArray, List.getElem?_cons_succ, List.getElem?_cons_zero]; rfl)
        case hstepr1u12 =>
          intro K hK
          (go_simp; refine (HC3.out _ (HF0.out.then_ hSx)).mono ?_; rintro e w4 ⟨A4, k4, rfl, hi, hb, hf4⟩; have HI4 := Lib.hid hi; clear hi hb; dsimp only)
          refine hK.out _ _ (.inr ?_) (fun hHeld => ?_)
          · first | exact hSx.then_ hf5 | exact hSx.then_ hf4 | exact hSx.then_ hf3 | exact hSx.then_ hf2 | exact hSx.then_ hf1 | exact hSx
          have hT12 := hHeld
          clear hHeld
          clear hK K
          try simp only [Act.put, List.setIfInBounds_toArray, List.set_cons_zero, List.set_cons_succ]
          have hSx := hT12.resolve_left (by decide)
          refine wpAnyC_ready (rs := [9]) (by kernel_rfl) (by simp) ?_
          refine ReadyC.cons (o := ?or1u13) ?hor1u13 ?hstepr1u13 ?_
          case hor1u13 => (simp only [List.getElem?_toArray, List.getElem?_cons_succ, List.getElem?_cons_zero]; rfl)
          case hstepr1u13 =>
            intro K hK
            (go_simp; refine (HC4.out _ A4 k4 (HF0.out.then_ hSx) ((own_rs HI4.out (by simp)).rd)).mono ?_; rintro e w5 ⟨A5, k5, h5, rfl, ho, hn5, hf5⟩; have HO5 := Lib.hid ho; have HN5 := Lib.hid hn5; clear ho hn5; dsimp only)
            refine hK.out _ _ (.inr ?_) (fun hHeld => ?_)
            · first | exact hSx.then_ hf5 | exact hSx.then_ hf4 | exact hSx.then_ hf3 | exact hSx.then_ hf2 | exact hSx.then_ hf1 | exact hSx
            have hT13 := hHeld
            clear hHeld
            clear hK K
            try simp only [Act.put, List.setIfInBounds_toArray, List.set_cons_zero, List.set_cons_succ]
            refine wpAnyC_take0 (i := 13) (oi := ?oir1u14) (v := ?vr1u14) ?hir1u14 (by kernel_rfl) (by kernel_rfl) (by kernel_rfl) (by kernel_rfl) ?hQr1u14 ?hwr1u14 ?hyr1u14 hT13 ?_
            case hir1u14 => (simp only [List.getElem?_toArray, List.getElem?_cons_succ, List.getElem?_cons_zero]; rfl)
            case hQr1u14 => exact fun _ _ _ h => h
            case hwr1u14 => rfl
            case hyr1u14 => (intro w; go_simp <;> with_reducible rfl)
            try simp only [Act.put, List.setIfInBounds_toArray, List.set_cons_zero, List.set_cons_succ]
            have hSx := (hT13.more 13).resolve_left (by decide)
            refine wpAnyC_ready (rs := [14]) (by kernel_rfl) (by simp) ?_
            refine ReadyC.cons (o := ?or1u15) ?hor1u15 ?hstepr1u15 ?_
            case hor1u15 => (simp only [List.getElem?_toArray, List.getElem?_cons_succ, List.getElem?_cons_zero]; rfl)
            case hstepr1u15 =>
              intro K hK
              (have s := hSx.at_ HR0.out (by simp); have r0 := s.cell 0; have r1 := s.cell 1; have r2 := s.cell 2; have r3 := s.cell 3; have r4 := s.cell 4; have r5 := s.cell 5; have r6 := s.cell 6; have r7 := s.cell 7; have r8 := s.cell 8; have r9 := s.cell 9; have r10 := s.cell 10; have r11 := s.cell 11; have r12 := s.cell 12; have r13 := s.cell 13; have z0 := s.frozen 0; have z1 := s.frozen 1; have z2 := s.frozen 2; have z3 := s.frozen 3; have z4 := s.frozen 4; have z5 := s.frozen 5; have z6 := s.frozen 6; have z7 := s.frozen 7; have z8 := s.frozen 8; have z9 := s.frozen 9; have z10 := s.frozen 10; have z11 := s.frozen 11; have z12 := s.frozen 12; have z13 := s.frozen 13; simp at r0 r1 r2 r3 r4 r5 r6 r7 r8 r9 r10 r11 r12 r13; have HSx := Lib.hid hSx; have HRX := Lib.hid s; clear s; go_simp)
              refine hK.out _ _ (.inl rfl) (fun hHeld => ?_)
              have hT15 := hHeld
              clear hHeld
              clear hK K
              try simp only [Act.put, List.setIfInBounds_toArray, List.set_cons_zero, List.set_cons_succ]
              refine wpAnyC_done (by kernel_rfl) ?_ _
              refine NoPanic.normal ?_
              clear r0 r1 r2 r3 r4 r5 r6 r7 r8 r9 r10 r11 r12 r13 z0 z1 z2 z3 z4 z5 z6 z7 z8 z9 z10 z11 z12 z13
              try clear hSx
              have HF2 := Lib.hid hf2
              have HF3 := Lib.hid hf3
              have HF4 := Lib.hid hf4
              have HF5 := Lib.hid hf5
              have hs1 : W0.heap.size ≤ w1.heap.size := hf1.size
              have hs2 : w1.heap.size ≤ w2.heap.size := hf2.size
              clear hf1 hf2 hf3 hf4 hf5
              have HFX : Hid (Fr [] w w5) := HF0.out.then_ HSx.out
              generalize hq : World.setCell _ _ _ = W
              rw [show bx + 1 + 1 = bx + 2 from rfl] at hq ⊢
              have HFW : Hid (Fr [bx + 2] w5 W) := hq ▸ (((((((((((((((Fr.refl [bx + 2] w5).setCell (.inl (by simp)) _).setCell (.inl (by simp)) _).setCell (.inl (by simp)) _).setCell (.inl (by simp)) _).setCell (.inl (by simp)) _).setCell (.inl (by simp)) _).setCell (.inl (by simp)) _).setCell (.inl (by simp)) _).setCell (.inl (by simp)) _).setCell (.inl (by simp)) _).setCell (.inl (by simp)) _).setCell (.inl (by simp)) _).setCell (.inl (by simp)) _).setCell (.inl (by simp)) _)
              have HRW : Hid (At W (bx + 2) 46 #[.int .i64 mx, .slice iA1 ins.length iC1, .slice lA1 lat.length lC1, .slice oA1 outs.length oC1, .slice bA1 bads.length bC1, .slice vA1 invs.length vC1, .slice gA1 ands.length gC1, .slice nA1 nms.length nC1, .slice A2 h2.length k2, .slice A3 h3.length k3, .slice A5 h5.length k5, .int .i64 x, .int .i64 y, .int .i64 z]) := by
                rw [← hq]
                have := (((((((((((((HRX.out.set_ 0 (.int .i64 mx)).set_ 1 (.slice iA1 ins.length iC1)).set_ 2 (.slice lA1 lat.length lC1)).set_ 3 (.slice oA1 outs.length oC1)).set_ 4 (.slice bA1 bads.length bC1)).set_ 5 (.slice vA1 invs.length vC1)).set_ 6 (.slice gA1 ands.length gC1)).set_ 7 (.slice nA1 nms.length nC1)).set_ 8 (.slice A2 h2.length k2)).set_ 9 (.slice A3 h3.length k3)).set_ 10 (.slice A5 h5.length k5)).set_ 11 (.int .i64 x)).set_ 12 (.int .i64 y)).set_ 13 (.int .i64 z)
                simp at this
                exact this
              clear hq
              have O2 := Lib.hid (((HO2.out.keep ((HF3.out.then_ HF4.out).then_ HF5.out)).off HFW.out HRX.out (by decide) (by decide)).rd)
              have O3 := Lib.hid (((HO3.out.keep (HF4.out.then_ HF5.out)).off HFW.out HRX.out (by decide) (by decide)).rd)
              have HF15 : Hid (Fr [bx + 2] w1 W) := ((((HF2.out.then_ HF3.out).then_ HF4.out).then_ HF5.out).mono (fun _ h => by cases h)).then_ HFW.out
              have HFZ : Hid (Fr [] w W) := HFX.out.trans HFW.out (fun j hj => .inr (by simp at hj; rw [hj, HBX.out]; omega))
              have HLT2 := HLT.out
              have hle : w.heap.size ≤ W0.heap.size := by rw [HBX.out]; omega
              have hne : ∀ k, W0.heap.size ≤ k → k ∉ [bx + 2] := fun k hk hm => by simp at hm; omega
              have HCO : Hid (OwC W w.heap.size ⟨iA1, iC1, lA1, lC1, oA1, oC1, bA1, bC1, vA1, vC1, gA1, gC1, nA1, nC1⟩ ⟨mx, ins, lat, outs, bads, invs, ands, nms⟩) := by
                obtain ⟨q1, q2, q3, q4, q5, q6, q7⟩ := HO1.out
                exact ⟨(q1.fr HF15.out (fun k hk => hne k (q1.2 k hk))).less hle, (q2.fr HF15.out (fun k hk => hne k (q2.2 k hk))).less hle, (q3.fr HF15.out (fun k hk => hne k (q3.2 k hk))).less hle, (q4.fr HF15.out (fun k hk => hne k (q4.2 k hk))).less hle, (q5.fr HF15.out (fun k hk => hne k (q5.2 k hk))).less hle, (q6.fr HF15.out (fun k hk => hne k (q6.2 k hk))).less hle, (q7.fr HF15.out (fun k hk => hne k (q7.2 k hk))).less hle⟩
              have CONV := Lib.hid (YES.out ⟨iA1, iC1, lA1, lC1, oA1, oC1, bA1, bC1, vA1, vC1, gA1, gC1, nA1, nC1⟩ A2 k2 h2 A3 k3 h3 A5 k5 h5 W HCO.out O2.out HM2.out O3.out HM3.out HN5.out HFZ.out)
              have r0 := HRW.out.cell 0
              have r1 := HRW.out.cell 1
              have r2 := HRW.out.cell 2
              have r3 := HRW.out.cell 3
              have r4 := HRW.out.cell 4
              have r5 := HRW.out.cell 5
              have r6 := HRW.out.cell 6
              have r7 := HRW.out.cell 7
              have r8 := HRW.out.cell 8
              have r9 := HRW.out.cell 9
              have r10 := HRW.out.cell 10
              have r11 := HRW.out.cell 11
              have r12 := HRW.out.cell 12
              have r13 := HRW.out.cell 13
              simp at r0 r1 r2 r3 r4 r5 r6 r7 r8 r9 r10 r11 r12 r13
              clear YES HC1 HC2 HC3 HC4 HO1 HO2 HO3 HO5 HFW HRW
              go_wp2_with fail
              refine bodyPost_ret (v := .agg #[.int .i64 mx, .slice iA1 ins.length iC1, .slice lA1 lat.length lC1, .slice oA1 outs.length oC1, .slice bA1 bads.length bC1, .slice vA1 invs.length vC1, .slice gA1 ands.length gC1, .slice nA1 nms.length nC1, .slice A2 h2.length k2, .slice A3 h3.length k3, .slice A5 h5.length k5, .int .i64 x, .int .i64 y, .int .i64 z]) (by simp [results, go_sem, r0, r1, r2, r3, r4, r5, r6, r7, r8, r9, r10, r11, r12, r13]) rfl ?_
              exact CONV.out
              
            exact ReadyC.nil
          exact ReadyC.nil
        exact ReadyC.nil
      exact ReadyC.nil
    exact ReadyC.nil
  exact ReadyC.nil

end Go.Proofs.Ytbjccgahmgpkjaa
