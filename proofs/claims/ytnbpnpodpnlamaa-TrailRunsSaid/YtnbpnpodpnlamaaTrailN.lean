/- The law TrailRuns walked. -/
import Derived.Test.YtnbpnpodpnlamaaTrailM
import Derived.Deep.DeepCutAuto
import Derived.Deep.CutBlock
import Derived.BigQuiet
import Derived.BigRegion
namespace Go.Proofs.Ytnbpnpodpnlamaa
open Go.RowKit
set_option linter.unusedVariables false

theorem look_ex (S : List St) (v : Int) : ∃ x l r b, (look S v = some ⟨x, l, r⟩ ∧ b = true) ∨ (look S v = none ∧ b = false ∧ x = 0 ∧ l = 0 ∧ r = 0) := by
  cases h : look S v with
  | none => exact ⟨0, 0, 0, false, .inr ⟨rfl, rfl, rfl, rfl, rfl⟩⟩
  | some e => exact ⟨e.x, e.l, e.r, true, .inl ⟨rfl, rfl⟩⟩
theorem tmod4t (x : Int) : -3 ≤ x.tmod 4 ∧ x.tmod 4 ≤ 3 := by
  have h1 := Int.tmod_lt_of_pos x (b := 4) (by omega)
  have h2 := Int.lt_tmod_of_pos x (b := 4) (by omega)
  omega
theorem tmod6t (x : Int) : -5 ≤ x.tmod 6 ∧ x.tmod 6 ≤ 5 := by
  have h1 := Int.tmod_lt_of_pos x (b := 6) (by omega)
  have h2 := Int.lt_tmod_of_pos x (b := 6) (by omega)
  omega
theorem tmod3t (x : Int) : -2 ≤ x.tmod 3 ∧ x.tmod 3 ≤ 2 := by
  have h1 := Int.tmod_lt_of_pos x (b := 3) (by omega)
  have h2 := Int.lt_tmod_of_pos x (b := 3) (by omega)
  omega

theorem ints_same_n (w : World) (A B : Option Addr) (c d : Nat) (xs : List Int) (n : Nat) (hn : xs.length = n) (h : Rd w A xs) (k : Rd w B xs) (hl : xs.length ≤ 9223372036854775807) :
    Calls Try.prog 19 #[.slice A n c, .slice B n d] w fun e w' => e = .returned (.bool true) ∧ ∃ n, w.drewN n = w' := by
  subst hn
  exact ints_same w A B c d xs h k hl
def vof (S : List St) (x : Int) : Int := match look S (tv x) with | none => 0 | some e => if e.x = x then 1 else -1
theorem vof_le (S : List St) (x : Int) : -1 ≤ vof S x ∧ vof S x ≤ 1 := by
  unfold vof
  split
  · omega
  · split <;> omega
theorem vof_neg {T : Tr} {vars : Nat} {S : List St} {d : Nat} (h : TRep T vars S d) (x : Int) (hlo : -9223372036854775808 < x) (hhi : x ≤ 9223372036854775807) : vof S (-x) = -vof S x := by
  have e : tv (-x) = tv x := by
    by_cases h0 : x < 0
    · rw [tv_neg h0 hlo, tv_nat (by omega)]
    · by_cases h1 : x = 0
      · rw [h1]; rfl
      · rw [tv_nat (l := x) (by omega), tv_neg (by omega) (by omega)]; omega
  unfold vof
  rw [e]
  cases hl : look S (tv x) with
  | none => rfl
  | some e =>
    obtain ⟨he, hev⟩ := look_some hl
    obtain ⟨_, _, a, b⟩ := h.bound e he
    have hmin : e.x ≠ -9223372036854775808 := fun e0 => by rw [tv_least e0] at a; omega
    have hx : e.x = x ∨ e.x = -x := by
      unfold tv at hev
      rw [if_neg hmin, if_neg (show ¬ x = -9223372036854775808 by omega)] at hev
      by_cases h1 : e.x < 0
      · by_cases h2 : x < 0
        · rw [if_pos h1, if_pos h2] at hev; omega
        · rw [if_pos h1, if_neg h2] at hev; omega
      · by_cases h2 : x < 0
        · rw [if_neg h1, if_pos h2] at hev; omega
        · rw [if_neg h1, if_neg h2] at hev; omega
    have h0 : x ≠ 0 := fun e0 => by rw [hev, e0] at a; simp [tv] at a
    simp only
    rcases hx with hx | hx
    · rw [if_neg (by omega), if_pos hx]
    · rw [if_pos hx, if_neg (by omega)]; rfl
theorem vof_least {T : Tr} {vars : Nat} {S : List St} {d : Nat} (h : TRep T vars S d) : vof S (-9223372036854775808) = 0 := by
  unfold vof
  cases hl : look S (tv (-9223372036854775808)) with
  | none => rfl
  | some e =>
    obtain ⟨he, hev⟩ := look_some hl
    obtain ⟨_, _, a, b⟩ := h.bound e he
    rw [hev, tv_least rfl] at a
    omega

set_option maxRecDepth 100000 in
set_option maxHeartbeats 40000000 in
theorem trail_runs (w : World) (n : Int) (A : Option Addr) (c : Nat) (l : List TOp) (h : RdTops w A l) (hl : l.length ≤ 9223372036854775807)
    (hr : ∀ j : Nat, (hj : j < l.length) → -9223372036854775808 ≤ l[j].x ∧ l[j].x ≤ 9223372036854775807) :
    Calls Try.prog 7 #[.int .i64 n, .slice A l.length c] w fun e w' => e = .returned (.bool true) ∧ Fr [] w w' := by
  have ht : -6 ≤ n.tmod 7 ∧ n.tmod 7 ≤ 6 := by
    have h1 := Int.tmod_lt_of_pos n (b := 7) (by omega)
    have h2 := Int.lt_tmod_of_pos n (b := 7) (by omega)
    omega
  have HH := Lib.hid h
  have RR := Lib.hid hr
  clear h hr
  go_enter Try.func7, Try.ntmps7
  go_wp2_with fail
  refine (trail_alive _).mono ?_
  rintro e w1 ⟨rfl, hf⟩
  have F1 := Lib.hid hf
  clear hf
  go_upto_region 3 with fail
  go_cut [0] (fun s0 wx => ∃ m : Nat, s0 = .int .i64 m ∧ m ≤ 6 ∧ w1 = wx)
  case first =>
    go_wp2_with fail
    go_meet
    exact ⟨(n.tmod 7 % 7).toNat, by congr 1; omega, by omega, rfl⟩
  case rest =>
  obtain ⟨m, rfl, hm6, rfl⟩ := hcut
  clear ht
  go_wp2_with fail
  refine (tr_new w _ F1.out m m (by omega) (by omega)).mono ?_
  rintro e w2 ⟨a0, T, L, rfl, hT⟩
  have HT := Lib.hid hT
  clear hT
  go_wp2_with fail
  go_loopg [0, 6, 7, 8] 60 (fun gk vv sv dv iv wr => ∃ (k vars d : Nat) (T : Tr) (S : List St) (L : TrL) (B : Option Addr) (cb : Nat), k + gk = 60 ∧ iv = .int .i64 k ∧ k ≤ l.length ∧ vv = .int .i64 vars ∧ sv = .slice B S.length cb ∧ dv = .int .i64 d ∧
    TR [] w wr a0 T vars S d L B cb S ∧ vars ≤ 6 + 2 * k ∧ d ≤ k)
  case atStart => exact ⟨0, m, 0, T, [], L, none, 0, rfl, rfl, Nat.zero_le _, rfl, rfl, rfl, HT.out, by omega, by omega⟩
  case round =>
    clear HT
    obtain ⟨k, vars, d, T, S, L, B, cb, hk, rfl, hkl, rfl, rfl, rfl, hT, hv, hd⟩ := hrel
    have HK := Lib.hid hk
    have HT := Lib.hid hT
    have hk60 : k ≤ 60 := by omega
    have hsl : S.length ≤ vars := hT.rep.len_le
    clear hk hT
    by_cases hlt : k < l.length
    · by_cases h60 : k < 60
      · obtain ⟨b, o, rfl, hbl, hx⟩ := HH.out (by omega)
        obtain ⟨c0, c1, c2⟩ := hx k hlt
        clear hx
        have fr1 := HT.out.fr
        have e0 : wr.cell? ⟨b, o + k * 3, none⟩ = some (.int .i64 l[k].kind) := (World.cell?_of_block (fr1.block b hbl (by simp))).trans c0
        have e1 : wr.cell? ⟨b, o + k * 3 + 1, none⟩ = some (.int .i64 l[k].x) := (World.cell?_of_block (fr1.block b hbl (by simp))).trans c1
        have e2 : wr.cell? ⟨b, o + k * 3 + 2, none⟩ = some (.int .i64 l[k].by_) := (World.cell?_of_block (fr1.block b hbl (by simp))).trans c2
        obtain ⟨x0, x1⟩ := RR.out k hlt
        clear c0 c1 c2 fr1
        generalize l[k].kind = kd at e0
        generalize l[k].x = x at e1 x0 x1
        generalize l[k].by_ = y at e2
        have hq : -3 ≤ kd.tmod 4 ∧ kd.tmod 4 ≤ 3 := tmod4t kd
        go_upto_region 11 with fail
        obtain ⟨W, hW⟩ : ∃ W, W = wr.alloc (.cells #[.int .i64 kd, .int .i64 x, .int .i64 y] 59) := ⟨_, rfl⟩
        rw [← hW]
        have hO : At W wr.heap.size 59 #[.int .i64 kd, .int .i64 x, .int .i64 y] := by rw [hW]; exact At.new wr _ _
        have hTW : TR [] w W a0 T vars S d L B cb S := by rw [hW]; exact HT.out.alloc _
        have hobn : wr.heap.size ∉ L.fp ++ blks B := fun hk => by have := HT.out.lt _ hk; omega
        generalize wr.heap.size = ob at hO hobn ⊢
        clear hW e0 e1 e2 HT
        obtain ⟨F, hF⟩ : ∃ F, L.fp ++ blks B = F := ⟨_, rfl⟩
        have hN := hTW.anchor
        rw [hF] at hN hobn
        have HTW := Lib.hid hTW
        have HN := Lib.hid hN
        have HFE := Lib.hid hF
        have HO := Lib.hid hO
        have HOB := Lib.hid hobn
        have o0 := hO.cell 0
        have o1 := hO.cell 1
        have o2 := hO.cell 2
        simp at o0 o1 o2
        obtain ⟨v, hvx⟩ : ∃ v, tv x = v := ⟨_, rfl⟩
        have HV := Lib.hid hvx
        clear hTW hN hF hO hobn hvx
        go_wp2_with fail
        refine (abs_is _ x v HV.out x0 x1).mono ?_
        rintro e w3 ⟨rfl, rfl⟩
        obtain ⟨bx, bl, br, was, hlk⟩ := look_ex S v
        have HLK := Lib.hid hlk
        have hrng : ∀ e, e ∈ S → -9223372036854775808 ≤ e.x ∧ e.x ≤ 9223372036854775807 := fun e he => (HTW.out.rep.rng e he).resolve_right (by omega)
        clear hlk
        go_wp2_with fail
        refine (at_is15 _ B cb S v HN.out.row (by omega) hrng bx bl br was HLK.out).mono ?_
        rintro e w3 ⟨rfl, hf3⟩
        have hN3 := HN.out.keep hf3
        have hO3 := hf3.at_ HO.out (by simp)
        have o0 := hO3.cell 0
        have o1 := hO3.cell 1
        have o2 := hO3.cell 2
        simp at o0 o1 o2
        have HN3 := Lib.hid hN3
        have HO3 := Lib.hid hO3
        have HF3 := Lib.hid hf3
        have hob3 := hO3.lt
        clear hN3 hO3 hf3 hrng
        go_upto_region 13 with fail
        obtain ⟨W4, hW4⟩ : ∃ W4, W4 = w3.alloc (.cells #[.int .i64 bx, .int .i64 bl, .int .i64 br] 61) := ⟨_, rfl⟩
        rw [← hW4]
        have hN4 : TR F W W4 a0 T vars S d L B cb S := by rw [hW4]; exact HN3.out.alloc _
        have hO4 : At W4 ob 59 #[.int .i64 kd, .int .i64 x, .int .i64 y] := by rw [hW4]; exact HO3.out.alloc _
        have o0 := hO4.cell 0
        have o1 := hO4.cell 1
        have o2 := hO4.cell 2
        simp at o0 o1 o2
        have HN4 := Lib.hid hN4
        have HO4 := Lib.hid hO4
        clear hW4 hN4 hO4 HN3 HO3 HF3 hob3
        go_upto_block 2 with fail
        have hq2 : 0 ≤ (kd.tmod 4 + 4) % 4 ∧ (kd.tmod 4 + 4) % 4 ≤ 3 := by omega
        generalize (kd.tmod 4 + 4) % 4 = q at hq2 ⊢
        clear hq
        go_cut [0, 6, 7] (fun s0 s6 s7 wx => ∃ (vars' d' : Nat) (T' : Tr) (S' : List St) (L' : TrL) (B' : Option Addr) (cb' : Nat), s0 = .int .i64 vars' ∧ s6 = .slice B' S'.length cb' ∧ s7 = .int .i64 d' ∧
          TR F W wx a0 T' vars' S' d' L' B' cb' S' ∧ vars' ≤ 6 + 2 * (k + 1) ∧ d' ≤ k + 1)
        case first =>
          have hvi : vars ≤ 262144 := by omega
          by_cases q0 : q = 0
          · subst q0
            by_cases v1 : 1 ≤ v
            · by_cases v2 : v ≤ vars
              · cases was with
                | true =>
                  have HB : Hid ((decide (1 ≤ tv x) && decide (tv x ≤ vars) && (look S (tv x)).isNone) = false) := by
                    show _ = _
                    rw [HV.out]
                    rcases HLK.out with ⟨h, _⟩ | ⟨_, h, _⟩
                    · rw [h]; simp
                    · cases h
                  as_aux_lemma =>
                    go_wp2_with fail
                    refine (HN4.out.put x y x0 x1 hvi false HB.out).mono ?_
                    rintro e w5 ⟨rfl, T', L', hT'⟩
                    rw [if_neg (by decide)] at hT'
                    have HT' := Lib.hid hT'
                    clear hT'
                    go_wp2_with fail
                    go_meet
                    exact ⟨vars, d, T', S, L', B, cb, rfl, rfl, rfl, HT'.out, by omega, by omega⟩
                | false =>
                  have HB : Hid ((decide (1 ≤ tv x) && decide (tv x ≤ vars) && (look S (tv x)).isNone) = true) := by
                    show _ = _
                    rw [HV.out]
                    rcases HLK.out with ⟨_, h⟩ | ⟨h, _, _⟩
                    · cases h
                    · rw [h]; simp [v1, v2]
                  as_aux_lemma =>
                    go_wp2_with fail
                    refine (HN4.out.put x y x0 x1 hvi true HB.out).mono ?_
                    rintro e w5 ⟨rfl, T', L', hT'⟩
                    rw [if_pos rfl] at hT'
                    have hO5 := hT'.fr.at_ HO.out HOB.out
                    have p1 := hO5.cell 1
                    have p2 := hO5.cell 2
                    simp at p1 p2
                    have HT' := Lib.hid hT'
                    clear hT' hO5
                    go_wp2_with (at_builtin; refine wpList_append_set _ rfl _ _ rfl B cb S.length S rfl rfl (HT'.out.row.alloc _) w5.heap.size 1 rfl ⟨x, d, y⟩ (At.new _ _ _) (by omega) ?_; intro g2 cap w6 hi2 hf2 hg2; have HI2 := Lib.hid hi2; have HF2 := Lib.hid hf2; have HG2 := Lib.hid hg2; clear hi2 hf2 hg2)
                    go_meet
                    refine ⟨vars, d, T', S ++ [⟨x, d, y⟩], L', some ⟨g2, 0, none⟩, cap, rfl, by simp, rfl, (HT'.out.alloc _).rowNew HI2.out HF2.out HG2.out, by omega, by omega⟩
              · have HB : Hid ((decide (1 ≤ tv x) && decide (tv x ≤ vars) && (look S (tv x)).isNone) = false) := by
                  show _ = _
                  rw [HV.out]; simp [v2]
                as_aux_lemma =>
                  go_wp2_with fail
                  refine (HN4.out.put x y x0 x1 hvi false HB.out).mono ?_
                  rintro e w5 ⟨rfl, T', L', hT'⟩
                  rw [if_neg (by decide)] at hT'
                  have HT' := Lib.hid hT'
                  clear hT'
                  go_wp2_with fail
                  go_meet
                  exact ⟨vars, d, T', S, L', B, cb, rfl, rfl, rfl, HT'.out, by omega, by omega⟩
            · have HB : Hid ((decide (1 ≤ tv x) && decide (tv x ≤ vars) && (look S (tv x)).isNone) = false) := by
                show _ = _
                rw [HV.out]; simp [v1]
              as_aux_lemma =>
                go_wp2_with fail
                refine (HN4.out.put x y x0 x1 hvi false HB.out).mono ?_
                rintro e w5 ⟨rfl, T', L', hT'⟩
                rw [if_neg (by decide)] at hT'
                have HT' := Lib.hid hT'
                clear hT'
                go_wp2_with fail
                go_meet
                exact ⟨vars, d, T', S, L', B, cb, rfl, rfl, rfl, HT'.out, by omega, by omega⟩
          · by_cases q1 : q = 1
            · subst q1
              clear q0
              as_aux_lemma =>
                go_wp2_with fail
                refine (HN4.out.deeper (by omega)).mono ?_
                rintro e w5 ⟨rfl, T', L', hT'⟩
                have HT' := Lib.hid hT'
                clear hT'
                go_wp2_with fail
                go_meet
                exact ⟨vars, d + 1, T', S, L', B, cb, rfl, rfl, by go_num, HT'.out, by omega, by omega⟩
            · by_cases q2 : q = 2
              · subst q2
                clear q0 q1
                have hy6 : -5 ≤ y.tmod 6 ∧ y.tmod 6 ≤ 5 := tmod6t y
                go_upto_region 29 with fail
                have hl6 : -1 ≤ y.tmod 6 % 6 - 1 ∧ y.tmod 6 % 6 - 1 ≤ 4 := by omega
                generalize y.tmod 6 % 6 - 1 = lev at hl6 ⊢
                obtain ⟨m2, hm2⟩ : ∃ m2, lev.toNat = m2 := ⟨_, rfl⟩
                have HM2 := Lib.hid hm2
                have hlm : lev < 0 ∧ m2 = 0 ∨ lev = m2 := by omega
                clear hy6 hm2
                go_wp2_with fail
                refine (HN4.out.back lev m2 HM2.out).mono ?_
                rintro e w5 ⟨rfl, T', L', hT'⟩
                go_upto_region 30 with fail
                go_cut [14] (fun s14 wx => s14 = .int .i64 m2 ∧ w5 = wx)
                case first =>
                  rcases hlm with ⟨hneg, hz⟩ | he
                  · subst hz
                    as_aux_lemma =>
                      go_wp2_with fail
                      go_meet
                      exact ⟨rfl, rfl⟩
                  · subst he
                    clear HM2
                    as_aux_lemma =>
                      go_wp2_with fail
                      go_meet
                      exact ⟨rfl, rfl⟩
                case rest =>
                  obtain ⟨rfl, rfl⟩ := hcut
                  clear hlm HM2
                  by_cases hmd : m2 < d
                  · rw [if_pos hmd, if_pos hmd] at hT'
                    have HT' := Lib.hid hT'
                    clear hT'
                    go_wp2_with fail
                    go_loopg [15, 16] S.length (fun gk sv iv wz => ∃ (j : Nat) (B2 : Option Addr) (c2 : Nat), j + gk = S.length ∧ iv = .int .i64 j ∧ sv = .slice B2 ((S.take j).filter (fun e : St => decide (e.l ≤ (m2 : Int)))).length c2 ∧
                      Sts wz B2 c2 ((S.take j).filter (fun e : St => decide (e.l ≤ (m2 : Int)))) ∧ (∀ kk, kk ∈ blks B2 → w5.heap.size ≤ kk) ∧ Fr [] w5 wz)
                    case atStart => exact ⟨0, none, 0, by omega, rfl, rfl, Sts.nil _, by simp [blks], Fr.refl _ _⟩
                    case round =>
                      obtain ⟨j, B2, c2, hj, rfl, rfl, hB, hnew, hf⟩ := hrel
                      obtain ⟨R2, hR2⟩ : ∃ R2, (S.take j).filter (fun e : St => decide (e.l ≤ (m2 : Int))) = R2 := ⟨_, rfl⟩
                      rw [hR2] at hB ⊢
                      have hrl : R2.length ≤ S.length := by rw [← hR2]; exact Nat.le_trans (List.length_filter_le _ _) (by rw [List.length_take]; omega)
                      have HJ := Lib.hid hj
                      have HB := Lib.hid hB
                      have HNEW := Lib.hid hnew
                      have HFZ := Lib.hid hf
                      have HR2 := Lib.hid hR2
                      have hj2 : j ≤ S.length := by omega
                      clear hj hB hnew hf hR2
                      by_cases hjs : j < S.length
                      · obtain ⟨gs, hgs, hgl⟩ := HT'.out.row.pos hjs
                        have hrow := HT'.out.row.fr HFZ.out (fun _ _ => by simp)
                        rw [hgs] at hrow
                        obtain ⟨r0, r1, r2⟩ := hrow.cell hjs
                        have hsn : S.take (j + 1) = S.take j ++ [S[j]!] := take_snoc S j hjs
                        obtain ⟨es, hes⟩ : ∃ es, S[j]! = es := ⟨_, rfl⟩
                        rw [hes] at r0 r1 r2 hsn
                        have HSN := Lib.hid hsn
                        have HGS := Lib.hid hgs
                        subst hgs
                        obtain ⟨ex, el, er⟩ := es
                        simp only at r0 r1 r2
                        clear hsn hes hrow
                        by_cases hle : el ≤ m2
                        · have hfl : Hid ((S.take (j + 1)).filter (fun e : St => decide (e.l ≤ (m2 : Int))) = R2 ++ [⟨ex, el, er⟩]) := by
                            show _ = _
                            rw [HSN.out, List.filter_append, HR2.out]; simp [hle]
                          as_aux_lemma =>
                            go_wp2_with (at_builtin; refine wpList_append_set _ rfl _ _ rfl B2 c2 R2.length R2 rfl rfl (HB.out.alloc _) wr.heap.size 1 rfl ⟨ex, el, er⟩ (At.new _ _ _) (by omega) ?_; intro g2 cap w6 hi2 hf2 hg2; have HI2 := Lib.hid hi2; have HF2 := Lib.hid hf2; have HG2 := Lib.hid hg2; clear hi2 hf2 hg2)
                            go_roundg (gk - 1)
                            case measure => have := HJ.out; omega
                            case rel =>
                              refine ⟨j + 1, some ⟨g2, 0, none⟩, cap, by have := HJ.out; omega, by go_num, by rw [hfl.out]; simp, by rw [hfl.out]; exact HI2.out, fun kk hk => ?_, ?_⟩
                              · rcases HG2.out kk hk with h1 | h1
                                · exact HNEW.out kk h1
                                · have := HFZ.out.size
                                  simp at h1
                                  omega
                              · exact (HFZ.out.alloc _).trans HF2.out (fun kk hk => .inr (HNEW.out kk hk))
                        · have hfl : Hid ((S.take (j + 1)).filter (fun e : St => decide (e.l ≤ (m2 : Int))) = R2) := by
                            show _ = _
                            rw [HSN.out, List.filter_append, HR2.out]; simp [hle]
                          as_aux_lemma =>
                            go_wp2_with fail
                            go_roundg (gk - 1)
                            case measure => have := HJ.out; omega
                            case rel => exact ⟨j + 1, B2, c2, by have := HJ.out; omega, by go_num, by rw [hfl.out], by rw [hfl.out]; exact HB.out, HNEW.out, HFZ.out⟩
                      · have hje : j = S.length := by omega
                        have hR : Hid (S.filter (fun e : St => decide (e.l ≤ (m2 : Int))) = R2) := by
                          show _ = _
                          rw [← HR2.out, hje, List.take_length]
                        clear hje
                        as_aux_lemma =>
                          go_wp2_with fail
                          go_meet
                          refine ⟨vars, m2, T', R2, L', B2, c2, rfl, rfl, rfl, ?_, by omega, by omega⟩
                          have h1 := HT'.out.rowNew HB.out (HFZ.out.mono (fun kk hk => by cases hk)) (fun kk hk => .inr (HNEW.out kk hk))
                          rwa [hR.out] at h1
                  · rw [if_neg hmd, if_neg hmd] at hT'
                    have HT' := Lib.hid hT'
                    clear hT'
                    as_aux_lemma =>
                      go_wp2_with fail
                      go_meet
                      exact ⟨vars, d, T', S, L', B, cb, rfl, rfl, rfl, HT'.out, by omega, by omega⟩
              · obtain rfl : q = 3 := by omega
                clear q0 q1 q2
                have hy3 : -2 ≤ y.tmod 3 ∧ y.tmod 3 ≤ 2 := tmod3t y
                as_aux_lemma =>
                  go_upto_region 15 with fail
                  have hr3 : 0 ≤ (y.tmod 3 + 3) % 3 ∧ (y.tmod 3 + 3) % 3 ≤ 2 := by omega
                  generalize (y.tmod 3 + 3) % 3 = r3 at hr3 ⊢
                  obtain ⟨rn, rfl⟩ : ∃ rn : Nat, r3 = (rn : Int) := ⟨r3.toNat, by omega⟩
                  have hrn : rn ≤ 2 := by omega
                  clear hr3 hy3
                  go_wp2_with fail
                  refine (HN4.out.grow rn (by omega)).mono ?_
                  rintro e w5 ⟨rfl, T', L', hT'⟩
                  have HT' := Lib.hid hT'
                  clear hT'
                  go_wp2_with fail
                  go_meet
                  exact ⟨vars + rn, d, T', S, L', B, cb, by go_num, rfl, rfl, HT'.out, by omega, by omega⟩
        case rest =>
          clear hq2 HN4 HO4 o0 o1 o2
          obtain ⟨vars', d', T', S', L', B', cb', rfl, rfl, rfl, hT', hv', hd'⟩ := hcut
          have hO' := hT'.fr.at_ HO.out HOB.out
          have o1 := hO'.cell 1
          simp at o1
          have hsl' : S'.length ≤ vars' := hT'.rep.len_le
          have hrng : ∀ e, e ∈ S' → -9223372036854775808 ≤ e.x ∧ e.x ≤ 9223372036854775807 := fun e he => (hT'.rep.rng e he).resolve_right (by omega)
          obtain ⟨x2, l2, r2, is2, hlk2⟩ := look_ex S' v
          have HT' := Lib.hid hT'
          have HO' := Lib.hid hO'
          have HL2 := Lib.hid hlk2
          clear hT' hO' hlk2
          go_wp2_with fail
          refine (at_is15 _ B' cb' S' v HT'.out.row (by omega) hrng x2 l2 r2 is2 HL2.out).mono ?_
          rintro e w5 ⟨rfl, hf5⟩
          have hT5 := HT'.out.keep hf5
          have hO5 := hf5.at_ HO'.out (by simp)
          have HT5 := Lib.hid hT5
          have HO5 := Lib.hid hO5
          clear hT5 hO5 hf5 hrng o1
          go_upto_region 41 with fail
          obtain ⟨W6, hW6⟩ : ∃ W6, W6 = w5.alloc (.cells #[.int .i64 x2, .int .i64 l2, .int .i64 r2] 61) := ⟨_, rfl⟩
          rw [← hW6]
          have hT6 : TR F W W6 a0 T' vars' S' d' L' B' cb' S' := by rw [hW6]; exact HT5.out.alloc _
          have hO6 : At W6 ob 59 #[.int .i64 kd, .int .i64 x, .int .i64 y] := by rw [hW6]; exact HO5.out.alloc _
          have hS6 : At W6 w5.heap.size 61 #[.int .i64 x2, .int .i64 l2, .int .i64 r2] := by rw [hW6]; exact At.new w5 _ _
          generalize w5.heap.size = sb at hS6 ⊢
          have o1 := hO6.cell 1
          have s0 := hS6.cell 0
          have s1 := hS6.cell 1
          have s2 := hS6.cell 2
          simp at o1 s0 s1 s2
          have HT6 := Lib.hid hT6
          have HO6 := Lib.hid hO6
          obtain ⟨val, hval⟩ : ∃ val : Int, vof S' x = val := ⟨_, rfl⟩
          obtain ⟨lv, hlv⟩ : ∃ lv : Int, (match look S' v with | none => -1 | some e => e.l) = lv := ⟨_, rfl⟩
          obtain ⟨re, hre⟩ : ∃ re : Int, (match look S' v with | none => 0 | some e => e.r) = re := ⟨_, rfl⟩
          have HVAL := Lib.hid hval
          have HLV := Lib.hid hlv
          have HRE := Lib.hid hre
          have hvb : -1 ≤ val ∧ val ≤ 1 := by rw [← hval]; exact vof_le S' x
          clear hW6 hT6 hO6 hS6 HT5 HO5 HT' HO' hval hlv hre
          go_upto_if 155 with fail
          go_cut [20, 21, 22] (fun s20 s21 s22 wx => s20 = .int .i64 val ∧ s21 = .int .i64 lv ∧ s22 = .int .i64 re ∧ Fr [] W6 wx)
          case first =>
            cases is2 with
            | true =>
              have hl : look S' v = some ⟨x2, l2, r2⟩ := by
                rcases HL2.out with ⟨h, _⟩ | ⟨_, h, _⟩
                · exact h
                · cases h
              obtain rfl : l2 = lv := by have h := HLV.out; rw [hl] at h; exact h
              obtain rfl : r2 = re := by have h := HRE.out; rw [hl] at h; exact h
              have hvx : (if x2 = x then (1 : Int) else -1) = val := by have h := HVAL.out; unfold vof at h; rw [HV.out, hl] at h; exact h
              clear hl HL2 HLV HRE HVAL
              by_cases hxx : x2 = x
              · rw [if_pos hxx] at hvx
                subst hxx
                subst hvx
                as_aux_lemma =>
                  go_wp2_with fail
                  go_quiet (fail)
                  go_wp2_with fail
                  go_meet
                  exact ⟨rfl, rfl, rfl, (Fr.refl [] W6).drewN _⟩
              · rw [if_neg hxx] at hvx
                subst hvx
                as_aux_lemma =>
                  go_wp2_with fail
                  go_quiet (fail)
                  go_wp2_with fail
                  go_meet
                  exact ⟨rfl, rfl, rfl, (Fr.refl [] W6).drewN _⟩
            | false =>
              have hl : look S' v = none := by
                rcases HL2.out with ⟨_, h⟩ | ⟨h, _⟩
                · cases h
                · exact h
              obtain rfl : -1 = lv := by have h := HLV.out; rw [hl] at h; exact h
              obtain rfl : 0 = re := by have h := HRE.out; rw [hl] at h; exact h
              obtain rfl : 0 = val := by have h := HVAL.out; unfold vof at h; rw [HV.out, hl] at h; exact h
              clear hl HL2 HLV HRE HVAL
              as_aux_lemma =>
                go_wp2_with fail
                go_meet
                exact ⟨rfl, rfl, rfl, Fr.refl [] W6⟩
          case rest =>
          obtain ⟨rfl, rfl, rfl, hf7⟩ := hcut
          have hT7 := HT6.out.keep hf7
          have hO7 := hf7.at_ HO6.out (by simp)
          have HT7 := Lib.hid hT7
          have HO7 := Lib.hid hO7
          clear hT7 hO7 hf7 HT6 HO6 o1 s0 s1 s2 HL2
          go_wp2_with fail
          go_loopg [23, 24] S'.length (fun g3 s23 s24 wz => ∃ (j : Nat) (C : Option Addr) (cc : Nat) (R3 : List Int), j + g3 = S'.length ∧ s24 = .int .i64 j ∧ s23 = .slice C R3.length cc ∧ R3 = (S'.map (·.x)).take j ∧
            Ints wz C cc R3 ∧ (∀ kk, kk ∈ blks C → wc.heap.size ≤ kk) ∧ Fr [] wc wz)
          case atStart => exact ⟨0, none, 0, [], by omega, rfl, rfl, rfl, Ints.nil _, by simp [blks], Fr.refl _ _⟩
          case round =>
            obtain ⟨j, C, cc, R3, hj, rfl, rfl, hR3, hC, hnew, hf⟩ := hrel
            have hrl : R3.length = j := by rw [hR3, List.length_take, List.length_map]; omega
            have hT8 := HT7.out.keep hf
            have hO8 := hf.at_ HO7.out (by simp)
            have HJ := Lib.hid hj
            have HC := Lib.hid hC
            have HNEW := Lib.hid hnew
            have HFZ := Lib.hid hf
            have HR3 := Lib.hid hR3
            have HRL := Lib.hid hrl
            have HT8 := Lib.hid hT8
            have HO8 := Lib.hid hO8
            have hj2 : j ≤ S'.length := by omega
            have hr3 : R3.length ≤ S'.length := by omega
            clear hj hC hnew hf hR3 hrl hT8 hO8
            by_cases hjs : j < S'.length
            · obtain ⟨gs, hgs, hgl⟩ := HT8.out.row.pos hjs
              have hrow := HT8.out.row
              rw [hgs] at hrow
              obtain ⟨r0, -, -⟩ := hrow.cell hjs
              have hsn : (S'.map (·.x)).take (j + 1) = R3 ++ [(S'[j]!).x] := by rw [HR3.out, ← List.map_take, take_snoc S' j hjs, List.map_append, List.map_take]; rfl
              have hat : (if (0 : Int) ≤ (j : Int) ∧ (j : Int) < S'.length then (S'[(j : Int).toNat]!).x else 0) = (S'[j]!).x := by rw [if_pos (by omega)]; rfl
              obtain ⟨ex, hex⟩ : ∃ ex, (S'[j]!).x = ex := ⟨_, rfl⟩
              rw [hex] at r0 hsn hat
              have HSN := Lib.hid hsn
              have HAT := Lib.hid hat
              have HEX := Lib.hid hex
              have HGS := Lib.hid hgs
              have nn : (ex != ex) = false := by simp
              subst hgs
              clear hsn hat hex hrow
              as_aux_lemma =>
                go_wp2_with (at_builtin; refine wpList_append_int _ rfl _ _ rfl C cc R3 _ rfl rfl (HC.out.alloc _) ⟨wr.heap.size, 0, none⟩ 1 ex rfl (by simp) (by omega) ?_; intro g2 cap w6 hi2 hf2 hg2 hs2; have HI2 := Lib.hid hi2; have HF2 := Lib.hid hf2; have HG2 := Lib.hid hg2; clear hi2 hf2 hg2 hs2)
                have hfz : Fr [] wc w6 := (HFZ.out.alloc _).trans HF2.out (fun kk hk => .inr (HNEW.out kk hk))
                have hT9 := HT7.out.keep hfz
                have hrow := hT9.row
                obtain ⟨r0, -, -⟩ := hrow.cell hjs
                rw [HEX.out] at r0
                have HT9 := Lib.hid hT9
                have HFZ9 := Lib.hid hfz
                clear hfz hT9 hrow
                go_quiet ((go_at_call 40; exact quiet_s ((HT9.out.drewN _).at_is (j : Int) ex HAT.out)))
                go_wp2_with fail
                go_roundg (gk - 1)
                case measure => have := HJ.out; omega
                case rel =>
                  refine ⟨j + 1, some ⟨g2, 0, none⟩, cap, R3 ++ [ex], by have := HJ.out; omega, by go_num, by simp, HSN.out.symm, HI2.out.drewN _, fun kk hk => ?_, HFZ9.out.drewN _⟩
                  simp only [blks, Option.map_some, Option.toList_some, List.mem_singleton] at hk
                  subst hk
                  rcases HG2.out with h1 | h1
                  · exact HNEW.out _ h1
                  · have := HFZ.out.size
                    simp at h1
                    omega
            · have hje : j = S'.length := by omega
              have hR : R3 = S'.map (·.x) := by rw [HR3.out, hje, List.take_of_length_le (by simp)]
              have hRl : R3.length = S'.length := by rw [hR, List.length_map]
              rw [hRl]
              have HR := Lib.hid hR
              have HRL2 := Lib.hid hRl
              have o1 := HO8.out.cell 1
              simp at o1
              have nv : (val != val) = false := by simp
              have nw : (-val != -val) = false := by simp
              have nl : (lv != lv) = false := by simp
              have nr : (re != re) = false := by simp
              have nd : ((d' : Int) != (d' : Int)) = false := by simp
              have ns : ((S'.length : Int) != (S'.length : Int)) = false := by simp
              clear hR hje
              by_cases hmin : x = -9223372036854775808
              · have h0 : 0 = val := by have h := HVAL.out; rw [hmin, vof_least HT8.out.rep] at h; exact h
                subst h0
                subst hmin
                have HVN := HVAL
                have hwr : wrap64 9223372036854775808 = -9223372036854775808 := by first | rfl | (simp [wrap64]) | (rcases lit_cases (-9223372036854775808) (by omega) with ⟨h1, h2⟩ | ⟨h1, h2, h3⟩ | ⟨h1, h2, h3⟩ <;> omega)
                as_aux_lemma =>
                  go_wp2_with fail
                  refine (HT8.out.value (-9223372036854775808) 0 HVAL.out x0 x1).mono ?_
                  rintro e w9 ⟨rfl, rfl⟩
                  go_wp2_with fail
                  rw [hwr]
                  refine (HT8.out.value (-9223372036854775808) 0 HVN.out (by omega) (by omega)).mono ?_
                  rintro e w9 ⟨rfl, rfl⟩
                  go_wp2_with fail
                  refine (HT8.out.level v lv HLV.out).mono ?_
                  rintro e w9 ⟨rfl, rfl⟩
                  go_wp2_with fail
                  refine (HT8.out.reason v re HRE.out).mono ?_
                  rintro e w9 ⟨rfl, rfl⟩
                  go_wp2_with fail
                  refine (HT8.out.depth).mono ?_
                  rintro e w9 ⟨rfl, rfl⟩
                  go_wp2_with fail
                  refine (HT8.out.len S'.length rfl).mono ?_
                  rintro e w9 ⟨rfl, rfl⟩
                  go_wp2_with fail
                  refine (HT8.out.lits (by omega) S'.length rfl).mono ?_
                  rintro e w10 ⟨D, cd, rfl, hi, hf⟩
                  have HT10 := Lib.hid (HT8.out.keep hf)
                  have HC10 := Lib.hid ((HC.out.fr hf (by simp)).rd)
                  have HD := Lib.hid hi.rd
                  rw [← HR.out] at HD
                  clear hi hf
                  go_wp2_with fail
                  refine (ints_same_n _ D C cd cc R3 S'.length HRL2.out HD.out HC10.out (by omega)).mono ?_
                  rintro e w11 ⟨rfl, n11, rfl⟩
                  have HT11 := Lib.hid (HT10.out.drewN n11)
                  go_wp2_with fail
                  refine (HT11.out.at_is (S'.length : Int) 0 (if_neg (by omega))).mono ?_
                  rintro e w12 ⟨rfl, rfl⟩
                  go_wp2_with fail
                  refine (HT11.out.at_is (-1) 0 (if_neg (by omega))).mono ?_
                  rintro e w12 ⟨rfl, rfl⟩
                  go_wp2_with fail
                  have h12 := HT11.out
                  rw [← HFE.out] at h12
                  go_roundg (60 - (k + 1))
                  case measure => have := HK.out; omega
                  case rel => exact ⟨k + 1, vars', d', T', S', L', B', cb', by have := HK.out; omega, by go_num, by omega, rfl, rfl, rfl, HTW.out.back_ h12, by omega, by omega⟩
              · have hvn : vof S' (-x) = -val := by rw [vof_neg HT8.out.rep x (by omega) x1, HVAL.out]
                have HVN := Lib.hid hvn
                clear hvn
                as_aux_lemma =>
                  go_wp2_with fail
                  refine (HT8.out.value x val HVAL.out x0 x1).mono ?_
                  rintro e w9 ⟨rfl, rfl⟩
                  go_wp2_with fail
                  refine (HT8.out.value (-x) (-val) HVN.out (by omega) (by omega)).mono ?_
                  rintro e w9 ⟨rfl, rfl⟩
                  go_wp2_with fail
                  refine (HT8.out.level v lv HLV.out).mono ?_
                  rintro e w9 ⟨rfl, rfl⟩
                  go_wp2_with fail
                  refine (HT8.out.reason v re HRE.out).mono ?_
                  rintro e w9 ⟨rfl, rfl⟩
                  go_wp2_with fail
                  refine (HT8.out.depth).mono ?_
                  rintro e w9 ⟨rfl, rfl⟩
                  go_wp2_with fail
                  refine (HT8.out.len S'.length rfl).mono ?_
                  rintro e w9 ⟨rfl, rfl⟩
                  go_wp2_with fail
                  refine (HT8.out.lits (by omega) S'.length rfl).mono ?_
                  rintro e w10 ⟨D, cd, rfl, hi, hf⟩
                  have HT10 := Lib.hid (HT8.out.keep hf)
                  have HC10 := Lib.hid ((HC.out.fr hf (by simp)).rd)
                  have HD := Lib.hid hi.rd
                  rw [← HR.out] at HD
                  clear hi hf
                  go_wp2_with fail
                  refine (ints_same_n _ D C cd cc R3 S'.length HRL2.out HD.out HC10.out (by omega)).mono ?_
                  rintro e w11 ⟨rfl, n11, rfl⟩
                  have HT11 := Lib.hid (HT10.out.drewN n11)
                  go_wp2_with fail
                  refine (HT11.out.at_is (S'.length : Int) 0 (if_neg (by omega))).mono ?_
                  rintro e w12 ⟨rfl, rfl⟩
                  go_wp2_with fail
                  refine (HT11.out.at_is (-1) 0 (if_neg (by omega))).mono ?_
                  rintro e w12 ⟨rfl, rfl⟩
                  go_wp2_with fail
                  have h12 := HT11.out
                  rw [← HFE.out] at h12
                  go_roundg (60 - (k + 1))
                  case measure => have := HK.out; omega
                  case rel => exact ⟨k + 1, vars', d', T', S', L', B', cb', by have := HK.out; omega, by go_num, by omega, rfl, rfl, rfl, HTW.out.back_ h12, by omega, by omega⟩
      · have h1 : (60 : Int) ≤ k := by omega
        go_wp2_with fail
        go_ret
        exact ⟨rfl, HT.out.fr⟩
    · have h1 : (l.length : Int) ≤ k := by omega
      go_wp2_with fail
      go_ret
      exact ⟨rfl, HT.out.fr⟩

end Go.Proofs.Ytnbpnpodpnlamaa
