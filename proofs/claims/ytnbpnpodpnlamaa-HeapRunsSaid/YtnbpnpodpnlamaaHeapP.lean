/- The law HeapRuns walked. -/
import Derived.Test.YtnbpnpodpnlamaaHeapO
import Derived.Deep.DeepCutAuto
import Derived.Deep.Light
import Derived.Deep.CutBlock
namespace Go.Proofs.Ytnbpnpodpnlamaa
open Go.RowKit

theorem tmod5 (x : Int) : -4 ≤ x.tmod 5 ∧ x.tmod 5 ≤ 4 := by
  have h1 := Int.tmod_lt_of_pos x (b := 5) (by omega)
  have h2 := Int.lt_tmod_of_pos x (b := 5) (by omega)
  omega

set_option maxRecDepth 100000 in
set_option maxHeartbeats 4000000 in
theorem heap_runs (w : World) (n : Int) (A : Option Addr) (c : Nat) (l : List HOp) (h : RdOps w A l) (hl : l.length ≤ 9223372036854775807) :
    Calls Try.prog 5 #[.int .i64 n, .slice A l.length c] w fun e w' => e = .returned (.bool true) ∧ Fr [] w w' := by
  have ht : -8 ≤ n.tmod 9 ∧ n.tmod 9 ≤ 8 := by
    have h1 := Int.tmod_lt_of_pos n (b := 9) (by omega)
    have h2 := Int.lt_tmod_of_pos n (b := 9) (by omega)
    omega
  have HH := Lib.hid h
  clear h
  go_enter Try.func5, Try.ntmps5
  go_wp2_with fail
  refine (heap_alive _).mono ?_
  rintro e w1 ⟨rfl, hf⟩
  have F1 := Lib.hid hf
  clear hf
  go_wp2_with fail
  have hm : -1 ≤ n.tmod 9 % 9 - 1 ∧ n.tmod 9 % 9 - 1 ≤ 7 := by omega
  generalize n.tmod 9 % 9 - 1 = m at hm ⊢
  refine (heap_new _ m).mono ?_
  rintro e w2 ⟨L, rfl, hL, hmade, hfp, hF⟩
  have G2 := Lib.hid hL
  have M2 := Lib.hid hmade
  have P2 := Lib.hid hfp
  have F2 := Lib.hid hF
  clear hL hmade hfp hF
  go_upto_region 5 with fail
  go_cut [6] (fun s6 wx => ∃ g : Nat, s6 = .slice (some ⟨g, 0, none⟩) m.toNat m.toNat ∧ Ints wx (some ⟨g, 0, none⟩) m.toNat (List.replicate m.toNat 0) ∧ w2.heap.size ≤ g ∧ Fr [] w2 wx)
  case first =>
    by_cases h0 : m < 0
    · have hmk := fun W => run_make_int W 0 (by omega) (by omega)
      have e0 : m.toNat = 0 := by omega
      go_wp2_with fail
      go_meet
      refine ⟨w2.heap.size, by rw [e0], ?_, Nat.le_refl _, (Fr.refl _ _).alloc _⟩
      rw [e0]
      exact made_ints w2 0 (by unfold maxLen; omega)
    · have hmk := fun W => run_make_int W m (by omega) (by omega)
      go_wp2_with fail
      go_meet
      exact ⟨w2.heap.size, rfl, made_ints w2 m.toNat (by unfold maxLen; omega), Nat.le_refl _, (Fr.refl _ _).alloc _⟩
  case rest =>
    obtain ⟨g, rfl, hg, hgl, hgf⟩ := hcut
    have HG := Lib.hid hg
    have HGL := Lib.hid hgl
    have HGF := Lib.hid hgf
    obtain ⟨a0, ha0⟩ : ∃ a0, L.a = a0 := ⟨_, rfl⟩
    have HA0 := Lib.hid ha0
    rw [ha0]
    clear hg hgl hgf ha0
    go_wp2_with fail
    go_loopg [6, 7, 8] 60 (fun gk sv nv iv wr => ∃ (k : Nat) (L : HpL) (H : Hp) (S T : Option Addr) (cs ct : Nat) (ins : List Int), k + gk = 60 ∧ iv = .int .i64 k ∧ k ≤ l.length ∧
      sv = .slice S H.score.length cs ∧ nv = .slice T ins.length ct ∧ HRel w1 wr L H S cs T ct ins ∧ Hid (L.a = a0) ∧ H.score.length ≤ 7 + 4 * k ∧ ins.length ≤ k)
    case atStart =>
      as_aux_lemma =>
        have hz : (Hp.none_.growF m).score = List.replicate m.toNat 0 := by
          have e : (growTo ((Hp.none_).at_.length : Int) m - ((Hp.none_).at_.length : Int)).toNat = m.toNat := by simp [Hp.none_, growTo]; omega
          unfold Hp.growF Hp.growBy
          rw [e]; simp [Hp.none_]
        have hi0 : (Hp.none_.growF m).items = [] := rfl
        have hzl : (Hp.none_.growF m).score.length = m.toNat := by rw [hz]; simp
        refine ⟨0, L, Hp.none_.growF m, some ⟨g, 0, none⟩, none, m.toNat, 0, [], rfl, rfl, Nat.zero_le _, by rw [hzl], rfl, ?_, HA0.out, by rw [hzl]; omega, Nat.le_refl _⟩
        have gl := HGL.out
        have lt2 := G2.out.lt
        have sz := F2.out.size
        refine ⟨G2.out.fr HGF.out (by simp), HI.grow HI.none_ _, M2.out, by rw [hz]; exact HG.out, Ints.nil _, fun k hk => ?_, ?_, F2.out.then_ HGF.out, List.nodup_nil, fun y => by rw [hi0], by rw [hi0]⟩
        · simp only [blks, Option.map_some, Option.map_none, Option.toList_some, Option.toList_none, List.append_nil, List.mem_append, List.mem_singleton] at hk
          rcases hk with hk | hk
          · exact P2.out k hk
          · omega
        · simp only [blks, Option.map_some, Option.map_none, Option.toList_some, Option.toList_none, List.append_nil]
          refine List.nodup_append.2 ⟨G2.out.nodup, by simp, fun a ha b hb => ?_⟩
          simp only [List.mem_singleton] at hb
          have := lt2 a ha
          omega
    case round =>
      obtain ⟨k, L, H, S, T, cs, ct, ins, hk, rfl, hkl, rfl, rfl, hR, ha, hs, hi⟩ := hrel
      have HK := Lib.hid hk
      have HR := Lib.hid hR
      clear hk hR
      by_cases hlt : k < l.length
      · by_cases h60 : k < 60
        · obtain ⟨b, o, rfl, hbl, hx⟩ := HH.out (by omega)
          obtain ⟨c0, c1, c2⟩ := hx k hlt
          clear hx
          have fr1 := F1.out.trans HR.out.fr (fun k hk => .inl hk)
          have e0 : wr.cell? ⟨b, o + k * 3, none⟩ = some (.int .i64 l[k].kind) := (World.cell?_of_block (fr1.block b hbl (by simp))).trans c0
          have e1 : wr.cell? ⟨b, o + k * 3 + 1, none⟩ = some (.int .i64 l[k].x) := (World.cell?_of_block (fr1.block b hbl (by simp))).trans c1
          have e2 : wr.cell? ⟨b, o + k * 3 + 2, none⟩ = some (.int .i64 l[k].by_) := (World.cell?_of_block (fr1.block b hbl (by simp))).trans c2
          clear c0 c1 c2 fr1
          generalize l[k].kind = kd at e0
          generalize l[k].x = x at e1
          generalize l[k].by_ = y at e2
          have hq : -3 ≤ kd.tmod 4 ∧ kd.tmod 4 ≤ 3 := tmod4 kd
          go_upto_region 11 with fail
          obtain ⟨W, hW⟩ : ∃ W, W = wr.alloc (.cells #[.int .i64 kd, .int .i64 x, .int .i64 y] 46) := ⟨_, rfl⟩
          rw [← hW]
          have hO : At W wr.heap.size 46 #[.int .i64 kd, .int .i64 x, .int .i64 y] := by rw [hW]; exact At.new wr _ _
          have hG : Geo w1 W L H S cs H.score T ct ins wr.heap.size #[.int .i64 kd, .int .i64 x, .int .i64 y] := by rw [hW]; exact HR.out.geo _
          have hY := HR.out.says
          generalize wr.heap.size = ob at hO hG ⊢
          clear hW e0 e1 e2
          have o0 := hO.cell 0
          have o1 := hO.cell 1
          have o2 := hO.cell 2
          simp at o0 o1 o2
          have hsame := HR.out.inv.same
          have HGO := Lib.hid hG
          have HY := Lib.hid hY
          clear hG hO hY HR
          go_cut [10] (fun s10 wx => s10 = .bool (H.isB x) ∧ W = wx)
          case first =>
            by_cases x0 : 0 ≤ x
            · by_cases x1 : x < H.score.length
              · go_wp2_with fail
                go_meet
                exact ⟨by simp [Hp.isB, x0, hsame, x1], rfl⟩
              · go_wp2_with fail
                go_meet
                exact ⟨by simp [Hp.isB, hsame, x1], rfl⟩
            · go_wp2_with fail
              go_meet
              exact ⟨by simp [Hp.isB]; omega, rfl⟩
          case rest =>
            obtain ⟨rfl, rfl⟩ := hcut
            obtain ⟨ib, hib⟩ : ∃ ib, H.isB x = ib := ⟨_, rfl⟩
            rw [hib]
            have HIB := Lib.hid hib
            clear hib
            go_upto_block 2 with fail
            have hq2 : 0 ≤ (kd.tmod 4 + 4) % 4 ∧ (kd.tmod 4 + 4) % 4 ≤ 3 := by omega
            generalize (kd.tmod 4 + 4) % 4 = q at hq2 ⊢
            clear hq
            go_cut [6, 7] (fun s6 s7 wx => ∃ (L' : HpL) (H' : Hp) (S' T' : Option Addr) (cs' ct' : Nat) (ins' : List Int), s6 = .slice S' H'.score.length cs' ∧ s7 = .slice T' ins'.length ct' ∧
              Geo w1 wx L' H' S' cs' H'.score T' ct' ins' ob #[.int .i64 kd, .int .i64 x, .int .i64 y] ∧ Says H' H'.score ins' ∧ Hid (L'.a = a0) ∧ H'.score.length ≤ 7 + 4 * (k + 1) ∧ ins'.length ≤ k + 1)
            case first =>
              have ea := ha.out
              subst ea
              have hla : H.at_.length = H.score.length := HY.out.inv.same
              have hpo := HGO.out.at_
              have cc0 := HGO.out.op.cell 0
              have cc1 := HGO.out.op.cell 1
              have cc2 := HGO.out.op.cell 2
              simp at cc0 cc1 cc2
              have HP := Lib.hid hpo
              have HLA := Lib.hid hla
              clear hpo hla o0 o1 o2 hsame
              rcases (by omega : q = 0 ∨ q = 1 ∨ q = 2 ∨ q = 3) with rfl | rfl | rfl | rfl
              · as_aux_lemma =>
                  cases ib with
                  | false =>
                    go_wp2_with fail
                    refine (heap_push_no _ L H HP.out x (.inl HIB.out)).mono ?_
                    rintro e w1 ⟨rfl, rfl⟩
                    go_wp2_with fail
                    go_meet
                    exact ⟨L, H, S, T, cs, ct, ins, rfl, rfl, HGO.out, HY.out, rfl, by omega, by omega⟩
                  | true =>
                    have hin : ins.length ≤ 9223372036854775807 := by omega
                    by_cases hmem : x ∈ ins
                    · have hpl : 0 ≤ H.pl x := by
                        have := (has_mem HY.out.inv.pc x).2 ((HY.out.mem x).1 hmem)
                        simp only [Hp.hasB, Bool.and_eq_true, decide_eq_true_eq] at this
                        exact this.2
                      have HB := Lib.hid hmem
                      have HPL := Lib.hid hpl
                      clear hmem hpl
                      go_wp2_with fail
                      refine (has_is _ T ct ins x HGO.out.ins_.rd hin true (by simp [HB.out])).mono ?_
                      rintro e w3 ⟨rfl, rfl⟩
                      go_wp2_with fail
                      refine (heap_push_no _ L H HP.out x (.inr ⟨HIB.out, HPL.out⟩)).mono ?_
                      rintro e w3 ⟨rfl, rfl⟩
                      go_wp2_with fail
                      go_meet
                      exact ⟨L, H, S, T, cs, ct, ins, rfl, rfl, HGO.out, HY.out, rfl, by omega, by omega⟩
                    · have hpl : H.pl x < 0 := by
                        rcases Int.lt_or_le (H.pl x) 0 with h | h
                        · exact h
                        · exfalso
                          apply hmem
                          rw [HY.out.mem x, ← has_mem HY.out.inv.pc]
                          simp [Hp.hasB, HIB.out, h]
                      have HB := Lib.hid hmem
                      have HPL := Lib.hid hpl
                      have hil : H.items.length < 1048576 := by have := HY.out.len; omega
                      have HIL := Lib.hid hil
                      clear hmem hpl hil
                      go_wp2_with fail
                      refine (has_is _ T ct ins x HGO.out.ins_.rd hin false (by simp [HB.out])).mono ?_
                      rintro e w3 ⟨rfl, rfl⟩
                      go_wp2_with fail
                      refine (heap_push_yes _ L H HP.out HY.out.inv.pc.rng x HIB.out HPL.out HIL.out).mono ?_
                      rintro e w3 ⟨rfl, L2, h1, hE, hf⟩
                      have G3 := HGO.out.heap h1 hE hf
                      obtain ⟨p1, p2, p3, p4, p5⟩ := HY.out.inv.push HIB.out HPL.out
                      have HG3 := Lib.hid G3
                      have HPP := Lib.hid (And.intro p1 (And.intro p2 (And.intro p3 (And.intro p4 p5))))
                      have HE := Lib.hid hE
                      have d1 := G3.op.cell 1
                      simp at d1
                      clear h1 hE hf G3 p1 p2 p3 p4 p5 cc0 cc1 cc2
                      go_wp2_with (at_builtin; refine wpList_append_int _ rfl _ _ rfl T ct ins _ rfl rfl (HG3.out.ins_.alloc _) ⟨w3.heap.size, 0, none⟩ 1 x rfl (by simp) (by omega) ?_; intro g2 cap w4 hi2 hf2 hg2 hs2; have HI2 := Lib.hid hi2; have HF2 := Lib.hid hf2; have HG2 := Lib.hid hg2; clear hi2 hf2 hg2 hs2)
                      go_meet
                      have G4 := (HG3.out.alloc (.cells #[.int .i64 x] 3)).insNew HI2.out HF2.out (fun k hk => by
                        simp only [blks, Option.map_some, Option.toList_some, List.mem_singleton] at hk
                        subst hk
                        exact HG2.out.imp id (fun e => by rw [e]; exact Nat.le_refl _))
                      obtain ⟨q1, q2, q3, q4, q5⟩ := HPP.out
                      refine ⟨L2, H.pushF x, S, some ⟨g2, 0, none⟩, cs, cap, ins ++ [x], by rw [q2], by simp, by rw [q2]; exact G4, ⟨q1, rfl, ?_, ?_, ?_⟩, HE.out.1, by rw [q2]; omega, by simp; omega⟩
                      · rw [List.nodup_append]
                        refine ⟨HY.out.nd, by simp, ?_⟩
                        intro a ha b hb e
                        simp only [List.mem_singleton] at hb
                        subst hb; subst e
                        exact HB.out ha
                      · intro y
                        rw [q5 y, ← HY.out.mem y]
                        simp
                      · rw [q3, ← HY.out.len]; simp
              · as_aux_lemma =>
                  have hin : ins.length ≤ 1048576 := by omega
                  have hrd : ∀ y, y ∈ ins → 0 ≤ y ∧ y < H.score.length := fun y hy => by
                    obtain ⟨j, hj, e⟩ := List.mem_iff_getElem.1 ((HY.out.mem y).1 hy)
                    have := HY.out.inv.pc.rng j hj
                    rw [show H.items[j]! = y by rw [← e]; simp [hj]] at this
                    rw [← HLA.out]; exact this
                  have HRD := Lib.hid hrd
                  clear hrd cc0 cc1 cc2
                  by_cases h0 : 0 < H.items.length
                  · obtain ⟨hr, hb⟩ := HY.out.inv.root h0
                    have hbest := HY.out.best h0
                    obtain ⟨n2, hn2⟩ : ∃ n2, H.items.length = n2 + 1 := ⟨H.items.length - 1, by omega⟩
                    have hrm := (HY.out.mem _).2 hr
                    have hr0 := (HRD.out _ hrm).1
                    obtain ⟨rt, hrt⟩ : ∃ rt, H.it 0 = rt := ⟨_, rfl⟩
                    have hlen : H.items.length < 1048576 := by have := HY.out.len; omega
                    rw [hrt] at hbest hrm hr0
                    have HRT := Lib.hid hrt
                    have HBE := Lib.hid hbest
                    have HRM := Lib.hid hrm
                    have HN2 := Lib.hid hn2
                    have HLN := Lib.hid hlen
                    have H00 := Lib.hid h0
                    clear hr hb hbest hrm hrt hn2 hlen h0
                    go_wp2_with fail
                    refine (best_is _ T S ct cs ins H.score HGO.out.ins_.rd HGO.out.sc.rd HRD.out hin rt HBE.out).mono ?_
                    rintro e w3 ⟨rfl, nd, rfl⟩
                    go_wp2_with fail
                    refine (heap_pop_yes _ L H (HP.out.drewN _) HY.out.inv.pc.rng n2 HN2.out HLN.out).mono ?_
                    rintro e w3 ⟨rfl, h1, hf⟩
                    rw [HRT.out]
                    have G3 := (HGO.out.drewN nd).heap h1 ⟨rfl, fun k hk => .inl hk, id⟩ hf
                    obtain ⟨p1, p2, p3, p4, p5⟩ := HY.out.inv.pop H00.out
                    rw [HRT.out] at p5
                    have HG3 := Lib.hid G3
                    have HPP := Lib.hid (And.intro p1 (And.intro p2 (And.intro p3 (And.intro p4 p5))))
                    clear h1 hf G3 p1 p2 p3 p4 p5
                    go_wp2_with fail
                    refine (without_any _ T ct ins rt HG3.out.ins_.rd (fun ad had => HG3.out.ins_.lt _ (by rw [had]; simp [blks])) hin).mono ?_
                    rintro e w4 ⟨B, d, rfl, hi2, hb2, hf2⟩
                    have G4 := HG3.out.insNew hi2 (hf2.mono (fun k hk => by cases hk)) (fun k hk => .inr (hb2 k hk))
                    have HG4 := Lib.hid G4
                    clear hi2 hb2 hf2 G4
                    go_wp2_with fail
                    go_meet
                    obtain ⟨q1, q2, q3, q4, q5⟩ := HPP.out
                    have hfl := filter_ne_len ins rt HY.out.nd HRM.out
                    refine ⟨L, H.popF, S, B, cs, d, ins.filter (· != rt), by rw [q2], rfl, by rw [q2]; exact HG4.out, ⟨q1, rfl, ?_, ?_, ?_⟩, rfl, by rw [q2]; omega, by rw [hfl]; omega⟩
                    · exact HY.out.nd.filter _
                    · intro y
                      rw [List.mem_filter, q5 y, ← HY.out.mem y]
                      simp
                    · rw [hfl, q3, HY.out.len]
                  · have hi0 : H.items = [] := List.eq_nil_of_length_eq_zero (by omega)
                    have hn0 : ins = [] := List.eq_nil_of_length_eq_zero (by rw [HY.out.len]; omega)
                    subst hn0
                    have HI0 := Lib.hid hi0
                    clear hi0 h0
                    go_wp2_with fail
                    refine (best_is _ T S ct cs [] H.score HGO.out.ins_.rd HGO.out.sc.rd HRD.out hin (-1) rfl).mono ?_
                    rintro e w3 ⟨rfl, nd, rfl⟩
                    go_wp2_with fail
                    refine (heap_pop_no _ L H (HP.out.drewN _) HI0.out).mono ?_
                    rintro e w3 ⟨rfl, rfl⟩
                    go_wp2_with fail
                    refine (without_any _ T ct [] (-1) (HGO.out.ins_.drewN _).rd (fun ad had => HGO.out.ins_.lt _ (by rw [had]; simp [blks])) hin).mono ?_
                    rintro e w4 ⟨B, d, rfl, hi2, hb2, hf2⟩
                    have G4 := (HGO.out.drewN nd).insNew hi2 (hf2.mono (fun k hk => by cases hk)) (fun k hk => .inr (hb2 k hk))
                    have HG4 := Lib.hid G4
                    clear hi2 hb2 hf2 G4
                    go_wp2_with fail
                    go_meet
                    exact ⟨L, H, S, B, cs, d, [], rfl, rfl, HG4.out, HY.out, rfl, by omega, by simp⟩
              · as_aux_lemma =>
                  cases ib with
                  | false =>
                    have HNO : Hid (¬ (H.isB x = true ∧ 0 ≤ y ∧ y ≤ 1099511627776 ∧ H.sc x ≤ 1125899906842624 - y)) := by
                      show ¬ _
                      rw [HIB.out]; simp
                    as_aux_lemma =>
                      go_wp2_with fail
                      refine (heap_raise_no _ L H HP.out x y (by have := HNO.out; exact this)).mono ?_
                      rintro e w3 ⟨rfl, rfl⟩
                      go_wp2_with fail
                      go_quiet (fail)
                      go_wp2_with fail
                      go_meet
                      exact ⟨L, H, _, T, cs, ct, ins, rfl, rfl, HGO.out.drewN _, HY.out, rfl, by omega, by omega⟩
                  | true =>
                    obtain ⟨x0, x1⟩ := Hp.isB_true HIB.out
                    rw [HLA.out] at x1
                    obtain ⟨sg, hsg, _⟩ := HGO.out.sc.pos (i := x.toNat) (by omega)
                    have hcell := HGO.out.sc
                    rw [hsg] at hcell
                    have c3 := hcell.cell (i := x.toNat) (by omega)
                    have f3 := hcell.frozen x.toNat
                    have hsx : H.score[x.toNat]! = H.sc x := rfl
                    rw [hsx] at c3
                    have hsc0 : 0 ≤ H.sc x := HY.out.inv.sc0 x.toNat (by omega)
                    obtain ⟨s, hs2⟩ : ∃ s, H.sc x = s := ⟨_, rfl⟩
                    rw [hs2] at c3 hsc0
                    have HSX := Lib.hid hs2
                    subst hsg
                    clear hcell hsx hs2
                    by_cases y0 : 0 ≤ y
                    · by_cases y1 : y ≤ 1099511627776
                      · by_cases y2 : s ≤ 1125899906842624 - y
                        · have hpl : H.pl x < H.items.length := by
                            by_cases hp : 0 ≤ H.pl x
                            · have := (HY.out.inv.pc.inv x.toNat (by rw [HLA.out]; omega) hp).1
                              have e : H.at_[x.toNat]! = H.pl x := rfl
                              rw [e] at this
                              omega
                            · omega
                          have HPL := Lib.hid hpl
                          clear hpl
                          as_aux_lemma =>
                          go_wp2_with fail
                          refine (heap_raise_yes _ L H HP.out HY.out.inv.pc.rng x y HIB.out y0 y1 (by rw [HSX.out]; exact y2) (by rw [HSX.out]; exact hsc0) HPL.out).mono ?_
                          rintro e w3 ⟨rfl, h1, hf⟩
                          have G3 := HGO.out.heap h1 ⟨rfl, fun k hk => .inl hk, id⟩ hf
                          obtain ⟨p1, p2, p3, p4, p5⟩ := HY.out.inv.raise HIB.out y0 y1 (by rw [HSX.out]; exact y2)
                          rw [HSX.out] at p2
                          have HG3 := Lib.hid G3
                          have HPP := Lib.hid (And.intro p1 (And.intro p2 (And.intro p3 (And.intro p4 p5))))
                          have d1 := G3.op.cell 1
                          have d2 := G3.op.cell 2
                          simp at d1 d2
                          have c3 := G3.sc.cell (i := x.toNat) (by omega)
                          have hsx : H.score[x.toNat]! = H.sc x := rfl
                          rw [hsx, HSX.out] at c3
                          have f3 := G3.sc.frozen x.toNat
                          clear h1 hf G3 p1 p2 p3 p4 p5 cc0 cc1 cc2 hsx
                          have y2' : s ≤ 1125899906842624 - y := y2
                          have e5 : IntKind.i64.wrap (1125899906842624 - y) = 1125899906842624 - y := IntWalk.i64_in _ (by omega)
                          go_wp2_with fail
                          go_quiet (fail)
                          clear e5
                          go_wp2_with fail
                          obtain ⟨V, hV⟩ : ∃ V, V = w3.drewN nq := ⟨_, rfl⟩
                          rw [← hV]
                          have d1 : V.cell? ⟨ob, 1, none⟩ = some (.int .i64 x) := by rw [hV]; exact d1
                          have d2 : V.cell? ⟨ob, 2, none⟩ = some (.int .i64 y) := by rw [hV]; exact d2
                          have c3 : V.cell? ⟨sg, x.toNat, none⟩ = some (.int .i64 s) := by rw [hV]; exact c3
                          have f3 : V.frozen? ⟨sg, x.toNat, none⟩ = false := by rw [hV]; exact f3
                          have G5 := HG3.out.drewN nq
                          rw [← hV] at G5
                          have HG5 := Lib.hid G5
                          clear G5 hV
                          go_region
                          go_wp2_with fail
                          go_meet
                          obtain ⟨q1, q2, q3, q4, q5⟩ := HPP.out
                          have hset := HG5.out.sc.set_ x.toNat (s + y)
                          have G6 := (HG5.out.scNew (hset.drew) (((Fr.refl _ V).setCell (.inl (by simp [blks])) _).drew) (fun k hk => .inl hk))
                          refine ⟨L, H.raiseF x y, some ⟨sg, 0, none⟩, T, cs, ct, ins, by rw [q2]; simp, rfl, by rw [q2]; exact G6, ⟨q1, rfl, HY.out.nd, fun z => by rw [q5 z, HY.out.mem z], by rw [q3, HY.out.len]⟩, rfl, by rw [q2]; simp; omega, by omega⟩
                        · have HNO : Hid (¬ (H.isB x = true ∧ 0 ≤ y ∧ y ≤ 1099511627776 ∧ H.sc x ≤ 1125899906842624 - y)) := by
                            rintro ⟨_, _, _, h⟩
                            rw [HSX.out] at h
                            exact y2 h
                          have y2' : decide (s ≤ 1125899906842624 - y) = false := decide_eq_false y2
                          have e5 : IntKind.i64.wrap (1125899906842624 - y) = 1125899906842624 - y := IntWalk.i64_in _ (by omega)
                          have HE5 := Lib.hid e5
                          clear y2 e5
                          as_aux_lemma =>
                            go_wp2_with fail
                            refine (heap_raise_no _ L H HP.out x y (by have := HNO.out; exact this)).mono ?_
                            rintro e w3 ⟨rfl, rfl⟩
                            go_wp2_with fail
                            have e5 := HE5.out
                            go_quiet (fail)
                            clear e5
                            go_wp2_with fail
                            go_meet
                            exact ⟨L, H, _, T, cs, ct, ins, rfl, rfl, HGO.out.drewN _, HY.out, rfl, by omega, by omega⟩
                      · have HNO : Hid (¬ (H.isB x = true ∧ 0 ≤ y ∧ y ≤ 1099511627776 ∧ H.sc x ≤ 1125899906842624 - y)) := by
                          rintro ⟨_, _, h, _⟩
                          exact y1 h
                        have y1' : decide (y ≤ 1099511627776) = false := decide_eq_false y1
                        clear y1
                        as_aux_lemma =>
                          go_wp2_with fail
                          refine (heap_raise_no _ L H HP.out x y (by have := HNO.out; exact this)).mono ?_
                          rintro e w3 ⟨rfl, rfl⟩
                          go_wp2_with fail
                          go_quiet (fail)
                          go_wp2_with fail
                          go_meet
                          exact ⟨L, H, _, T, cs, ct, ins, rfl, rfl, HGO.out.drewN _, HY.out, rfl, by omega, by omega⟩
                    · have HNO : Hid (¬ (H.isB x = true ∧ 0 ≤ y ∧ y ≤ 1099511627776 ∧ H.sc x ≤ 1125899906842624 - y)) := by
                        rintro ⟨_, h, _, _⟩
                        exact y0 h
                      have y0' : decide (0 ≤ y) = false := decide_eq_false y0
                      clear y0
                      as_aux_lemma =>
                        go_wp2_with fail
                        refine (heap_raise_no _ L H HP.out x y (by have := HNO.out; exact this)).mono ?_
                        rintro e w3 ⟨rfl, rfl⟩
                        go_wp2_with fail
                        go_quiet (fail)
                        go_wp2_with fail
                        go_meet
                        exact ⟨L, H, _, T, cs, ct, ins, rfl, rfl, HGO.out.drewN _, HY.out, rfl, by omega, by omega⟩
              · as_aux_lemma =>
                  have hy5 : -4 ≤ y.tmod 5 ∧ y.tmod 5 ≤ 4 := tmod5 y
                  go_wp2_with fail
                  have hy6 : 0 ≤ y.tmod 5 % 5 ∧ y.tmod 5 % 5 ≤ 4 := by omega
                  generalize y.tmod 5 % 5 = r at hy6 ⊢
                  clear hy5
                  have hml : H.at_.length ≤ 262144 := by rw [HLA.out]; omega
                  refine (heap_grow _ L H HP.out HGO.out.made r hml).mono ?_
                  rintro e w3 ⟨rfl, L2, h1, hE, hf⟩
                  obtain ⟨rn, hrn⟩ : ∃ rn : Nat, r = (rn : Int) := ⟨r.toNat, by omega⟩
                  subst hrn
                  have egf : H.growF (rn : Int) = H.growBy rn := by
                    unfold Hp.growF
                    have := HLA.out
                    rw [show (growTo (H.at_.length : Int) (rn : Int) - (H.at_.length : Int)).toNat = rn from by unfold growTo; omega]
                  rw [egf] at h1
                  have G3 := HGO.out.heap h1 hE hf
                  have HG3 := Lib.hid G3
                  have HE := Lib.hid hE
                  clear h1 hE hf G3 egf cc0 cc1 cc2 hml
                  go_wp2_with fail
                  go_loopg [6, 16] rn (fun g sv mv wz => ∃ (j : Nat) (S2 : Option Addr) (cs2 : Nat) (sc2 : List Int), j + g = rn ∧ mv = .int .i64 j ∧ sv = .slice S2 sc2.length cs2 ∧ Hid (sc2 = H.score ++ List.replicate j 0) ∧ Geo w1 wz L2 (H.growBy rn) S2 cs2 sc2 T ct ins ob #[.int .i64 kd, .int .i64 x, .int .i64 y])
                  case atStart => exact ⟨0, S, cs, H.score, Nat.zero_add _, rfl, rfl, by simp [Hid], HG3.out⟩
                  case round =>
                    obtain ⟨j, S2, cs2, sc2, hj, rfl, rfl, hsc, hg⟩ := hrel
                    have HJ := Lib.hid hj
                    have HGJ := Lib.hid hg
                    have hjl : j ≤ rn := by omega
                    have hsl : sc2.length = H.score.length + j := by rw [hsc.out]; simp
                    have hsl2 : sc2.length ≤ 1048576 := by omega
                    have HSL := Lib.hid hsl
                    clear hj hg hsl
                    by_cases hjr : j < rn
                    · go_wp2_with (at_builtin; refine wpList_append_int _ rfl _ _ rfl S2 cs2 sc2 _ rfl rfl (HGJ.out.sc.alloc _) ⟨wr.heap.size, 0, none⟩ 1 0 rfl (by simp) (by omega) ?_; intro g2 cap w4 hi2 hf2 hg2 hs2; have HI2 := Lib.hid hi2; have HF2 := Lib.hid hf2; have HG2 := Lib.hid hg2; clear hi2 hf2 hg2 hs2)
                      go_roundg (gk - 1)
                      case measure => have := HJ.out; omega
                      case rel =>
                        have G4 := (HGJ.out.alloc (.cells #[.int .i64 0] 3)).scNew HI2.out HF2.out (fun k hk => by
                          simp only [blks, Option.map_some, Option.toList_some, List.mem_singleton] at hk
                          subst hk
                          exact HG2.out.imp id (fun e => by rw [e]; exact Nat.le_refl _))
                        exact ⟨j + 1, some ⟨g2, 0, none⟩, cap, sc2 ++ [0], by have := HJ.out; omega, by go_num, by simp, by show _ = _; rw [hsc.out, List.append_assoc, List.replicate_succ'], G4⟩
                    · obtain rfl : j = rn := by omega
                      go_wp2_with fail
                      go_meet
                      have hgs : (H.growBy j).score = sc2 := hsc.out.symm
                      exact ⟨L2, H.growBy j, S2, T, cs2, ct, ins, by rw [hgs], rfl, by rw [hgs]; exact HGJ.out, ⟨HI.grow HY.out.inv j, rfl, HY.out.nd, HY.out.mem, HY.out.len⟩, HE.out.1, by rw [hgs, HSL.out]; omega, by omega⟩
            case rest =>
              as_aux_lemma =>
                obtain ⟨L', H', S', T', cs', ct', ins', rfl, rfl, hg, hy, hla, hsl, hil⟩ := hcut
                have ea := hla.out
                subst ea
                have HGT := Lib.hid hg
                have HYT := Lib.hid hy
                have hsm := hy.inv.same
                have HSM := Lib.hid hsm
                have d1 := hg.op.cell 1
                simp at d1
                have hin : ins'.length ≤ 9223372036854775807 := by omega
                clear hg hy hsm o0 o1 o2 hsame HY HGO HIB hs hi
                have hl1 : H'.items.length = ins'.length := HYT.out.len.symm
                have HL1 := Lib.hid hl1
                clear hl1
                by_cases xr : 0 ≤ x ∧ x < H'.score.length
                · obtain ⟨x0, x1⟩ := xr
                  obtain ⟨sg, hsg, _⟩ := HGT.out.sc.pos (i := x.toNat) (by omega)
                  have hcell := HGT.out.sc
                  rw [hsg] at hcell
                  have c3 := hcell.cell (i := x.toNat) (by omega)
                  subst hsg
                  have hsx : H'.score[x.toNat]! = H'.sc x := rfl
                  rw [hsx] at c3
                  have hisb : H'.isB x = true := by simp [Hp.isB, x0, HSM.out, x1]
                  have hsb : H'.scB x = H'.sc x := by simp [Hp.scB, hisb]
                  obtain ⟨s, hs2⟩ : ∃ s, H'.sc x = s := ⟨_, rfl⟩
                  rw [hs2] at c3 hsb
                  have HSB := Lib.hid hsb
                  clear hcell hsx hs2 hisb hsb
                  obtain ⟨b, hb⟩ : ∃ b : Bool, decide (x ∈ ins') = b := ⟨_, rfl⟩
                  have hb2 : H'.hasB x = b := by
                    rw [← hb]
                    have := has_mem HYT.out.inv.pc x
                    rw [← HYT.out.mem x] at this
                    cases hh : H'.hasB x with
                    | true => rw [hh] at this; simp [this.1 rfl]
                    | false =>
                      rw [hh] at this
                      have : ¬ x ∈ ins' := fun h => by have := this.2 h; cases this
                      simp [this]
                  have HB := Lib.hid hb
                  have HB2 := Lib.hid hb2
                  clear hb hb2
                  have nn : ((ins'.length : Int) != (ins'.length : Int)) = false := by simp
                  have ns : (s != s) = false := by simp
                  cases b with
                  | true =>
                    as_aux_lemma =>
                    go_wp2_with fail
                    go_quiet ((first | (go_at_call 35; exact quiet_s (heap_len_is _ L' H' (HGT.out.at_.drewN _) _ HL1.out)) | (go_at_call 36; exact quiet_s (heap_has_is _ L' H' (HGT.out.at_.drewN _) x true HB2.out)) | (go_at_call 28; exact quiet_s (has_is _ T' ct' ins' x (HGT.out.ins_.rd.drewN _) hin true HB.out)) | (go_at_call 37; exact quiet_s (heap_score_is _ L' H' (HGT.out.at_.drewN _) x s HSB.out))))
                    go_wp2_with fail
                    go_roundg (gk - 1)
                    case measure => have := HK.out; omega
                    case rel => exact ⟨k + 1, L', H', some ⟨sg, 0, none⟩, T', cs', ct', ins', by have := HK.out; omega, by go_num, by omega, rfl, rfl, (HGT.out.hrel HYT.out).drewN _, rfl, hsl, hil⟩
                  | false =>
                    as_aux_lemma =>
                    go_wp2_with fail
                    go_quiet ((first | (go_at_call 35; exact quiet_s (heap_len_is _ L' H' (HGT.out.at_.drewN _) _ HL1.out)) | (go_at_call 36; exact quiet_s (heap_has_is _ L' H' (HGT.out.at_.drewN _) x false HB2.out)) | (go_at_call 28; exact quiet_s (has_is _ T' ct' ins' x (HGT.out.ins_.rd.drewN _) hin false HB.out)) | (go_at_call 37; exact quiet_s (heap_score_is _ L' H' (HGT.out.at_.drewN _) x s HSB.out))))
                    go_wp2_with fail
                    go_roundg (gk - 1)
                    case measure => have := HK.out; omega
                    case rel => exact ⟨k + 1, L', H', some ⟨sg, 0, none⟩, T', cs', ct', ins', by have := HK.out; omega, by go_num, by omega, rfl, rfl, (HGT.out.hrel HYT.out).drewN _, rfl, hsl, hil⟩
                · have hisb : H'.isB x = false := by
                    cases hh : H'.isB x with
                    | false => rfl
                    | true => have := Hp.isB_true hh; rw [HSM.out] at this; exact absurd this xr
                  have hsb : H'.scB x = 0 := by simp [Hp.scB, hisb]
                  have hb2 : H'.hasB x = false := by simp [Hp.hasB, hisb]
                  have hb : decide (x ∈ ins') = false := by
                    have := has_mem HYT.out.inv.pc x
                    rw [← HYT.out.mem x, hb2] at this
                    have : ¬ x ∈ ins' := fun h => by have := this.2 h; cases this
                    simp [this]
                  have HB := Lib.hid hb
                  have HB2 := Lib.hid hb2
                  have HSB := Lib.hid hsb
                  clear hb hb2 hsb hisb
                  have nn : ((ins'.length : Int) != (ins'.length : Int)) = false := by simp
                  by_cases x0 : 0 ≤ x
                  · have x1 : (H'.score.length : Int) ≤ x := by omega
                    clear xr
                    as_aux_lemma =>
                    go_wp2_with fail
                    go_quiet ((first | (go_at_call 35; exact quiet_s (heap_len_is _ L' H' (HGT.out.at_.drewN _) _ HL1.out)) | (go_at_call 36; exact quiet_s (heap_has_is _ L' H' (HGT.out.at_.drewN _) x false HB2.out)) | (go_at_call 28; exact quiet_s (has_is _ T' ct' ins' x (HGT.out.ins_.rd.drewN _) hin false HB.out)) | (go_at_call 37; exact quiet_s (heap_score_is _ L' H' (HGT.out.at_.drewN _) x 0 HSB.out))))
                    go_wp2_with fail
                    go_roundg (gk - 1)
                    case measure => have := HK.out; omega
                    case rel => exact ⟨k + 1, L', H', S', T', cs', ct', ins', by have := HK.out; omega, by go_num, by omega, rfl, rfl, (HGT.out.hrel HYT.out).drewN _, rfl, hsl, hil⟩
                  · clear xr
                    as_aux_lemma =>
                    go_wp2_with fail
                    go_quiet ((first | (go_at_call 35; exact quiet_s (heap_len_is _ L' H' (HGT.out.at_.drewN _) _ HL1.out)) | (go_at_call 36; exact quiet_s (heap_has_is _ L' H' (HGT.out.at_.drewN _) x false HB2.out)) | (go_at_call 28; exact quiet_s (has_is _ T' ct' ins' x (HGT.out.ins_.rd.drewN _) hin false HB.out)) | (go_at_call 37; exact quiet_s (heap_score_is _ L' H' (HGT.out.at_.drewN _) x 0 HSB.out))))
                    go_wp2_with fail
                    go_roundg (gk - 1)
                    case measure => have := HK.out; omega
                    case rel => exact ⟨k + 1, L', H', S', T', cs', ct', ins', by have := HK.out; omega, by go_num, by omega, rfl, rfl, (HGT.out.hrel HYT.out).drewN _, rfl, hsl, hil⟩
        · have h60' : (60 : Int) ≤ k := by omega
          go_wp2_with fail
          go_ret
          exact ⟨rfl, F1.out.trans HR.out.fr (fun k hk => .inl hk)⟩
      · go_wp2_with fail
        go_ret
        exact ⟨rfl, F1.out.trans HR.out.fr (fun k hk => .inl hk)⟩

end Go.Proofs.Ytnbpnpodpnlamaa
