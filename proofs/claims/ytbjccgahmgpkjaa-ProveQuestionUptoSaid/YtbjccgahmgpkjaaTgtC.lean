/- prove.Target walked. -/
import Derived.Test.YtbjccgahmgpkjaaTgtB
namespace Go.Proofs.Ytbjccgahmgpkjaa
open Go.RowKit
set_option linter.unusedVariables false

/-- DeleteFunc at a row, nil or not. -/
theorem delete_any (w : World) (A : Option Addr) (c : Nat) (l : List Nm) (h : w.ownsRow 0 61 3 (.slice A l.length c) l.length (flatM l)) (hl : l.length ≤ 3518437208781) :
    Calls Try.prog 23 #[.slice A l.length c, .func (.func 24) #[] #[]] w fun e w' => e = .returned (.slice A (kept l).length c) ∧ w'.ownsRow 0 61 3 (.slice A (kept l).length c) (kept l).length (flatM (kept l)) ∧ Fr (blks A) w w' := by
  rcases own_slot h with ⟨rfl, rfl, hl0⟩ | ⟨g, rfl, hg, hn, hm⟩
  · obtain rfl := List.eq_nil_of_length_eq_zero hl0
    have HI := Lib.hid (index_names w none 0 [] (fun h => absurd h (Nat.not_lt_zero _)) (by simp))
    have HH := Lib.hid h
    clear h
    go_enter Try.func23, Try.ntmps23
    go_wp2_with fail
    refine HI.out.mono ?_
    rintro e w1 ⟨hc, hf1⟩
    rcases hc with ⟨rfl, hno⟩ | ⟨n, rfl, hn, hnt, hd⟩
    · have HF := Lib.hid hf1
      clear hf1 hno
      go_wp2_with fail
      go_ret
      exact ⟨rfl, HF.out.own HH.out (by simp), HF.out.mono (by simp)⟩
    · exact absurd hn (Nat.not_lt_zero _)
  · exact (delete_calls w g c l h hl).mono fun e w' ⟨h1, h2, h3⟩ => ⟨h1, h2, h3.mono (by simp [blks])⟩

/-- What Target answers. -/
def z0 : Value := .agg #[.int .i64 0, .slice none 0 0, .slice none 0 0, .slice none 0 0, .slice none 0 0, .slice none 0 0, .slice none 0 0, .slice none 0 0]
def TgP (C : Pc) (xs : List Int) (w : World) (e : Ending) (w' : World) : Prop :=
  ((e = .returned (.tuple #[z0, .int .i64 9]) ∧ ¬ Valid C) ∨
   (e = .returned (.tuple #[z0, .int .i64 4]) ∧ Valid C ∧ inB C.mx xs = false) ∨
   (e = .returned (.tuple #[z0, .int .i64 5]) ∧ Valid C ∧ inB C.mx xs = true ∧ 2048 - C.mx < (xs.length : Int) - 1) ∨
   (∃ H', e = .returned (.tuple #[cval H' (tgt C xs), .int .i64 0]) ∧ Valid C ∧ inB C.mx xs = true ∧ (xs.length : Int) - 1 ≤ 2048 - C.mx ∧ OwC w' w.heap.size H' (tgt C xs))) ∧ Fr [] w w'

set_option maxRecDepth 100000 in
set_option maxHeartbeats 8000000 in
theorem target_calls (w : World) (H : Hd) (C : Pc) (h : CiAt w H C) (hn : NilOk H C) (A : Option Addr) (c : Nat) (xs : List Int) (hx : Rd w A xs) (hr : Ra xs) (hl : xs.length ≤ 17592186044416) (hc : xs.length ≤ c) (hcm : c ≤ maxLen) :
    Calls Try.prog 6 #[cval H C, .slice A xs.length c] w (TgP C xs w) := by
  have HH := Lib.hid h
  have HN := Lib.hid hn
  have HX := Lib.hid hx
  have HR := Lib.hid hr
  have N1 : Hid (∀ W, ¬ Valid C → Fr [] w W → TgP C xs w (.returned (.tuple #[z0, .int .i64 9])) W) := fun W h1 h2 => ⟨.inl ⟨rfl, h1⟩, h2⟩
  have N2 : Hid (∀ W, Valid C → inB C.mx xs = false → Fr [] w W → TgP C xs w (.returned (.tuple #[z0, .int .i64 4])) W) := fun W h1 h2 h3 => ⟨.inr (.inl ⟨rfl, h1, h2⟩), h3⟩
  have N3 : Hid (∀ W, Valid C → inB C.mx xs = true → 2048 - C.mx < (xs.length : Int) - 1 → Fr [] w W → TgP C xs w (.returned (.tuple #[z0, .int .i64 5])) W) := fun W h1 h2 h3 h4 => ⟨.inr (.inr (.inl ⟨rfl, h1, h2, h3⟩)), h4⟩
  have YES : Hid (∀ H' W, Valid C → inB C.mx xs = true → (xs.length : Int) - 1 ≤ 2048 - C.mx → OwC W w.heap.size H' (tgt C xs) → Fr [] w W → TgP C xs w (.returned (.tuple #[cval H' (tgt C xs), .int .i64 0])) W) := fun H' W h1 h2 h3 h4 h5 => ⟨.inr (.inr (.inr ⟨H', rfl, h1, h2, h3, h4⟩)), h5⟩
  have HCK := Lib.hid (fun W (hf : Fr [] w W) => check_calls W H C (h.keep hf))
  clear h hn hx hr
  obtain ⟨mx, ins, lat, outs, bads, invs, ands, nms⟩ := C
  obtain ⟨iA, iC, lA, lC, oA, oC, bA, bC, vA, vC, gA, gC, nA, nC⟩ := H
  simp only [cval, cvs] at *
  go_enter Try.func6, Try.ntmps6
  go_upto_region 1 with fail
  obtain ⟨W0, hW0⟩ : ∃ W, (w.alloc (.cells #[.int .i64 mx, .slice iA ins.length iC, .slice lA lat.length lC, .slice oA outs.length oC, .slice bA bads.length bC, .slice vA invs.length vC, .slice gA ands.length gC, .slice nA nms.length nC] 27)).alloc (.cells #[.int .i64 0, .slice none 0 0, .slice none 0 0, .slice none 0 0, .slice none 0 0, .slice none 0 0, .slice none 0 0, .slice none 0 0] 27) = W := ⟨_, rfl⟩
  rw [hW0]
  have HF0 : Hid (Fr [] w W0) := hW0 ▸ ((box_fr _ _).then_ (box_fr _ _))
  have HB0 : Hid (At W0 w.heap.size 27 #[.int .i64 mx, .slice iA ins.length iC, .slice lA lat.length lC, .slice oA outs.length oC, .slice bA bads.length bC, .slice vA invs.length vC, .slice gA ands.length gC, .slice nA nms.length nC]) := hW0 ▸ (At.new w _ _).alloc _
  have HR0 : Hid (At W0 (w.heap.size + 1) 27 #[.int .i64 0, .slice none 0 0, .slice none 0 0, .slice none 0 0, .slice none 0 0, .slice none 0 0, .slice none 0 0, .slice none 0 0]) := by
    rw [← hW0]
    have := At.new (w.alloc (.cells #[.int .i64 mx, .slice iA ins.length iC, .slice lA lat.length lC, .slice oA outs.length oC, .slice bA bads.length bC, .slice vA invs.length vC, .slice gA ands.length gC, .slice nA nms.length nC] 27)) 27 #[.int .i64 0, .slice none 0 0, .slice none 0 0, .slice none 0 0, .slice none 0 0, .slice none 0 0, .slice none 0 0, .slice none 0 0]
    have e : (w.alloc (.cells #[.int .i64 mx, .slice iA ins.length iC, .slice lA lat.length lC, .slice oA outs.length oC, .slice bA bads.length bC, .slice vA invs.length vC, .slice gA ands.length gC, .slice nA nms.length nC] 27)).heap.size = w.heap.size + 1 := by simp
    rw [e] at this
    exact this
  obtain ⟨bx, hbx⟩ : ∃ bx, w.heap.size = bx := ⟨_, rfl⟩
  rw [hbx] at HB0 HR0 ⊢
  have HBX := Lib.hid hbx
  clear hW0 hbx
  have c0 := HB0.out.cell 0
  have c1 := HB0.out.cell 1
  have c2 := HB0.out.cell 2
  have c3 := HB0.out.cell 3
  have c4 := HB0.out.cell 4
  have c5 := HB0.out.cell 5
  have c6 := HB0.out.cell 6
  have c7 := HB0.out.cell 7
  simp at c0 c1 c2 c3 c4 c5 c6 c7
  go_wp2_with fail
  refine (HCK.out W0 HF0.out).mono ?_
  clear c0 c1 c2 c3 c4 c5 c6 c7
  rintro e W1 ⟨hc, hf1⟩
  have HF1 := Lib.hid (HF0.out.then_ hf1)
  have HB1 := Lib.hid (HB0.out.keep hf1)
  have HR1 := Lib.hid (HR0.out.keep hf1)
  clear HF0 HB0 HR0 hf1
  have r0 := HR1.out.cell 0
  have r1 := HR1.out.cell 1
  have r2 := HR1.out.cell 2
  have r3 := HR1.out.cell 3
  have r4 := HR1.out.cell 4
  have r5 := HR1.out.cell 5
  have r6 := HR1.out.cell 6
  have r7 := HR1.out.cell 7
  have f0 := HR1.out.frozen 0
  have f1 := HR1.out.frozen 1
  have f2 := HR1.out.frozen 2
  have f3 := HR1.out.frozen 3
  have f4 := HR1.out.frozen 4
  have f5 := HR1.out.frozen 5
  have f6 := HR1.out.frozen 6
  have f7 := HR1.out.frozen 7
  simp at r0 r1 r2 r3 r4 r5 r6 r7
  rcases hc with ⟨rfl, hv⟩ | ⟨rfl, hv⟩
  · have c0 := HB1.out.cell 0
    simp at c0
    have HV := Lib.hid hv
    have hm0 := hv.m0
    have hm1 := hv.m1
    simp only at hm0 hm1
    clear hv
    have HLC := Lib.hid (fun W (hf : Fr [] w W) => lcheck_calls W mx A c xs hm0 hm1 (HX.out.keep hf) HR.out hl)
    clear r0 r1 r2 r3 r4 r5 r6 r7 f0 f1 f2 f3 f4 f5 f6 f7
    go_wp2_with fail
    refine (HLC.out W1 HF1.out).mono ?_
    clear c0
    obtain ⟨q, HQ⟩ : ∃ q, Hid (inB mx xs = q) := ⟨_, rfl⟩
    rw [HQ.out]
    rintro e W2 ⟨rfl, hf⟩
    have HF2 := Lib.hid (HF1.out.then_ hf)
    have HB2 := Lib.hid (HB1.out.keep hf)
    have HR2 := Lib.hid (HR1.out.keep hf)
    clear HF1 HB1 HR1 hf HLC HCK
    cases q with
    | false =>
      simp only [lcI, Bool.false_eq_true, if_false]
      have r0 := HR2.out.cell 0
      have r1 := HR2.out.cell 1
      have r2 := HR2.out.cell 2
      have r3 := HR2.out.cell 3
      have r4 := HR2.out.cell 4
      have r5 := HR2.out.cell 5
      have r6 := HR2.out.cell 6
      have r7 := HR2.out.cell 7
      have f0 := HR2.out.frozen 0
      have f1 := HR2.out.frozen 1
      have f2 := HR2.out.frozen 2
      have f3 := HR2.out.frozen 3
      have f4 := HR2.out.frozen 4
      have f5 := HR2.out.frozen 5
      have f6 := HR2.out.frozen 6
      have f7 := HR2.out.frozen 7
      simp at r0 r1 r2 r3 r4 r5 r6 r7
      go_wp2_with fail
      refine bodyPost_ret (v := .tuple #[z0, .int .i64 4]) (by simp [results, go_sem, r0, r1, r2, r3, r4, r5, r6, r7, z0]) rfl ?_
      exact N2.out _ HV.out HQ.out (HF2.out.trans (((((((((Fr.refl [bx + 1] W2).setCell (.inl (by simp)) _).setCell (.inl (by simp)) _).setCell (.inl (by simp)) _).setCell (.inl (by simp)) _).setCell (.inl (by simp)) _).setCell (.inl (by simp)) _).setCell (.inl (by simp)) _).setCell (.inl (by simp)) _) (fun x hx => .inr (by simp at hx; rw [hx, HBX.out]; omega)))
    | true =>
      simp only [lcI, if_true]
      have c0 := HB2.out.cell 0
      simp at c0
      by_cases hlong : 2048 - mx < (xs.length : Int) - 1
      · have d1 : decide (2048 - mx < (xs.length : Int) - 1) = true := decide_eq_true hlong
        have r0 := HR2.out.cell 0
        have r1 := HR2.out.cell 1
        have r2 := HR2.out.cell 2
        have r3 := HR2.out.cell 3
        have r4 := HR2.out.cell 4
        have r5 := HR2.out.cell 5
        have r6 := HR2.out.cell 6
        have r7 := HR2.out.cell 7
        have f0 := HR2.out.frozen 0
        have f1 := HR2.out.frozen 1
        have f2 := HR2.out.frozen 2
        have f3 := HR2.out.frozen 3
        have f4 := HR2.out.frozen 4
        have f5 := HR2.out.frozen 5
        have f6 := HR2.out.frozen 6
        have f7 := HR2.out.frozen 7
        simp at r0 r1 r2 r3 r4 r5 r6 r7
        go_wp2_with fail
        refine bodyPost_ret (v := .tuple #[z0, .int .i64 5]) (by simp [results, go_sem, r0, r1, r2, r3, r4, r5, r6, r7, z0]) rfl ?_
        exact N3.out _ HV.out HQ.out hlong (HF2.out.trans (((((((((Fr.refl [bx + 1] W2).setCell (.inl (by simp)) _).setCell (.inl (by simp)) _).setCell (.inl (by simp)) _).setCell (.inl (by simp)) _).setCell (.inl (by simp)) _).setCell (.inl (by simp)) _).setCell (.inl (by simp)) _).setCell (.inl (by simp)) _) (fun x hx => .inr (by simp at hx; rw [hx, HBX.out]; omega)))
      · have d1 : decide (2048 - mx < (xs.length : Int) - 1) = false := decide_eq_false hlong
        have c1 := HB2.out.cell 1
        have c2 := HB2.out.cell 2
        have c3 := HB2.out.cell 3
        have c4 := HB2.out.cell 4
        have c5 := HB2.out.cell 5
        have c6 := HB2.out.cell 6
        have c7 := HB2.out.cell 7
        simp at c1 c2 c3 c4 c5 c6 c7
        have HCP := Lib.hid (copy_calls W2 _ _ (HH.out.keep HF2.out) HN.out)
        simp only [cval, cvs] at HCP
        clear HN N1 N2 N3
        go_wp2_with fail
        refine HCP.out.mono ?_
        clear HCP c0 c1 c2 c3 c4 c5 c6 c7 d1
        rintro e W3 ⟨⟨iA', iC', lA', lC', oA', oC', bA', bC', vA', vC', gA', gC', nA', nC'⟩, rfl, ho, hf⟩
        simp only [cval, cvs]
        have hb2 : bx + 1 < W2.heap.size := HR2.out.lt
        have HF3 := Lib.hid (HF2.out.then_ hf)
        have HR3 := Lib.hid (HR2.out.keep hf)
        have HO3 := Lib.hid ho
        clear HF2 HB2 HR2 ho
        have hb3 : W2.heap.size ≤ W3.heap.size := hf.size
        clear hf
        go_upto_region 9 with fail
        obtain ⟨W4, hW4⟩ : ∃ W, W3.alloc (.cells #[.int .i64 mx, .slice iA' ins.length iC', .slice lA' lat.length lC', .slice oA' outs.length oC', .slice bA' bads.length bC', .slice vA' invs.length vC', .slice gA' ands.length gC', .slice nA' nms.length nC'] 27) = W := ⟨_, rfl⟩
        rw [hW4]
        have HF4 : Hid (Fr [] w W4) := hW4 ▸ HF3.out.alloc _
        have HR4 : Hid (At W4 (bx + 1) 27 #[.int .i64 0, .slice none 0 0, .slice none 0 0, .slice none 0 0, .slice none 0 0, .slice none 0 0, .slice none 0 0, .slice none 0 0]) := hW4 ▸ HR3.out.alloc _
        have HOB4 : Hid (At W4 W3.heap.size 27 #[.int .i64 mx, .slice iA' ins.length iC', .slice lA' lat.length lC', .slice oA' outs.length oC', .slice bA' bads.length bC', .slice vA' invs.length vC', .slice gA' ands.length gC', .slice nA' nms.length nC']) := hW4 ▸ At.new _ _ _
        have HO4 : Hid (OwC W4 W2.heap.size _ _) := hW4 ▸ HO3.out.keep (box_fr _ _) (by simp)
        have hs4 : W3.heap.size ≤ W4.heap.size := by rw [← hW4]; simp
        obtain ⟨ob, hob⟩ : ∃ ob, W3.heap.size = ob := ⟨_, rfl⟩
        rw [hob] at HOB4 hb3 ⊢
        obtain ⟨B, hB⟩ : ∃ B, W2.heap.size = B := ⟨_, rfl⟩
        rw [hB] at HO4 hb2 hb3
        have HBw : Hid (w.heap.size ≤ B) := (by rw [HBX.out]; omega : w.heap.size ≤ B)
        have HNF : Hid (∀ k, k ∈ blks nA' → B ≤ k ∧ k ≠ ob) := fun k hk => ⟨HO4.out.n.2 k hk, fun e => own_circ HO4.out.n.1 HOB4.out (by decide) (e ▸ hk)⟩
        clear HF3 HR3 HO3 hW4
        have c7 := HOB4.out.cell 7
        simp at c7
        have HD := Lib.hid (delete_any W4 nA' nC' nms HO4.out.n.1 HH.out.nL)
        go_wp2_with fail
        refine HD.out.mono ?_
        rintro e W5 ⟨rfl, hrow, hf⟩
        have HF5 : Hid (Fr [] w W5) := HF4.out.trans hf (fun x hx => .inr (Nat.le_trans HBw.out (HNF.out x hx).1))
        have HR5 : Hid (At W5 (bx + 1) _ _) := hf.at_ HR4.out (fun hm => by have := (HNF.out _ hm).1; omega)
        have HOB5 : Hid (At W5 ob _ _) := hf.at_ HOB4.out (fun hm => (HNF.out _ hm).2 rfl)
        have HO5 := Lib.hid (HO4.out.del hf hrow)
        simp only at HO5
        have hs5 : W4.heap.size ≤ W5.heap.size := hf.size
        have hlob : ob < W4.heap.size := HOB4.out.lt
        clear HF4 HR4 HOB4 HO4 hrow hf c7 HD HNF
        obtain ⟨K, HK⟩ : ∃ K, Hid (kept nms = K) := ⟨_, rfl⟩
        rw [HK.out] at HO5 ⊢
        have c7 := HOB5.out.cell 7
        have z7 := HOB5.out.frozen 7
        simp at c7
        go_upto_region 10 with fail
        obtain ⟨W6, hW6⟩ : ∃ W, W5.setCell ⟨ob, 7, none⟩ (.slice nA' K.length nC') = W := ⟨_, rfl⟩
        rw [hW6]
        have hf6 : Fr [ob] W5 W6 := hW6 ▸ (Fr.refl [ob] W5).setCell (.inl (by simp)) _
        have hs6 : W5.heap.size ≤ W6.heap.size := hf6.size
        have HF6 : Hid (Fr [] w W6) := HF5.out.trans hf6 (fun x hx => .inr (by simp at hx; have := HBw.out; omega))
        have HR6 : Hid (At W6 (bx + 1) _ _) := hf6.at_ HR5.out (fun hm => by simp at hm; omega)
        have HOB6 : Hid (At W6 ob 27 #[.int .i64 mx, .slice iA' ins.length iC', .slice lA' lat.length lC', .slice oA' outs.length oC', .slice bA' bads.length bC', .slice vA' invs.length vC', .slice gA' ands.length gC', .slice nA' K.length nC']) := by
          rw [← hW6]
          have := HOB5.out.set_ 7 (.slice nA' K.length nC')
          exact Lib.hid (by simpa using this)
        have HO6 := Lib.hid (HO5.out.keep hf6 (fun k hk => .inr (.inr ⟨_, by simp at hk; subst hk; exact HOB5.out⟩)))
        clear HF5 HR5 HOB5 HO5 hf6 hW6 c7 z7
        have c4 := (HOB6.out.alloc (.cells #[.int .i64 1] 3)).cell 4
        have z4 := (HOB6.out.alloc (.cells #[.int .i64 1] 3)).frozen 4
        simp at c4
        go_upto_region 11 with fail
        obtain ⟨gb, hgb⟩ : ∃ gb, W6.heap.size = gb := ⟨_, rfl⟩
        have hgo : ob < gb := by omega
        have HLI : Hid (∀ k, k ∈ blks iA' → k < gb) := fun k hk => hgb ▸ own_lt HO6.out.i.1 k hk
        have HLO : Hid (∀ k, k ∈ blks oA' → k < gb) := fun k hk => hgb ▸ own_lt HO6.out.o.1 k hk
        have HLV : Hid (∀ k, k ∈ blks vA' → k < gb) := fun k hk => hgb ▸ own_lt HO6.out.v.1 k hk
        have hsa : (W6.alloc (.cells #[.int .i64 1] 3)).heap.size = gb + 1 := by simp [hgb]
        obtain ⟨W8, hW8⟩ : ∃ W, (W6.alloc (.cells #[.int .i64 1] 3)).setCell ⟨ob, 4, none⟩ (.slice (some ⟨gb, 0, none⟩) 1 1) = W := ⟨_, rfl⟩
        rw [hgb, hW8]
        have hf7 : Fr [] W6 (W6.alloc (.cells #[.int .i64 1] 3)) := box_fr _ _
        have hf8 : Fr [ob] (W6.alloc (.cells #[.int .i64 1] 3)) W8 := hW8 ▸ (Fr.refl [ob] _).setCell (.inl (by simp)) _
        have hf68 : Fr [ob] W6 W8 := (hf7.mono (fun _ h => by cases h)).then_ hf8
        have HF8 : Hid (Fr [] w W8) := HF6.out.trans hf68 (fun x hx => .inr (by simp at hx; have := HBw.out; omega))
        have HR8 : Hid (At W8 (bx + 1) 27 #[.int .i64 0, .slice none 0 0, .slice none 0 0, .slice none 0 0, .slice none 0 0, .slice none 0 0, .slice none 0 0, .slice none 0 0]) := hf68.at_ HR6.out (fun hm => by simp at hm; omega)
        have HOB8 : Hid (At W8 ob 27 #[.int .i64 mx, .slice iA' ins.length iC', .slice lA' lat.length lC', .slice oA' outs.length oC', .slice (some ⟨gb, 0, none⟩) 1 1, .slice vA' invs.length vC', .slice gA' ands.length gC', .slice nA' K.length nC']) := by
          rw [← hW8]
          have := (HOB6.out.alloc (.cells #[.int .i64 1] 3)).set_ 4 (.slice (some ⟨gb, 0, none⟩) 1 1)
          exact Lib.hid (by simpa using this)
        have hnew : At (W6.alloc (.cells #[.int .i64 1] 3)) gb 3 #[.int .i64 1] := hgb ▸ At.new _ _ _
        have hrow : Ow W8 B 3 1 (some ⟨gb, 0, none⟩) 1 1 [.int .i64 1] := ⟨⟨rfl, .inr ⟨gb, 1, #[.int .i64 1], rfl, Nat.zero_le _, hf8.at_ hnew (fun hm => by simp at hm; omega), Nat.le_refl _, by simp [maxLen], rfl, rfl⟩⟩, fun k hk => by simp [blks] at hk; omega⟩
        have HO8 := Lib.hid ((HO6.out.keep hf68 (fun k hk => .inr (.inr ⟨_, by simp at hk; subst hk; exact HOB6.out⟩))).bad (bs := [1]) (A' := some ⟨gb, 0, none⟩) (c' := 1) hrow)
        simp only at HO8
        have hs8 : gb + 1 ≤ W8.heap.size := by have := hf8.size; omega
        clear HF6 HR6 HOB6 HO6 hf7 hf8 hf68 hrow hW8 hnew hsa c4 z4 hgb
        cases xs with
        | nil =>
          have o0 := HOB8.out.cell 0
          have o1 := HOB8.out.cell 1
          have o2 := HOB8.out.cell 2
          have o3 := HOB8.out.cell 3
          have o4 := HOB8.out.cell 4
          have o5 := HOB8.out.cell 5
          have o6 := HOB8.out.cell 6
          have o7 := HOB8.out.cell 7
          simp at o0 o1 o2 o3 o4 o5 o6 o7
          have r0 := HR8.out.cell 0
          have r1 := HR8.out.cell 1
          have r2 := HR8.out.cell 2
          have r3 := HR8.out.cell 3
          have r4 := HR8.out.cell 4
          have r5 := HR8.out.cell 5
          have r6 := HR8.out.cell 6
          have r7 := HR8.out.cell 7
          have f0 := HR8.out.frozen 0
          have f1 := HR8.out.frozen 1
          have f2 := HR8.out.frozen 2
          have f3 := HR8.out.frozen 3
          have f4 := HR8.out.frozen 4
          have f5 := HR8.out.frozen 5
          have f6 := HR8.out.frozen 6
          have f7 := HR8.out.frozen 7
          simp at r0 r1 r2 r3 r4 r5 r6 r7
          have CONV : Hid (∀ W, Fr [bx + 1] W8 W → TgP ⟨mx, ins, lat, outs, bads, invs, ands, nms⟩ [] w (.returned (.tuple #[.agg #[.int .i64 mx, .slice iA' ins.length iC', .slice lA' lat.length lC', .slice oA' outs.length oC', .slice (some ⟨gb, 0, none⟩) 1 1, .slice vA' invs.length vC', .slice gA' ands.length gC', .slice nA' K.length nC'], .int .i64 0])) W) := fun W hfe => by
            have hoe := HO8.out.keep hfe (fun k hk => .inl (by simp at hk; omega))
            have := YES.out ⟨iA', iC', lA', lC', oA', oC', some ⟨gb, 0, none⟩, 1, vA', vC', gA', gC', nA', nC'⟩ W HV.out HQ.out hlong (by simp only [tgt]; rw [HK.out]; exact ⟨hoe.i.less HBw.out, hoe.l.less HBw.out, hoe.o.less HBw.out, hoe.b.less HBw.out, hoe.v.less HBw.out, hoe.g.less HBw.out, hoe.n.less HBw.out⟩) (HF8.out.trans hfe (fun x hx => .inr (by simp at hx; rw [hx, HBX.out]; omega)))
            simp only [tgt] at this
            rw [HK.out] at this
            exact this
          go_wp2_with fail
          refine bodyPost_ret (v := .tuple #[.agg #[.int .i64 mx, .slice iA' ins.length iC', .slice lA' lat.length lC', .slice oA' outs.length oC', .slice (some ⟨gb, 0, none⟩) 1 1, .slice vA' invs.length vC', .slice gA' ands.length gC', .slice nA' K.length nC'], .int .i64 0]) (by simp [results, go_sem, r0, r1, r2, r3, r4, r5, r6, r7]) rfl ?_
          exact CONV.out _ (((((((((Fr.refl [bx + 1] W8).setCell (.inl (by simp)) _).setCell (.inl (by simp)) _).setCell (.inl (by simp)) _).setCell (.inl (by simp)) _).setCell (.inl (by simp)) _).setCell (.inl (by simp)) _).setCell (.inl (by simp)) _).setCell (.inl (by simp)) _)
        | cons x r =>
          simp only [List.length_cons] at hl hc hlong ⊢
          have hml : mx + r.length ≤ 2048 := by omega
          have hal := ands_len _ HV.out
          simp only at hal
          have HGT : Hid (Calls Try.prog 25 #[.pointer (some ⟨ob, 0, none⟩), .slice A (r.length + 1) c] W8.drew (GtP ob ⟨iA', iC', lA', lC', oA', oC', some ⟨gb, 0, none⟩, 1, vA', vC', gA', gC', nA', nC'⟩ ⟨mx, ins, lat, outs, [1], invs, ands, K⟩ x r W8.drew)) := by
            have hlA : ∀ k, k ∈ blks A → k < w.heap.size := by
              obtain ⟨b, o, rfl, hcell⟩ := HX.out (by simp)
              have := lt_of_cell (hcell 0 (by simp))
              intro k hk
              simp [blks] at hk
              rw [hk]; exact this
            exact Lib.hid (gates_calls W8.drew ob ⟨iA', iC', lA', lC', oA', oC', some ⟨gb, 0, none⟩, 1, vA', vC', gA', gC', nA', nC'⟩ ⟨mx, ins, lat, outs, [1], invs, ands, K⟩ A c x r HOB8.out.drew ((Fr.refl [] W8).drew.own HO8.out.g.1 (by simp)) (own_circ HO8.out.g.1 HOB8.out (by decide))
              ((HX.out.keep HF8.out).keep (Fr.refl [] W8).drew) (fun k hk hm => by
                have h1 := hlA k hk
                have h2 := HBw.out
                rcases List.mem_cons.1 hm with rfl | hm
                · omega
                · have := HO8.out.g.2 k hm
                  omega) hc hcm hm0 hml HQ.out hal)
          have c4 := HOB8.out.cell 4
          simp at c4
          go_upto_region 12 with fail
          refine wp_region_noPanic ?_
          refine wp_region_C (fun w' => w'.cell? ⟨ob, 4, none⟩ = some (.slice (some ⟨gb, 0, none⟩) 1 1)) 5 (by kernel_rfl) (c4) (fun hT0 => ?_)
          refine wpAnyC_take0 (i := 0) (oi := ?oir12u1) (v := ?vr12u1) ?hir12u1 (by kernel_rfl) (by kernel_rfl) (by kernel_rfl) (by kernel_rfl) ?hQr12u1 ?hwr12u1 ?hyr12u1 hT0 ?_
          case hir12u1 => (simp only [List.getElem?_toArray, List.getElem?_cons_zero]; rfl)
          case hQr12u1 => exact fun _ _ _ h => h
          case hwr12u1 => rfl
          case hyr12u1 => (intro w; go_simp <;> with_reducible rfl)
          try simp only [Act.put, List.setIfInBounds_toArray, List.set_cons_zero, List.set_cons_succ]
          refine wpAnyC_take (i := 1) (oi := ?oir12u2) (v := ?vr12u2) [1, 5] ?hir12u2 (by kernel_rfl) (by kernel_rfl) (by kernel_rfl) (by kernel_rfl) ?hQr12u2 (.inl ⟨?hwr12u2, ?hyr12u2⟩) ((hT0.more 0).resolve_left (by decide)) ?_
          case hir12u2 => (simp only [List.getElem?_toArray, List.getElem?_cons_succ, List.getElem?_cons_zero]; rfl)
          case hQr12u2 => exact fun _ _ _ h => h
          case hwr12u2 => rfl
          case hyr12u2 => (intro w hSw; skip; go_simp <;> with_reducible rfl)
          try simp only [Act.put, List.setIfInBounds_toArray, List.set_cons_zero, List.set_cons_succ]
          refine wpAnyC_take0 (i := 2) (oi := ?oir12u3) (v := ?vr12u3) ?hir12u3 (by kernel_rfl) (by kernel_rfl) (by kernel_rfl) (by kernel_rfl) ?hQr12u3 ?hwr12u3 ?hyr12u3 ((hT0.more 0).more 1) ?_
          case hir12u3 => (simp only [List.getElem?_toArray, List.getElem?_cons_succ, List.getElem?_cons_zero]; rfl)
          case hQr12u3 => exact fun _ _ _ h => h
          case hwr12u3 => rfl
          case hyr12u3 => (intro w; go_simp <;> with_reducible rfl)
          try simp only [Act.put, List.setIfInBounds_toArray, List.set_cons_zero, List.set_cons_succ]
          have hSx := (((hT0.more 0).more 1).more 2).resolve_left (by decide)
          refine wpAnyC_ready (rs := [3]) (by kernel_rfl) (by simp) ?_
          refine ReadyC.cons (o := ?or12u4) ?hor12u4 ?hstepr12u4 ?_
          case hor12u4 => (simp only [List.getElem?_toArray, List.getElem?_cons_succ, List.getElem?_cons_zero]; rfl)
          case hstepr12u4 =>
            intro K hK
            (go_simp; refine HGT.out.mono ?_; rintro e W9 hg; obtain ⟨rfl, ⟨A9, c9, hbox, hrow, hfar⟩, hfr⟩ := hg; simp only [cvs] at hbox; dsimp only)
            refine hK.out _ _ (.inr ?_) (fun hHeld => ?_)
            · first | exact hSx | (have q4 := hbox.cell 4; simpa using q4)
            have hT4 := hHeld
            clear hHeld
            clear hK K
            try simp only [Act.put, List.setIfInBounds_toArray, List.set_cons_zero, List.set_cons_succ]
            refine wpAnyC_take0 (i := 4) (oi := ?oir12u5) (v := ?vr12u5) ?hir12u5 (by kernel_rfl) (by kernel_rfl) (by kernel_rfl) (by kernel_rfl) ?hQr12u5 ?hwr12u5 ?hyr12u5 hT4 ?_
            case hir12u5 => (simp only [List.getElem?_toArray, List.getElem?_cons_succ, List.getElem?_cons_zero]; rfl)
            case hQr12u5 => exact fun _ _ _ h => h
            case hwr12u5 => rfl
            case hyr12u5 => (intro w; go_simp <;> with_reducible rfl)
            try simp only [Act.put, List.setIfInBounds_toArray, List.set_cons_zero, List.set_cons_succ]
            have hSx := (hT4.more 4).resolve_left (by decide)
            refine wpAnyC_ready (rs := [5]) (by kernel_rfl) (by simp) ?_
            refine ReadyC.cons (o := ?or12u6) ?hor12u6 ?hstepr12u6 ?_
            case hor12u6 => (simp only [List.getElem?_toArray, List.getElem?_cons_succ, List.getElem?_cons_zero]; rfl)
            case hstepr12u6 =>
              intro K hK
              (have HO9 := Lib.hid (OwC.gate (mx' := mx + r.length) (HO8.out.keep (Fr.refl [] W8).drew (by simp)) HOB8.out.drew hfr hrow hfar (by have : gb + 1 ≤ W8.drew.heap.size := hs8; omega)); have HBX9 := Lib.hid hbox; have HFR9 := Lib.hid hfr; clear hbox hrow hfar hfr; simp only at HO9; have q0 := World.ownsRow.cellAt HO9.out.b.1 0 (by simp); have qf := World.ownsRow.frozenAt HO9.out.b.1 0; simp at q0; go_simp)
              refine hK.out _ _ (.inl rfl) (fun hHeld => ?_)
              have hT6 := hHeld
              clear hHeld
              clear hK K
              try simp only [Act.put, List.setIfInBounds_toArray, List.set_cons_zero, List.set_cons_succ]
              refine wpAnyC_done (by kernel_rfl) ?_ _
              refine NoPanic.normal ?_
              obtain ⟨AL, HAL⟩ : ∃ AL, Hid (ands ++ gtAnds mx (notI x) r = AL) := ⟨_, rfl⟩
              rw [HAL.out] at HO9 HBX9
              have hs9 : W8.heap.size ≤ W9.heap.size := HFR9.out.size
              have hf89 : Fr (ob :: blks gA') W8 W9 := ((Fr.refl _ W8).drew).then_ HFR9.out
              have HF9 : Hid (Fr [] w W9) := HF8.out.trans hf89 (fun y hy => .inr (by
                have h2 := HBw.out
                rcases List.mem_cons.1 hy with rfl | hy
                · omega
                · have := HO8.out.g.2 y hy
                  omega))
              have HR9 := Lib.hid (hf89.at_ HR8.out (fun hm => by
                rcases List.mem_cons.1 hm with h | hm
                · omega
                · have := HO8.out.g.2 _ hm
                  omega))
              have HO10 := Lib.hid (HO9.out.setBad (gtAll mx (notI x) r) rfl rfl HLI.out HLO.out HLV.out)
              simp only at HO10
              obtain ⟨W10, hW10⟩ : ∃ W, W9.setCell ⟨gb, 0, none⟩ (.int .i64 (gtAll mx (notI x) r)) = W := ⟨_, rfl⟩
              have hf10 : Fr [gb] W9 W10 := hW10 ▸ (Fr.refl [gb] W9).setCell (.inl (by simp)) _
              rw [hW10] at HO10 ⊢
              have HF10 : Hid (Fr [] w W10) := HF9.out.trans hf10 (fun y hy => .inr (by simp at hy; have := HBw.out; omega))
              have HR10 : Hid (At W10 (bx + 1) 27 #[.int .i64 0, .slice none 0 0, .slice none 0 0, .slice none 0 0, .slice none 0 0, .slice none 0 0, .slice none 0 0, .slice none 0 0]) := hf10.at_ HR9.out (fun hm => by simp at hm; omega)
              have HOB10 : Hid (At W10 ob 27 #[.int .i64 (mx + r.length), .slice iA' ins.length iC', .slice lA' lat.length lC', .slice oA' outs.length oC', .slice (some ⟨gb, 0, none⟩) 1 1, .slice vA' invs.length vC', .slice A9 AL.length c9, .slice nA' K.length nC']) := hf10.at_ HBX9.out (fun hm => by simp at hm; omega)
              clear hT0 hT4 hT6 q0 qf c4 HGT HO9 HBX9 HFR9 hf89 HF9 HR9 hW10 hf10 HF8 HR8 HO8
              clear hSx
              have o0 := HOB10.out.cell 0
              have o1 := HOB10.out.cell 1
              have o2 := HOB10.out.cell 2
              have o3 := HOB10.out.cell 3
              have o4 := HOB10.out.cell 4
              have o5 := HOB10.out.cell 5
              have o6 := HOB10.out.cell 6
              have o7 := HOB10.out.cell 7
              simp at o0 o1 o2 o3 o4 o5 o6 o7
              have r0 := HR10.out.cell 0
              have r1 := HR10.out.cell 1
              have r2 := HR10.out.cell 2
              have r3 := HR10.out.cell 3
              have r4 := HR10.out.cell 4
              have r5 := HR10.out.cell 5
              have r6 := HR10.out.cell 6
              have r7 := HR10.out.cell 7
              have f0 := HR10.out.frozen 0
              have f1 := HR10.out.frozen 1
              have f2 := HR10.out.frozen 2
              have f3 := HR10.out.frozen 3
              have f4 := HR10.out.frozen 4
              have f5 := HR10.out.frozen 5
              have f6 := HR10.out.frozen 6
              have f7 := HR10.out.frozen 7
              simp at r0 r1 r2 r3 r4 r5 r6 r7
              have CONV : Hid (∀ W, Fr [bx + 1] W10 W → TgP ⟨mx, ins, lat, outs, bads, invs, ands, nms⟩ (x :: r) w (.returned (.tuple #[.agg #[.int .i64 (mx + r.length), .slice iA' ins.length iC', .slice lA' lat.length lC', .slice oA' outs.length oC', .slice (some ⟨gb, 0, none⟩) 1 1, .slice vA' invs.length vC', .slice A9 AL.length c9, .slice nA' K.length nC'], .int .i64 0])) W) := fun W hfe => by
                have hoe := HO10.out.keep hfe (fun k hk => .inl (by simp at hk; omega))
                have := YES.out ⟨iA', iC', lA', lC', oA', oC', some ⟨gb, 0, none⟩, 1, vA', vC', A9, c9, nA', nC'⟩ W HV.out HQ.out hlong (by simp only [tgt]; rw [HK.out, HAL.out]; exact ⟨hoe.i.less HBw.out, hoe.l.less HBw.out, hoe.o.less HBw.out, hoe.b.less HBw.out, hoe.v.less HBw.out, hoe.g.less HBw.out, hoe.n.less HBw.out⟩) (HF10.out.trans hfe (fun x hx => .inr (by simp at hx; rw [hx, HBX.out]; omega)))
                simp only [tgt] at this
                rw [HK.out, HAL.out] at this
                exact this
              go_wp2_with fail
              refine bodyPost_ret (v := .tuple #[.agg #[.int .i64 (mx + r.length), .slice iA' ins.length iC', .slice lA' lat.length lC', .slice oA' outs.length oC', .slice (some ⟨gb, 0, none⟩) 1 1, .slice vA' invs.length vC', .slice A9 AL.length c9, .slice nA' K.length nC'], .int .i64 0]) (by simp [results, go_sem, r0, r1, r2, r3, r4, r5, r6, r7]) rfl ?_
              exact CONV.out _ (((((((((Fr.refl [bx + 1] W10).setCell (.inl (by simp)) _).setCell (.inl (by simp)) _).setCell (.inl (by simp)) _).setCell (.inl (by simp)) _).setCell (.inl (by simp)) _).setCell (.inl (by simp)) _).setCell (.inl (by simp)) _).setCell (.inl (by simp)) _)
            exact ReadyC.nil
          exact ReadyC.nil
  · go_wp2_with fail
    refine bodyPost_ret (v := .tuple #[z0, .int .i64 9]) (by simp [results, go_sem, r0, r1, r2, r3, r4, r5, r6, r7, z0]) rfl ?_
    exact N1.out _ hv (HF1.out.trans (((((((((Fr.refl [bx + 1] W1).setCell (.inl (by simp)) _).setCell (.inl (by simp)) _).setCell (.inl (by simp)) _).setCell (.inl (by simp)) _).setCell (.inl (by simp)) _).setCell (.inl (by simp)) _).setCell (.inl (by simp)) _).setCell (.inl (by simp)) _) (fun x hx => .inr (by simp at hx; rw [hx, HBX.out]; omega)))


end Go.Proofs.Ytbjccgahmgpkjaa
