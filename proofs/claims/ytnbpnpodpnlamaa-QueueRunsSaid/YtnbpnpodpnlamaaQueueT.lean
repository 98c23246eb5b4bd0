/- The law QueueRuns walked. -/
import Derived.Test.YtnbpnpodpnlamaaQueueN
import Derived.Deep.DeepCutAuto
import Derived.Deep.CutBlock
import Derived.BigQuiet
import Derived.BigRegion
namespace Go.Proofs.Ytnbpnpodpnlamaa
open Go.RowKit
set_option linter.unusedVariables false

theorem tmod3q (x : Int) : -2 ≤ x.tmod 3 ∧ x.tmod 3 ≤ 2 := by
  have h1 := Int.tmod_lt_of_pos x (b := 3) (by omega)
  have h2 := Int.lt_tmod_of_pos x (b := 3) (by omega)
  omega

theorem step_append_rd {w : World} {ops : Array Oper} {o : Oper} {a : Act} {K : Act → World → Prop} {Q : Exit → Act → World → Prop} {E : Prop} (hgd : o.guard = none) (s x : Operand)
    (ho : o.op = .call { callee := .builtin .append, args := #[s, x], argTypes := #[22, 22] }) (A : Option Addr) (c : Nat) (xs : List Int) (n : Nat) (hs : a.eval s = .slice A n c) (hn : n = xs.length) (hown : Ints w A c xs)
    (ad : Addr) (m c' : Nat) (hx : a.eval x = .slice (some ad) m c') (ys : List Int) (hm : ys.length = m) (hr : ∀ j : Nat, j < ys.length → w.cell? (ad.add j) = some (.int .i64 ys[j]!)) (hlen : xs.length + ys.length ≤ 17592186044416)
    (h : ∀ A' cap w', Ints w' A' cap (xs ++ ys) → Fr (blks A) w w' → (∀ k, k ∈ blks A' → k ∈ blks A ∨ k = w.heap.size) → w.heap.size ≤ w'.heap.size → K (a.put o.dst (.slice A' (n + m) cap)) w') :
    if Region.wanted o (yielded ops a.tmps) = true then Oper.wp Try.prog o a w K Q else E := by
  have hw : Region.wanted o (yielded ops a.tmps) = true := by simp [Region.wanted, hgd]
  rw [if_pos hw]
  subst hn hm
  obtain ⟨A', cap, w', hrun, h2, h3, h4, h5, h6, h7⟩ := run_append_row w 22 o.type 3 (.int .i64 0) 1 8 Try.underlying22 infoInt rfl (by decide) A c xs.length (xs.map (Value.int .i64)) hown ad ys.length c' (ys.map (Value.int .i64)) (by simp) (fun j u hu => by
    simp only [List.getElem?_map, Option.map_eq_some_iff] at hu
    obtain ⟨y, hy, rfl⟩ := hu
    have hj := (List.getElem?_eq_some_iff.1 hy).1
    have := hr j hj
    rw [List.getElem!_eq_getElem?_getD, hy] at this
    exact this) (by simp [Value.oneCell']) (by unfold maxLen; omega) (by omega)
  unfold Oper.wp execOp
  simp only [ho, resolve, invoke, builtin, Sem.run_bind, Sem.run_pure, Result.andThen_ok, List.map_toArray, List.map_cons, List.map_nil, hs, hx, hrun]
  refine h A' cap w' ?_ h3 h4 h5
  unfold Ints
  rw [List.length_append, List.map_append]
  exact h2

set_option maxRecDepth 100000 in
set_option maxHeartbeats 40000000 in
theorem queue_runs (w : World) (A0 : Option Addr) (c0 : Nat) (l : List QOp) (h : RdQops w A0 l) (hl : l.length ≤ 9223372036854775807)
    (hm : ∀ j : Nat, (hj : j < l.length) → Cub w l[j].m ∧ (-9223372036854775808 ≤ l[j].m.l ∧ l[j].m.l ≤ 9223372036854775807) ∧ (-9223372036854775808 ≤ l[j].m.f ∧ l[j].m.f ≤ 9223372036854775807) ∧
      (-9223372036854775808 ≤ l[j].id ∧ l[j].id ≤ 9223372036854775807) ∧ (-9223372036854775808 ≤ l[j].lev ∧ l[j].lev ≤ 9223372036854775807)) :
    Calls Try.prog 9 #[.slice A0 l.length c0] w fun e w' => e = .returned (.bool true) ∧ Fr [] w w' := by
  have HH := Lib.hid h
  have HR := Lib.hid hm
  clear h hm
  go_enter Try.func9, Try.ntmps9
  go_wp2_with fail
  refine (queue_alive _).mono ?_
  rintro e w1 ⟨rfl, hf⟩
  have F1 := Lib.hid hf
  clear hf
  go_wp2_with fail
  refine (qr_new w w1 F1.out).mono ?_
  rintro e w2 ⟨a0, L0, rfl, hq⟩
  have HQ0 := Lib.hid hq
  clear hq
  go_wp2_with fail
  go_loopg [4, 5, 6] 40 (fun gk sN sV iv wr => ∃ (k : Nat) (L : Ql) (M : List Im) (W : List Int) (A : Option Addr) (c : Nat) (N : List Im) (B : Option Addr) (d : Nat), k + gk = 40 ∧ iv = .int .i64 k ∧ k ≤ l.length ∧
    sN = .slice A N.length c ∧ sV = .slice B W.length d ∧ QR [] w a0 wr L M W A c N B d W ∧ QInv w M N W k)
  case atStart => exact ⟨0, L0, [], [], none, 0, [], none, 0, rfl, rfl, Nat.zero_le _, rfl, rfl, HQ0.out, QInv.start w⟩
  case round =>
    clear HQ0 F1
    obtain ⟨k, L, M, W, A, c, N, B, d, hk, rfl, hkl, rfl, rfl, hq, hi⟩ := hrel
    have HK := Lib.hid hk
    have HQ := Lib.hid hq
    have HI := Lib.hid hi
    have hk40 : k ≤ 40 := by omega
    clear hk hq hi
    by_cases hlt : k < l.length
    · by_cases h40 : k < 40
      · obtain ⟨b, o, rfl, hbl, hx⟩ := HH.out (by omega)
        obtain ⟨c0', c1, c2, c3, c4, c5, c6⟩ := hx k hlt
        obtain ⟨r0, r1, r2, r3, r4⟩ := HR.out k hlt
        clear hx
        have fr1 := HQ.out.fr
        have tr : ∀ {j : Nat} {v : Value}, w.cell? ⟨b, j, none⟩ = some v → wr.cell? ⟨b, j, none⟩ = some v := fun h => (World.cell?_of_block (fr1.block b hbl (by simp))).trans h
        have e0 := tr c0'
        have e1 := tr c1
        have e2 := tr c2
        have e3 := tr c3
        have e4 := tr c4
        have e5 := tr c5
        have e6 := tr c6
        clear c0' c1 c2 c3 c4 c5 c6 fr1 tr
        obtain ⟨op, hop⟩ : ∃ op, l[k] = op := ⟨_, rfl⟩
        rw [hop] at e0 e1 e2 e3 e4 e5 e6 r0 r1 r2 r3 r4
        clear hop
        obtain ⟨kd, ⟨ml, mC, mn, mc, ms, mf, mx⟩, id, lev⟩ := op
        simp only at e0 e1 e2 e3 e4 e5 e6 r0 r1 r2 r3 r4
        have HCM := Lib.hid r0
        clear r0
        have hkd : -2 ≤ kd.tmod 3 ∧ kd.tmod 3 ≤ 2 := tmod3q kd
        go_upto_region 10 with fail
        obtain ⟨W1, hW1⟩ : ∃ W1, W1 = wr.alloc (.cells #[.int .i64 kd, .int .i64 ml, .slice mC mn mc, .string ms, .int .i64 mf, .int .i64 id, .int .i64 lev] 72) := ⟨_, rfl⟩
        rw [← hW1]
        rw [show decide ((k : Int) < 40) = true from decide_eq_true (by omega)]
        have hO : At W1 wr.heap.size 72 #[.int .i64 kd, .int .i64 ml, .slice mC mn mc, .string ms, .int .i64 mf, .int .i64 id, .int .i64 lev] := by rw [hW1]; exact At.new wr _ _
        have hQ1 : QR [] w a0 W1 L M W A c N B d W := by rw [hW1]; exact HQ.out.alloc _
        have hobn : wr.heap.size ∉ QR.all L A B := fun hk => by have := HQ.out.lt _ hk; omega
        generalize wr.heap.size = ob at hO hobn ⊢
        clear hW1 e0 e1 e2 e3 e4 e5 e6 HQ
        have hAN := hQ1.anchor
        have hF0 : ∀ x, x ∈ QR.all L A B → w.heap.size ≤ x := fun x hx => (hQ1.key x hx).resolve_left (by simp)
        obtain ⟨F, hF⟩ : ∃ F, QR.all L A B = F := ⟨_, rfl⟩
        rw [hF] at hAN hobn hF0
        have HQ1 := Lib.hid hQ1
        have HAN := Lib.hid hAN
        have HFE := Lib.hid hF
        have HF0 := Lib.hid hF0
        have HO := Lib.hid hO
        have HOB := Lib.hid hobn
        have o0 := hO.cell 0
        have o1 := hO.cell 1
        have o2 := hO.cell 2
        have o3 := hO.cell 3
        have o4 := hO.cell 4
        have o5 := hO.cell 5
        have o6 := hO.cell 6
        simp at o0 o1 o2 o3 o4 o5 o6
        have hlN := HI.out.len
        have hlM := HI.out.lenM
        have hlW := HI.out.lenW
        clear hQ1 hAN hF hF0 hO hobn
        go_upto_block 2 with fail
        have hq2 : 0 ≤ (kd.tmod 3 + 3) % 3 ∧ (kd.tmod 3 + 3) % 3 ≤ 2 := by omega
        generalize (kd.tmod 3 + 3) % 3 = q at hq2 ⊢
        clear hkd
        go_cut [4, 5] (fun s4 s5 wx => ∃ (L' : Ql) (M' : List Im) (W' : List Int) (A' : Option Addr) (c' : Nat) (N' : List Im) (B' : Option Addr) (d' : Nat), s4 = .slice A' N'.length c' ∧ s5 = .slice B' W'.length d' ∧
          QR F W1 a0 wx L' M' W' A' c' N' B' d' W' ∧ QInv w M' N' W' (k + 1))
        case first =>
          have HLN := Lib.hid hlN
          clear hlN
          by_cases q0 : q = 0
          · subst q0
            as_aux_lemma =>
              have hbw : ∃ bw : Bool, (bw = true ∧ 0 ≤ ml ∧ (mf = 0 ∨ (mf ≠ 0 ∧ 1 ≤ mf ∧ mf ≤ N.length))) ∨ (bw = false ∧ (ml < 0 ∨ (0 ≤ ml ∧ mf ≠ 0 ∧ (¬ 1 ≤ mf ∨ (1 ≤ mf ∧ ¬ mf ≤ N.length))))) := by
                by_cases p1 : 0 ≤ ml
                · by_cases p2 : mf = 0
                  · exact ⟨true, .inl ⟨rfl, p1, .inl p2⟩⟩
                  · by_cases p3 : 1 ≤ mf
                    · by_cases p4 : mf ≤ N.length
                      · exact ⟨true, .inl ⟨rfl, p1, .inr ⟨p2, p3, p4⟩⟩⟩
                      · exact ⟨false, .inr ⟨rfl, .inr ⟨p1, p2, .inr ⟨p3, p4⟩⟩⟩⟩
                    · exact ⟨false, .inr ⟨rfl, .inr ⟨p1, p2, .inl p3⟩⟩⟩
                · exact ⟨false, .inr ⟨rfl, .inl (by omega)⟩⟩
              obtain ⟨bw, hbw⟩ := hbw
              have HBW := Lib.hid hbw
              go_upto_region 22 with fail
              go_cut [8] (fun s8 wx => s8 = .bool bw ∧ W1 = wx)
              case first =>
                rcases hbw with ⟨rfl, p1, rfl | ⟨p2, p3, p4⟩⟩ | ⟨rfl, p1 | ⟨p1, p2, p3 | ⟨p3, p4⟩⟩⟩
                · as_aux_lemma => (go_wp2_with fail; go_meet; exact ⟨by simp, rfl⟩)
                · have hb : (mf == 0) = false := beq_eq_false_iff_ne.2 p2
                  as_aux_lemma => (go_wp2_with fail; go_meet; exact ⟨by simp, rfl⟩)
                · as_aux_lemma => (go_wp2_with fail; go_meet; exact ⟨by simp, rfl⟩)
                · have hb : (mf == 0) = false := beq_eq_false_iff_ne.2 p2
                  as_aux_lemma => (go_wp2_with fail; go_meet; exact ⟨by simp, rfl⟩)
                · have hb : (mf == 0) = false := beq_eq_false_iff_ne.2 p2
                  as_aux_lemma => (go_wp2_with fail; go_meet; exact ⟨by simp, rfl⟩)
              case rest =>
                obtain ⟨rfl, rfl⟩ := hcut
                clear hbw
                cases bw with
                | true =>
                  have hy : 0 ≤ ml ∧ (mf = 0 ∨ (mf ≠ 0 ∧ (decide (1 ≤ mf) && decide (mf ≤ M.length)) = true)) := by
                    rcases HBW.out with ⟨_, h1, h2⟩ | ⟨h, _⟩
                    · refine ⟨h1, h2.imp (fun h => h) (fun h => ⟨h.1, ?_⟩)⟩
                      have h3 := h.2.2
                      rw [HLN.out] at h3
                      simp only [decide_eq_true h.2.1, decide_eq_true h3, Bool.and_true]
                    · cases h
                  have HY := Lib.hid hy
                  clear hy
                  as_aux_lemma =>
                    go_wp2_with fail
                    refine (HAN.out.put_yes (⟨ml, mC, mn, mc, ms, mf, mx⟩ : Im) (HCM.out.keep HQ1.out.fr) HY.out.1 HY.out.2 (by omega) (by omega) N.length HLN.out.symm).mono ?_
                    rintro e w3 ⟨rfl, L3, C3, c3, hq3⟩
                    have hO3 := hq3.fr.at_ HO.out HOB.out
                    have o1 := hO3.cell 1
                    have o2 := hO3.cell 2
                    have o3 := hO3.cell 3
                    have o4 := hO3.cell 4
                    simp at o1 o2 o3 o4
                    have HQ3 := Lib.hid hq3
                    have hNl : N.length ≤ 2097152 := by rw [HLN.out]; omega
                    clear hq3 hO3
                    go_wp2_with (at_builtin; first | (refine wpList_append_item _ rfl _ _ rfl A c N _ rfl rfl (HQ3.out.its.alloc _) w3.heap.size 1 rfl (⟨ml, mC, mn, mc, ms, mf, mx⟩ : Im) (At.new _ _ _) (by omega) ?_; intro g2 cap w4 hi2 hf2 hg2 hs2; have HI4 := Lib.hid hi2; have HF4 := Lib.hid hf2; have HG4 := Lib.hid hg2; clear hi2 hf2 hg2 hs2) | (refine wpList_append_int _ rfl _ _ rfl B d W _ rfl rfl ((((HQ3.out.alloc _).items HI4.out HF4.out (fun x hx => (by simp only [blks, Option.map_some, Option.toList_some, List.mem_singleton] at hx; subst hx; exact HG4.out.imp (fun e => e) (fun e => by rw [e]; exact Nat.le_refl _)))).ws).alloc _) ⟨w4.heap.size, 0, none⟩ 1 ((N.length : Int) + 1) rfl (by simp) (by omega) ?_; intro g3 cap3 w5 hi2 hf2 hg2 hs2; have HI5 := Lib.hid hi2; have HF5 := Lib.hid hf2; have HG5 := Lib.hid hg2; clear hi2 hf2 hg2 hs2))
                    go_meet
                    have q4 := (HQ3.out.alloc _).items HI4.out HF4.out (fun x hx => (by simp only [blks, Option.map_some, Option.toList_some, List.mem_singleton] at hx; subst hx; exact HG4.out.imp (fun e => e) (fun e => by rw [e]; exact Nat.le_refl _)))
                    have q5 := (q4.alloc _).waits HI5.out HF5.out (fun x hx => (by simp only [blks, Option.map_some, Option.toList_some, List.mem_singleton] at hx; subst hx; exact HG5.out.imp (fun e => e) (fun e => by rw [e]; exact Nat.le_refl _)))
                    have e1 : ((N.length : Int) + 1) = ((M.length + 1 : Nat) : Int) := by have := HLN.out; omega
                    rw [e1] at q5
                    have hqi := HI.out.put (⟨ml, mC, mn, mc, ms, mf, mx⟩ : Im) { (⟨ml, mC, mn, mc, ms, mf, mx⟩ : Im) with C := C3, c := c3 } rfl HY.out.1 (by simp only; omega) (by
                      rcases HY.out.2 with h | ⟨_, h⟩
                      · simp only [h]; omega
                      · simp only [Bool.and_eq_true, decide_eq_true_eq] at h
                        exact h.2) HCM.out
                    exact ⟨L3, _, _, _, _, _, _, _, by simp, by simp, q5, hqi⟩
                | false =>
                  have hn : ml < 0 ∨ (0 ≤ ml ∧ mf ≠ 0 ∧ (decide (1 ≤ mf) && decide (mf ≤ M.length)) = false) := by
                    rcases HBW.out with ⟨h, _⟩ | ⟨_, h⟩
                    · cases h
                    · rw [HLN.out] at h
                      rcases h with h | ⟨h1, h2, h3 | ⟨h3, h4⟩⟩
                      · exact .inl h
                      · exact .inr ⟨h1, h2, by rw [decide_eq_false h3, Bool.false_and]⟩
                      · exact .inr ⟨h1, h2, by rw [decide_eq_false h4, Bool.and_false]⟩
                  have HNo := Lib.hid hn
                  clear hn
                  as_aux_lemma =>
                    go_wp2_with fail
                    refine (HAN.out.put_no (⟨ml, mC, mn, mc, ms, mf, mx⟩ : Im) HNo.out).mono ?_
                    rintro e w3 ⟨rfl, hq3⟩
                    have HQ3 := Lib.hid hq3
                    clear hq3
                    go_wp2_with fail
                    go_meet
                    exact ⟨L, M, W, A, c, N, B, d, rfl, rfl, HQ3.out, HI.out.mono⟩
          · by_cases q1 : q = 1
            · subst q1
              clear q0
              as_aux_lemma =>
                go_wp2_with fail
                go_loopg [11, 12] W.length (fun gk s11 s12 wz => ∃ (j n p : Nat), j + gk = W.length ∧ s12 = .int .i64 j ∧ ((j = 0 ∧ s11 = .int .i64 (-1)) ∨ (0 < j ∧ s11 = .int .i64 p ∧ FMin M W j p)) ∧ W1.drewN n = wz)
                case atStart => exact ⟨0, 0, 0, by omega, rfl, .inl ⟨rfl, rfl⟩, rfl⟩
                case round =>
                  obtain ⟨j, n, p, hj, rfl, hcase, rfl⟩ := hrel
                  have HJ := Lib.hid hj
                  have hj2 : j ≤ W.length := by omega
                  clear hj
                  by_cases hjs : j < W.length
                  · rcases hcase with ⟨hj0, rfl⟩ | ⟨hj0, rfl, hfm⟩
                    · have HJ0 := Lib.hid hj0
                      clear hj0
                      as_aux_lemma =>
                        go_wp2_with fail
                        go_quiet (fail)
                        go_wp2_with fail
                        go_roundg (gk - 1)
                        case measure => have := HJ.out; omega
                        case rel =>
                          refine ⟨j + 1, _, j, by have := HJ.out; omega, by go_num, .inr ⟨by omega, rfl, by omega, fun t ht => ?_, fun t ht => ?_⟩, rfl⟩
                          · have := HJ0.out; omega
                          · have := HJ0.out
                            rw [show t = j by omega]; exact Int.le_refl _
                    · have HFM := Lib.hid hfm
                      have hpj : p < W.length := Nat.lt_trans hfm.1 hjs
                      obtain ⟨ix, hix, hxi, hxl, -, -⟩ := HI.out.ok.of hjs
                      obtain ⟨iy, hiy, hyi, hyl, -, -⟩ := HI.out.ok.of hpj
                      have hNx := (Prod.mk.inj (HI.out.get hix)).1
                      have hNy := (Prod.mk.inj (HI.out.get hiy)).1
                      have hws := HAN.out.ws
                      have hits := HAN.out.its
                      have hixN : ix < N.length := by rw [HLN.out]; exact hix
                      have hiyN : iy < N.length := by rw [HLN.out]; exact hiy
                      obtain ⟨gB, hgB, -⟩ := hws.pos hjs
                      obtain ⟨gN, hgN, -⟩ := hits.pos hixN
                      rw [hgB] at hws
                      rw [hgN] at hits
                      have cj := hws.cell hjs
                      have cp := hws.cell hpj
                      obtain ⟨nx, -, -, -⟩ := hits.cell hixN
                      obtain ⟨ny, -, -, -⟩ := hits.cell hiyN
                      obtain ⟨x, hx⟩ : ∃ x, W[j]! = x := ⟨_, rfl⟩
                      obtain ⟨y, hy⟩ : ∃ y, W[p]! = y := ⟨_, rfl⟩
                      obtain ⟨lx, hlx⟩ : ∃ lx, (N[ix]!).l = lx := ⟨_, rfl⟩
                      obtain ⟨ly, hly⟩ : ∃ ly, (N[iy]!).l = ly := ⟨_, rfl⟩
                      have HLX : Hid (lv M W[j]! = lx) := by show _ = _; rw [hxl, ← hlx]; exact hNx
                      have HLY : Hid (lv M W[p]! = ly) := by show _ = _; rw [hyl, ← hly]; exact hNy
                      rw [hx] at cj hxi
                      rw [hy] at cp hyi
                      rw [hlx] at nx
                      rw [hly] at ny
                      have idx : x - 1 = ix := by omega
                      have idy : y - 1 = iy := by omega
                      have hwx : IntKind.i64.wrap (ix : Int) = ix := IntWalk.i64_in _ (by omega)
                      have hwy : IntKind.i64.wrap (iy : Int) = iy := IntWalk.i64_in _ (by omega)
                      have hxz : (ix : Int) < N.length := by omega
                      have hyz : (iy : Int) < N.length := by omega
                      have hpz : ((p : Int) < 0) = False := by simp
                      have hpz2 : (p : Int) < W.length := by omega
                      subst hgB
                      subst hgN
                      clear hfm hx hy hlx hly hxl hyl hNx hNy hws hits hxi hyi
                      by_cases hlt2 : lx < ly
                      · as_aux_lemma =>
                          go_wp2_with fail
                          go_quiet (fail)
                          go_wp2_with fail
                          go_roundg (gk - 1)
                          case measure => have := HJ.out; omega
                          case rel =>
                            refine ⟨j + 1, _, j, by have := HJ.out; omega, by go_num, .inr ⟨by omega, rfl, by omega, fun t ht => ?_, fun t ht => ?_⟩, rfl⟩
                            · have h1 := HFM.out.2.2 t ht
                              have h2 := HLX.out
                              have h3 := HLY.out
                              omega
                            · by_cases e : t = j
                              · rw [e]; exact Int.le_refl _
                              · have h1 := HFM.out.2.2 t (by omega)
                                have h2 := HLX.out
                                have h3 := HLY.out
                                omega
                      · as_aux_lemma =>
                          go_wp2_with fail
                          go_quiet (fail)
                          go_wp2_with fail
                          go_roundg (gk - 1)
                          case measure => have := HJ.out; omega
                          case rel =>
                            refine ⟨j + 1, _, p, by have := HJ.out; omega, by go_num, .inr ⟨by omega, rfl, Nat.lt_succ_of_lt HFM.out.1, HFM.out.2.1, fun t ht => ?_⟩, rfl⟩
                            by_cases e : t = j
                            · have h2 := HLX.out
                              have h3 := HLY.out
                              rw [e]; omega
                            · exact HFM.out.2.2 t (by omega)
                  · have hje : j = W.length := by omega
                    have HQn := Lib.hid (HAN.out.drewN n)
                    rcases hcase with ⟨hj0, rfl⟩ | ⟨hj0, rfl, hfm⟩
                    · obtain rfl : W = [] := List.eq_nil_of_length_eq_zero (by omega)
                      clear hj0 hje hj2
                      as_aux_lemma =>
                        go_wp2_with fail
                        refine HQn.out.take_none.mono ?_
                        rintro e w3 ⟨rfl, hq3⟩
                        simp only [Im.zero, Im.val]
                        go_upto_region 37 with fail
                        obtain ⟨X, hX⟩ : ∃ X, X = w3.alloc (.cells #[.int .i64 0, .slice none 0 0, .string ⟨#[]⟩, .int .i64 0] 38) := ⟨_, rfl⟩
                        rw [← hX]
                        have hX0 : At X w3.heap.size 38 #[.int .i64 0, .slice none 0 0, .string ⟨#[]⟩, .int .i64 0] := by rw [hX]; exact At.new _ _ _
                        have HQX : Hid (QR F W1 a0 X L M [] A c N B d []) := by rw [hX]; exact hq3.alloc _
                        have HXB := Lib.hid hX0
                        clear hX hX0 hq3
                        go_upto_region 39 with fail
                        go_cut [234] (fun st wx => st = .bool false ∧ Fr [] X wx)
                        case first =>
                          as_aux_lemma =>
                            refine wp_region_noPanic ?_
                            refine wp_region_C (fun w' : World => Fr [] X w') 32 (by kernel_rfl) ((Fr.refl [] X).drew) (fun hT0 => ?_)
                            refine wpAnyC_take0 (i := 0) (oi := ?oinr39u1) (v := ?vnr39u1) ?hinr39u1 (by kernel_rfl) (by kernel_rfl) (by kernel_rfl) (by kernel_rfl) ?hQnr39u1 ?hwnr39u1 ?hynr39u1 hT0 ?_
                            case hinr39u1 => (simp only [List.getElem?_toArray, List.getElem?_cons_zero]; rfl)
                            case hQnr39u1 => exact fun _ _ _ h => h
                            case hwnr39u1 => rfl
                            case hynr39u1 => (intro w; go_simp <;> with_reducible rfl)
                            try simp only [Act.put, List.setIfInBounds_toArray, List.set_cons_zero, List.set_cons_succ]
                            refine wpAnyC_take0 (i := 1) (oi := ?oinr39u2) (v := ?vnr39u2) ?hinr39u2 (by kernel_rfl) (by kernel_rfl) (by kernel_rfl) (by kernel_rfl) ?hQnr39u2 ?hwnr39u2 ?hynr39u2 (hT0.more 0) ?_
                            case hinr39u2 => (simp only [List.getElem?_toArray, List.getElem?_cons_succ, List.getElem?_cons_zero]; rfl)
                            case hQnr39u2 => exact fun _ _ _ h => h
                            case hwnr39u2 => rfl
                            case hynr39u2 => (intro w; go_simp <;> with_reducible rfl)
                            try simp only [Act.put, List.setIfInBounds_toArray, List.set_cons_zero, List.set_cons_succ]
                            refine wpAnyC_take (i := 2) (oi := ?oinr39u3) (v := undef) [2, 7, 8, 15, 19, 32] ?hinr39u3 (by kernel_rfl) (by kernel_rfl) (by kernel_rfl) (by kernel_rfl) ?hQnr39u3 (.inr ⟨?hwnr39u3, rfl⟩) (((hT0.more 0).more 1).resolve_left (by decide)) ?_
                            case hinr39u3 => (simp only [List.getElem?_toArray, List.getElem?_cons_succ, List.getElem?_cons_zero]; rfl)
                            case hQnr39u3 => exact fun _ _ _ h => h
                            case hwnr39u3 => rfl
                            try simp only [Act.put, List.setIfInBounds_toArray, List.set_cons_zero, List.set_cons_succ]
                            refine wpAnyC_take (i := 3) (oi := ?oinr39u4) (v := undef) [3, 5, 6, 7, 8, 15, 19, 32] ?hinr39u4 (by kernel_rfl) (by kernel_rfl) (by kernel_rfl) (by kernel_rfl) ?hQnr39u4 (.inr ⟨?hwnr39u4, rfl⟩) ((((hT0.more 0).more 1).more 2).resolve_left (by decide)) ?_
                            case hinr39u4 => (simp only [List.getElem?_toArray, List.getElem?_cons_succ, List.getElem?_cons_zero]; rfl)
                            case hQnr39u4 => exact fun _ _ _ h => h
                            case hwnr39u4 => rfl
                            try simp only [Act.put, List.setIfInBounds_toArray, List.set_cons_zero, List.set_cons_succ]
                            refine wpAnyC_take (i := 4) (oi := ?oinr39u5) (v := undef) [4, 5, 6, 7, 8, 15, 19, 32] ?hinr39u5 (by kernel_rfl) (by kernel_rfl) (by kernel_rfl) (by kernel_rfl) ?hQnr39u5 (.inr ⟨?hwnr39u5, rfl⟩) (((((hT0.more 0).more 1).more 2).more 3).resolve_left (by decide)) ?_
                            case hinr39u5 => (simp only [List.getElem?_toArray, List.getElem?_cons_succ, List.getElem?_cons_zero]; rfl)
                            case hQnr39u5 => exact fun _ _ _ h => h
                            case hwnr39u5 => rfl
                            try simp only [Act.put, List.setIfInBounds_toArray, List.set_cons_zero, List.set_cons_succ]
                            refine wpAnyC_take (i := 5) (oi := ?oinr39u6) (v := undef) [5, 6, 7, 8, 15, 19, 32] ?hinr39u6 (by kernel_rfl) (by kernel_rfl) (by kernel_rfl) (by kernel_rfl) ?hQnr39u6 (.inr ⟨?hwnr39u6, rfl⟩) ((((((hT0.more 0).more 1).more 2).more 3).more 4).resolve_left (by decide)) ?_
                            case hinr39u6 => (simp only [List.getElem?_toArray, List.getElem?_cons_succ, List.getElem?_cons_zero]; rfl)
                            case hQnr39u6 => exact fun _ _ _ h => h
                            case hwnr39u6 => rfl
                            try simp only [Act.put, List.setIfInBounds_toArray, List.set_cons_zero, List.set_cons_succ]
                            refine wpAnyC_take (i := 6) (oi := ?oinr39u7) (v := undef) [6, 7, 8, 15, 19, 32] ?hinr39u7 (by kernel_rfl) (by kernel_rfl) (by kernel_rfl) (by kernel_rfl) ?hQnr39u7 (.inr ⟨?hwnr39u7, rfl⟩) (((((((hT0.more 0).more 1).more 2).more 3).more 4).more 5).resolve_left (by decide)) ?_
                            case hinr39u7 => (simp only [List.getElem?_toArray, List.getElem?_cons_succ, List.getElem?_cons_zero]; rfl)
                            case hQnr39u7 => exact fun _ _ _ h => h
                            case hwnr39u7 => rfl
                            try simp only [Act.put, List.setIfInBounds_toArray, List.set_cons_zero, List.set_cons_succ]
                            refine wpAnyC_take (i := 7) (oi := ?oinr39u8) (v := undef) [7, 8, 15, 19, 32] ?hinr39u8 (by kernel_rfl) (by kernel_rfl) (by kernel_rfl) (by kernel_rfl) ?hQnr39u8 (.inr ⟨?hwnr39u8, rfl⟩) ((((((((hT0.more 0).more 1).more 2).more 3).more 4).more 5).more 6).resolve_left (by decide)) ?_
                            case hinr39u8 => (simp only [List.getElem?_toArray, List.getElem?_cons_succ, List.getElem?_cons_zero]; rfl)
                            case hQnr39u8 => exact fun _ _ _ h => h
                            case hwnr39u8 => rfl
                            try simp only [Act.put, List.setIfInBounds_toArray, List.set_cons_zero, List.set_cons_succ]
                            refine wpAnyC_take (i := 8) (oi := ?oinr39u9) (v := undef) [8, 15, 19, 32] ?hinr39u9 (by kernel_rfl) (by kernel_rfl) (by kernel_rfl) (by kernel_rfl) ?hQnr39u9 (.inr ⟨?hwnr39u9, rfl⟩) (((((((((hT0.more 0).more 1).more 2).more 3).more 4).more 5).more 6).more 7).resolve_left (by decide)) ?_
                            case hinr39u9 => (simp only [List.getElem?_toArray, List.getElem?_cons_succ, List.getElem?_cons_zero]; rfl)
                            case hQnr39u9 => exact fun _ _ _ h => h
                            case hwnr39u9 => rfl
                            try simp only [Act.put, List.setIfInBounds_toArray, List.set_cons_zero, List.set_cons_succ]
                            refine wpAnyC_take (i := 9) (oi := ?oinr39u10) (v := undef) [9, 15, 19, 32] ?hinr39u10 (by kernel_rfl) (by kernel_rfl) (by kernel_rfl) (by kernel_rfl) ?hQnr39u10 (.inr ⟨?hwnr39u10, rfl⟩) ((((((((((hT0.more 0).more 1).more 2).more 3).more 4).more 5).more 6).more 7).more 8).resolve_left (by decide)) ?_
                            case hinr39u10 => (simp only [List.getElem?_toArray, List.getElem?_cons_succ, List.getElem?_cons_zero]; rfl)
                            case hQnr39u10 => exact fun _ _ _ h => h
                            case hwnr39u10 => rfl
                            try simp only [Act.put, List.setIfInBounds_toArray, List.set_cons_zero, List.set_cons_succ]
                            refine wpAnyC_take (i := 10) (oi := ?oinr39u11) (v := undef) [10, 13, 14, 15, 19, 32] ?hinr39u11 (by kernel_rfl) (by kernel_rfl) (by kernel_rfl) (by kernel_rfl) ?hQnr39u11 (.inr ⟨?hwnr39u11, rfl⟩) (((((((((((hT0.more 0).more 1).more 2).more 3).more 4).more 5).more 6).more 7).more 8).more 9).resolve_left (by decide)) ?_
                            case hinr39u11 => (simp only [List.getElem?_toArray, List.getElem?_cons_succ, List.getElem?_cons_zero]; rfl)
                            case hQnr39u11 => exact fun _ _ _ h => h
                            case hwnr39u11 => rfl
                            try simp only [Act.put, List.setIfInBounds_toArray, List.set_cons_zero, List.set_cons_succ]
                            refine wpAnyC_take (i := 11) (oi := ?oinr39u12) (v := undef) [11, 12, 13, 14, 15, 19, 32] ?hinr39u12 (by kernel_rfl) (by kernel_rfl) (by kernel_rfl) (by kernel_rfl) ?hQnr39u12 (.inr ⟨?hwnr39u12, rfl⟩) ((((((((((((hT0.more 0).more 1).more 2).more 3).more 4).more 5).more 6).more 7).more 8).more 9).more 10).resolve_left (by decide)) ?_
                            case hinr39u12 => (simp only [List.getElem?_toArray, List.getElem?_cons_succ, List.getElem?_cons_zero]; rfl)
                            case hQnr39u12 => exact fun _ _ _ h => h
                            case hwnr39u12 => rfl
                            try simp only [Act.put, List.setIfInBounds_toArray, List.set_cons_zero, List.set_cons_succ]
                            refine wpAnyC_take (i := 12) (oi := ?oinr39u13) (v := undef) [12, 13, 14, 15, 19, 32] ?hinr39u13 (by kernel_rfl) (by kernel_rfl) (by kernel_rfl) (by kernel_rfl) ?hQnr39u13 (.inr ⟨?hwnr39u13, rfl⟩) (((((((((((((hT0.more 0).more 1).more 2).more 3).more 4).more 5).more 6).more 7).more 8).more 9).more 10).more 11).resolve_left (by decide)) ?_
                            case hinr39u13 => (simp only [List.getElem?_toArray, List.getElem?_cons_succ, List.getElem?_cons_zero]; rfl)
                            case hQnr39u13 => exact fun _ _ _ h => h
                            case hwnr39u13 => rfl
                            try simp only [Act.put, List.setIfInBounds_toArray, List.set_cons_zero, List.set_cons_succ]
                            refine wpAnyC_take (i := 13) (oi := ?oinr39u14) (v := undef) [13, 14, 15, 19, 32] ?hinr39u14 (by kernel_rfl) (by kernel_rfl) (by kernel_rfl) (by kernel_rfl) ?hQnr39u14 (.inr ⟨?hwnr39u14, rfl⟩) ((((((((((((((hT0.more 0).more 1).more 2).more 3).more 4).more 5).more 6).more 7).more 8).more 9).more 10).more 11).more 12).resolve_left (by decide)) ?_
                            case hinr39u14 => (simp only [List.getElem?_toArray, List.getElem?_cons_succ, List.getElem?_cons_zero]; rfl)
                            case hQnr39u14 => exact fun _ _ _ h => h
                            case hwnr39u14 => rfl
                            try simp only [Act.put, List.setIfInBounds_toArray, List.set_cons_zero, List.set_cons_succ]
                            refine wpAnyC_take (i := 14) (oi := ?oinr39u15) (v := undef) [14, 15, 19, 32] ?hinr39u15 (by kernel_rfl) (by kernel_rfl) (by kernel_rfl) (by kernel_rfl) ?hQnr39u15 (.inr ⟨?hwnr39u15, rfl⟩) (((((((((((((((hT0.more 0).more 1).more 2).more 3).more 4).more 5).more 6).more 7).more 8).more 9).more 10).more 11).more 12).more 13).resolve_left (by decide)) ?_
                            case hinr39u15 => (simp only [List.getElem?_toArray, List.getElem?_cons_succ, List.getElem?_cons_zero]; rfl)
                            case hQnr39u15 => exact fun _ _ _ h => h
                            case hwnr39u15 => rfl
                            try simp only [Act.put, List.setIfInBounds_toArray, List.set_cons_zero, List.set_cons_succ]
                            refine wpAnyC_take (i := 15) (oi := ?oinr39u16) (v := undef) [15, 19, 32] ?hinr39u16 (by kernel_rfl) (by kernel_rfl) (by kernel_rfl) (by kernel_rfl) ?hQnr39u16 (.inr ⟨?hwnr39u16, rfl⟩) ((((((((((((((((hT0.more 0).more 1).more 2).more 3).more 4).more 5).more 6).more 7).more 8).more 9).more 10).more 11).more 12).more 13).more 14).resolve_left (by decide)) ?_
                            case hinr39u16 => (simp only [List.getElem?_toArray, List.getElem?_cons_succ, List.getElem?_cons_zero]; rfl)
                            case hQnr39u16 => exact fun _ _ _ h => h
                            case hwnr39u16 => rfl
                            try simp only [Act.put, List.setIfInBounds_toArray, List.set_cons_zero, List.set_cons_succ]
                            refine wpAnyC_take (i := 16) (oi := ?oinr39u17) (v := undef) [16, 17, 18, 19, 32] ?hinr39u17 (by kernel_rfl) (by kernel_rfl) (by kernel_rfl) (by kernel_rfl) ?hQnr39u17 (.inr ⟨?hwnr39u17, rfl⟩) (((((((((((((((((hT0.more 0).more 1).more 2).more 3).more 4).more 5).more 6).more 7).more 8).more 9).more 10).more 11).more 12).more 13).more 14).more 15).resolve_left (by decide)) ?_
                            case hinr39u17 => (simp only [List.getElem?_toArray, List.getElem?_cons_succ, List.getElem?_cons_zero]; rfl)
                            case hQnr39u17 => exact fun _ _ _ h => h
                            case hwnr39u17 => rfl
                            try simp only [Act.put, List.setIfInBounds_toArray, List.set_cons_zero, List.set_cons_succ]
                            refine wpAnyC_take (i := 17) (oi := ?oinr39u18) (v := undef) [17, 18, 19, 32] ?hinr39u18 (by kernel_rfl) (by kernel_rfl) (by kernel_rfl) (by kernel_rfl) ?hQnr39u18 (.inr ⟨?hwnr39u18, rfl⟩) ((((((((((((((((((hT0.more 0).more 1).more 2).more 3).more 4).more 5).more 6).more 7).more 8).more 9).more 10).more 11).more 12).more 13).more 14).more 15).more 16).resolve_left (by decide)) ?_
                            case hinr39u18 => (simp only [List.getElem?_toArray, List.getElem?_cons_succ, List.getElem?_cons_zero]; rfl)
                            case hQnr39u18 => exact fun _ _ _ h => h
                            case hwnr39u18 => rfl
                            try simp only [Act.put, List.setIfInBounds_toArray, List.set_cons_zero, List.set_cons_succ]
                            refine wpAnyC_take0 (i := 18) (oi := ?oinr39u19) (v := ?vnr39u19) ?hinr39u19 (by kernel_rfl) (by kernel_rfl) (by kernel_rfl) (by kernel_rfl) ?hQnr39u19 ?hwnr39u19 ?hynr39u19 ((((((((((((((((((hT0.more 0).more 1).more 2).more 3).more 4).more 5).more 6).more 7).more 8).more 9).more 10).more 11).more 12).more 13).more 14).more 15).more 16).more 17) ?_
                            case hinr39u19 => (simp only [List.getElem?_toArray, List.getElem?_cons_succ, List.getElem?_cons_zero]; rfl)
                            case hQnr39u19 => exact fun _ _ _ h => h
                            case hwnr39u19 => rfl
                            case hynr39u19 => (intro w; go_simp <;> with_reducible rfl)
                            try simp only [Act.put, List.setIfInBounds_toArray, List.set_cons_zero, List.set_cons_succ]
                            refine wpAnyC_take0 (i := 19) (oi := ?oinr39u20) (v := ?vnr39u20) ?hinr39u20 (by kernel_rfl) (by kernel_rfl) (by kernel_rfl) (by kernel_rfl) ?hQnr39u20 ?hwnr39u20 ?hynr39u20 (((((((((((((((((((hT0.more 0).more 1).more 2).more 3).more 4).more 5).more 6).more 7).more 8).more 9).more 10).more 11).more 12).more 13).more 14).more 15).more 16).more 17).more 18) ?_
                            case hinr39u20 => (simp only [List.getElem?_toArray, List.getElem?_cons_succ, List.getElem?_cons_zero]; rfl)
                            case hQnr39u20 => exact fun _ _ _ h => h
                            case hwnr39u20 => rfl
                            case hynr39u20 => (intro w; go_simp <;> with_reducible rfl)
                            try simp only [Act.put, List.setIfInBounds_toArray, List.set_cons_zero, List.set_cons_succ]
                            refine wpAnyC_take0 (i := 20) (oi := ?oinr39u21) (v := ?vnr39u21) ?hinr39u21 (by kernel_rfl) (by kernel_rfl) (by kernel_rfl) (by kernel_rfl) ?hQnr39u21 ?hwnr39u21 ?hynr39u21 ((((((((((((((((((((hT0.more 0).more 1).more 2).more 3).more 4).more 5).more 6).more 7).more 8).more 9).more 10).more 11).more 12).more 13).more 14).more 15).more 16).more 17).more 18).more 19) ?_
                            case hinr39u21 => (simp only [List.getElem?_toArray, List.getElem?_cons_succ, List.getElem?_cons_zero]; rfl)
                            case hQnr39u21 => exact fun _ _ _ h => h
                            case hwnr39u21 => rfl
                            case hynr39u21 => (intro w; go_simp <;> with_reducible rfl)
                            try simp only [Act.put, List.setIfInBounds_toArray, List.set_cons_zero, List.set_cons_succ]
                            refine wpAnyC_take0 (i := 21) (oi := ?oinr39u22) (v := ?vnr39u22) ?hinr39u22 (by kernel_rfl) (by kernel_rfl) (by kernel_rfl) (by kernel_rfl) ?hQnr39u22 ?hwnr39u22 ?hynr39u22 (((((((((((((((((((((hT0.more 0).more 1).more 2).more 3).more 4).more 5).more 6).more 7).more 8).more 9).more 10).more 11).more 12).more 13).more 14).more 15).more 16).more 17).more 18).more 19).more 20) ?_
                            case hinr39u22 => (simp only [List.getElem?_toArray, List.getElem?_cons_succ, List.getElem?_cons_zero]; rfl)
                            case hQnr39u22 => exact fun _ _ _ h => h
                            case hwnr39u22 => rfl
                            case hynr39u22 => (intro w; go_simp <;> with_reducible rfl)
                            try simp only [Act.put, List.setIfInBounds_toArray, List.set_cons_zero, List.set_cons_succ]
                            refine wpAnyC_take0 (i := 22) (oi := ?oinr39u23) (v := ?vnr39u23) ?hinr39u23 (by kernel_rfl) (by kernel_rfl) (by kernel_rfl) (by kernel_rfl) ?hQnr39u23 ?hwnr39u23 ?hynr39u23 ((((((((((((((((((((((hT0.more 0).more 1).more 2).more 3).more 4).more 5).more 6).more 7).more 8).more 9).more 10).more 11).more 12).more 13).more 14).more 15).more 16).more 17).more 18).more 19).more 20).more 21) ?_
                            case hinr39u23 => (simp only [List.getElem?_toArray, List.getElem?_cons_succ, List.getElem?_cons_zero]; rfl)
                            case hQnr39u23 => exact fun _ _ _ h => h
                            case hwnr39u23 => rfl
                            case hynr39u23 => (intro w; go_simp <;> with_reducible rfl)
                            try simp only [Act.put, List.setIfInBounds_toArray, List.set_cons_zero, List.set_cons_succ]
                            refine wpAnyC_take0 (i := 23) (oi := ?oinr39u24) (v := ?vnr39u24) ?hinr39u24 (by kernel_rfl) (by kernel_rfl) (by kernel_rfl) (by kernel_rfl) ?hQnr39u24 ?hwnr39u24 ?hynr39u24 (((((((((((((((((((((((hT0.more 0).more 1).more 2).more 3).more 4).more 5).more 6).more 7).more 8).more 9).more 10).more 11).more 12).more 13).more 14).more 15).more 16).more 17).more 18).more 19).more 20).more 21).more 22) ?_
                            case hinr39u24 => (simp only [List.getElem?_toArray, List.getElem?_cons_succ, List.getElem?_cons_zero]; rfl)
                            case hQnr39u24 => exact fun _ _ _ h => h
                            case hwnr39u24 => rfl
                            case hynr39u24 => (intro w; go_simp <;> with_reducible rfl)
                            try simp only [Act.put, List.setIfInBounds_toArray, List.set_cons_zero, List.set_cons_succ]
                            refine wpAnyC_take0 (i := 24) (oi := ?oinr39u25) (v := ?vnr39u25) ?hinr39u25 (by kernel_rfl) (by kernel_rfl) (by kernel_rfl) (by kernel_rfl) ?hQnr39u25 ?hwnr39u25 ?hynr39u25 ((((((((((((((((((((((((hT0.more 0).more 1).more 2).more 3).more 4).more 5).more 6).more 7).more 8).more 9).more 10).more 11).more 12).more 13).more 14).more 15).more 16).more 17).more 18).more 19).more 20).more 21).more 22).more 23) ?_
                            case hinr39u25 => (simp only [List.getElem?_toArray, List.getElem?_cons_succ, List.getElem?_cons_zero]; rfl)
                            case hQnr39u25 => exact fun _ _ _ h => h
                            case hwnr39u25 => rfl
                            case hynr39u25 => (intro w; go_simp <;> with_reducible rfl)
                            try simp only [Act.put, List.setIfInBounds_toArray, List.set_cons_zero, List.set_cons_succ]
                            refine wpAnyC_take0 (i := 25) (oi := ?oinr39u26) (v := ?vnr39u26) ?hinr39u26 (by kernel_rfl) (by kernel_rfl) (by kernel_rfl) (by kernel_rfl) ?hQnr39u26 ?hwnr39u26 ?hynr39u26 (((((((((((((((((((((((((hT0.more 0).more 1).more 2).more 3).more 4).more 5).more 6).more 7).more 8).more 9).more 10).more 11).more 12).more 13).more 14).more 15).more 16).more 17).more 18).more 19).more 20).more 21).more 22).more 23).more 24) ?_
                            case hinr39u26 => (simp only [List.getElem?_toArray, List.getElem?_cons_succ, List.getElem?_cons_zero]; rfl)
                            case hQnr39u26 => exact fun _ _ _ h => h
                            case hwnr39u26 => rfl
                            case hynr39u26 => (intro w; go_simp <;> with_reducible rfl)
                            try simp only [Act.put, List.setIfInBounds_toArray, List.set_cons_zero, List.set_cons_succ]
                            refine wpAnyC_take (i := 26) (oi := ?oinr39u27) (v := ?vnr39u27) [26, 28, 29, 30, 31, 32] ?hinr39u27 (by kernel_rfl) (by kernel_rfl) (by kernel_rfl) (by kernel_rfl) ?hQnr39u27 (.inl ⟨?hwnr39u27, ?hynr39u27⟩) (((((((((((((((((((((((((((hT0.more 0).more 1).more 2).more 3).more 4).more 5).more 6).more 7).more 8).more 9).more 10).more 11).more 12).more 13).more 14).more 15).more 16).more 17).more 18).more 19).more 20).more 21).more 22).more 23).more 24).more 25).resolve_left (by decide)) ?_
                            case hinr39u27 => (simp only [List.getElem?_toArray, List.getElem?_cons_succ, List.getElem?_cons_zero]; rfl)
                            case hQnr39u27 => exact fun _ _ _ h => h
                            case hwnr39u27 => rfl
                            case hynr39u27 => (intro w hSw; (have z0 := (hSw.at_ HXB.out (by simp)).cell 0; have z1 := (hSw.at_ HXB.out (by simp)).cell 1; have z2 := (hSw.at_ HXB.out (by simp)).cell 2; have z3 := (hSw.at_ HXB.out (by simp)).cell 3; simp at z0 z1 z2 z3); go_simp <;> with_reducible rfl)
                            try simp only [Act.put, List.setIfInBounds_toArray, List.set_cons_zero, List.set_cons_succ]
                            refine wpAnyC_take0 (i := 27) (oi := ?oinr39u28) (v := ?vnr39u28) ?hinr39u28 (by kernel_rfl) (by kernel_rfl) (by kernel_rfl) (by kernel_rfl) ?hQnr39u28 ?hwnr39u28 ?hynr39u28 (((((((((((((((((((((((((((hT0.more 0).more 1).more 2).more 3).more 4).more 5).more 6).more 7).more 8).more 9).more 10).more 11).more 12).more 13).more 14).more 15).more 16).more 17).more 18).more 19).more 20).more 21).more 22).more 23).more 24).more 25).more 26) ?_
                            case hinr39u28 => (simp only [List.getElem?_toArray, List.getElem?_cons_succ, List.getElem?_cons_zero]; rfl)
                            case hQnr39u28 => exact fun _ _ _ h => h
                            case hwnr39u28 => rfl
                            case hynr39u28 => (intro w; go_simp <;> with_reducible rfl)
                            try simp only [Act.put, List.setIfInBounds_toArray, List.set_cons_zero, List.set_cons_succ]
                            have hSx := ((((((((((((((((((((((((((((hT0.more 0).more 1).more 2).more 3).more 4).more 5).more 6).more 7).more 8).more 9).more 10).more 11).more 12).more 13).more 14).more 15).more 16).more 17).more 18).more 19).more 20).more 21).more 22).more 23).more 24).more 25).more 26).more 27).resolve_left (by decide)
                            refine wpAnyC_ready (rs := [28]) (by kernel_rfl) (by simp) ?_
                            refine ReadyC.cons (o := ?onr39u29) ?honr39u29 ?hstepnr39u29 ?_
                            case honr39u29 => (simp only [List.getElem?_toArray, List.getElem?_cons_succ, List.getElem?_cons_zero]; rfl)
                            case hstepnr39u29 =>
                              intro K hK
                              (go_simp; refine (same_is _ Im.zero Im.zero (Cub.bare _ _ _) (Cub.bare _ _ _) rfl rfl rfl rfl).mono ?_; rintro e w4 ⟨rfl, hf4⟩; dsimp only)
                              refine hK.out _ _ (.inr ?_) (fun hHeld => ?_)
                              · first | exact hSx.then_ hf4 | exact hSx
                              have hT29 := hHeld
                              clear hHeld
                              clear hK K
                              try simp only [Act.put, List.setIfInBounds_toArray, List.set_cons_zero, List.set_cons_succ]
                              refine wpAnyC_take0 (i := 29) (oi := ?oinr39u30) (v := ?vnr39u30) ?hinr39u30 (by kernel_rfl) (by kernel_rfl) (by kernel_rfl) (by kernel_rfl) ?hQnr39u30 ?hwnr39u30 ?hynr39u30 hT29 ?_
                              case hinr39u30 => (simp only [List.getElem?_toArray, List.getElem?_cons_succ, List.getElem?_cons_zero]; rfl)
                              case hQnr39u30 => exact fun _ _ _ h => h
                              case hwnr39u30 => rfl
                              case hynr39u30 => (intro w; go_simp <;> with_reducible rfl)
                              try simp only [Act.put, List.setIfInBounds_toArray, List.set_cons_zero, List.set_cons_succ]
                              refine wpAnyC_take0 (i := 30) (oi := ?oinr39u31) (v := ?vnr39u31) ?hinr39u31 (by kernel_rfl) (by kernel_rfl) (by kernel_rfl) (by kernel_rfl) ?hQnr39u31 ?hwnr39u31 ?hynr39u31 (hT29.more 29) ?_
                              case hinr39u31 => (simp only [List.getElem?_toArray, List.getElem?_cons_succ, List.getElem?_cons_zero]; rfl)
                              case hQnr39u31 => exact fun _ _ _ h => h
                              case hwnr39u31 => rfl
                              case hynr39u31 => (intro w; go_simp <;> with_reducible rfl)
                              try simp only [Act.put, List.setIfInBounds_toArray, List.set_cons_zero, List.set_cons_succ]
                              refine wpAnyC_take0 (i := 31) (oi := ?oinr39u32) (v := ?vnr39u32) ?hinr39u32 (by kernel_rfl) (by kernel_rfl) (by kernel_rfl) (by kernel_rfl) ?hQnr39u32 ?hwnr39u32 ?hynr39u32 ((hT29.more 29).more 30) ?_
                              case hinr39u32 => (simp only [List.getElem?_toArray, List.getElem?_cons_succ, List.getElem?_cons_zero]; rfl)
                              case hQnr39u32 => exact fun _ _ _ h => h
                              case hwnr39u32 => rfl
                              case hynr39u32 => (intro w; go_simp <;> with_reducible rfl)
                              try simp only [Act.put, List.setIfInBounds_toArray, List.set_cons_zero, List.set_cons_succ]
                              have hSx := (((hT29.more 29).more 30).more 31).resolve_left (by decide)
                              refine wpAnyC_ready (rs := [32]) (by kernel_rfl) (by simp) ?_
                              refine ReadyC.cons (o := ?onr39u33) ?honr39u33 ?hstepnr39u33 ?_
                              case honr39u33 => (simp only [List.getElem?_toArray, List.getElem?_cons_succ, List.getElem?_cons_zero]; rfl)
                              case hstepnr39u33 =>
                                intro K hK
                                go_simp
                                refine hK.out _ _ (.inl rfl) (fun hHeld => ?_)
                                have hT33 := hHeld
                                clear hHeld
                                clear hK K
                                try simp only [Act.put, List.setIfInBounds_toArray, List.set_cons_zero, List.set_cons_succ]
                                refine wpAnyC_done (by kernel_rfl) ?_ _
                                refine NoPanic.normal ?_
                                go_wp2_with fail
                                go_meet
                                exact ⟨rfl, hSx⟩
                              exact ReadyC.nil
                            exact ReadyC.nil

                        case rest =>
                          obtain ⟨rfl, hf4⟩ := hcut
                          have HQ4 := Lib.hid (HQX.out.keep hf4)
                          clear hf4
                          as_aux_lemma =>
                            go_wp2_with fail
                            go_meet
                            exact ⟨L, M, [], A, c, N, B, d, rfl, rfl, HQ4.out, HI.out.mono⟩

                    · rw [hje] at hfm
                      have HFM := Lib.hid hfm
                      have hwp : 0 < W.length := by omega
                      clear hfm hje hj0
                      as_aux_lemma =>
                        go_wp2_with fail
                        refine (HQn.out.take_some HI.out.ok hwp (by omega)).mono ?_
                        rintro e w3 ⟨p2, i, C3, c3, hp2, hi, hii, rfl, hc3, hq3⟩
                        obtain rfl : p2 = p := by
                          rcases Nat.lt_trichotomy p2 p with h | h | h
                          · have h1 := HFM.out.2.1 p2 h
                            have h2 := hp2.2.2 p HFM.out.1
                            omega
                          · exact h
                          · have h1 := hp2.2.1 p h
                            have h2 := HFM.out.2.2 p2 hp2.1
                            omega
                        obtain ⟨m, hm⟩ : ∃ m, M[i]! = m := ⟨_, rfl⟩
                        have hpl := HI.out.get hi
                        rw [hm] at hpl hc3 ⊢
                        rw [hii]
                        obtain ⟨l3, Cm, n3, cm, s3, f3, x3⟩ := m
                        simp only [Im.val] at hc3 ⊢
                        have HMI := Lib.hid hii
                        go_upto_region 37 with fail
                        obtain ⟨X, hX⟩ : ∃ X, X = w3.alloc (.cells #[.int .i64 l3, .slice C3 n3 c3, .string s3, .int .i64 f3] 38) := ⟨_, rfl⟩
                        rw [← hX]
                        have hfX : Fr [] w3 X := by rw [hX]; exact (Fr.refl [] w3).alloc _
                        have hX0 : At X w3.heap.size 38 #[.int .i64 l3, .slice C3 n3 c3, .string s3, .int .i64 f3] := by rw [hX]; exact At.new _ _ _
                        have hQX := hq3.keep hfX
                        have HCX := Lib.hid (hc3.keep hfX).cub
                        have HQX := Lib.hid hQX
                        have hiN : i < N.length := by rw [HLN.out]; exact hi
                        obtain ⟨gN, hgN, -⟩ := hQX.its.pos hiN
                        obtain ⟨gB, hgB, hgBl⟩ := hQX.ws.pos HFM.out.1
                        subst hgN
                        subst hgB
                        obtain ⟨n0, n1, n2, n3'⟩ := hQX.its.cell hiN
                        have cp := hQX.ws.cell HFM.out.1
                        rw [HMI.out] at cp
                        have hNold : Cub w N[i]! := HI.out.old _ (by simp [hiN])
                        obtain ⟨nm, hnm⟩ : ∃ nm, N[i]! = nm := ⟨_, rfl⟩
                        rw [hnm] at n0 n1 n2 n3' hpl hNold
                        obtain ⟨l4, C4, n4, c4, s4, f4, x4⟩ := nm
                        simp only at n0 n1 n2 n3'
                        simp only [pl, Prod.mk.injEq] at hpl
                        obtain ⟨rfl, rfl, rfl, rfl⟩ := hpl
                        have hFX : Fr [] w X := HQ1.out.fr.trans hQX.fr (fun x hx => .inr (HF0.out x hx))
                        have HN4 := Lib.hid (hNold.keep hFX)
                        have HCN : Hid (∀ w', Fr [] X w' → w'.cell? ⟨gN, i * 4, none⟩ = some (.int .i64 l3) ∧ w'.cell? ⟨gN, i * 4 + 1, none⟩ = some (.slice C4 n4 c4) ∧ w'.cell? ⟨gN, i * 4 + 2, none⟩ = some (.string s3) ∧ w'.cell? ⟨gN, i * 4 + 3, none⟩ = some (.int .i64 f3)) := by
                          intro w' hf
                          have hg := hQX.its.lt gN (by simp [blks])
                          have tr : ∀ {j : Nat} {v : Value}, X.cell? ⟨gN, j, none⟩ = some v → w'.cell? ⟨gN, j, none⟩ = some v := fun h => (World.cell?_of_block (hf.block gN hg (by simp))).trans h
                          exact ⟨tr n0, tr n1, tr n2, tr n3'⟩
                        have HWB : Hid (∀ w', Fr [] X w' → w'.cell? ⟨gB, p2, none⟩ = some (.int .i64 ((i : Int) + 1))) := fun w' hf => (World.cell?_of_block (hf.block gB hgBl (by simp))).trans cp
                        have HXB := Lib.hid hX0
                        generalize w3.heap.size = xb at HXB ⊢
                        have hwi : IntKind.i64.wrap (i : Int) = i := IntWalk.i64_in _ (by omega)
                        have hiz : (i : Int) < N.length := by omega
                        have hi0 : (0 : Int) ≤ i := by omega
                        have hpW : p2 < W.length := HFM.out.1
                        have hpz2 : (p2 : Int) < W.length := by omega
                        have hp0 : (0 : Int) ≤ p2 := by omega
                        clear hX hfX hX0 hQX hc3 hnm hNold hFX n0 n1 n2 n3' cp hp2 hii hm hq3
                        go_upto_region 39 with fail
                        go_cut [234] (fun st wx => st = .bool false ∧ Fr [] X wx)
                        case first =>
                          as_aux_lemma =>
                            refine wp_region_noPanic ?_
                            refine wp_region_C (fun w' : World => Fr [] X w') 32 (by kernel_rfl) ((Fr.refl [] X).drew) (fun hT0 => ?_)
                            refine wpAnyC_take0 (i := 0) (oi := ?oisr39u1) (v := ?vsr39u1) ?hisr39u1 (by kernel_rfl) (by kernel_rfl) (by kernel_rfl) (by kernel_rfl) ?hQsr39u1 ?hwsr39u1 ?hysr39u1 hT0 ?_
                            case hisr39u1 => (simp only [List.getElem?_toArray, List.getElem?_cons_zero]; rfl)
                            case hQsr39u1 => exact fun _ _ _ h => h
                            case hwsr39u1 => rfl
                            case hysr39u1 => (intro w; go_simp <;> with_reducible rfl)
                            try simp only [Act.put, List.setIfInBounds_toArray, List.set_cons_zero, List.set_cons_succ]
                            refine wpAnyC_take0 (i := 1) (oi := ?oisr39u2) (v := ?vsr39u2) ?hisr39u2 (by kernel_rfl) (by kernel_rfl) (by kernel_rfl) (by kernel_rfl) ?hQsr39u2 ?hwsr39u2 ?hysr39u2 (hT0.more 0) ?_
                            case hisr39u2 => (simp only [List.getElem?_toArray, List.getElem?_cons_succ, List.getElem?_cons_zero]; rfl)
                            case hQsr39u2 => exact fun _ _ _ h => h
                            case hwsr39u2 => rfl
                            case hysr39u2 => (intro w; go_simp <;> with_reducible rfl)
                            try simp only [Act.put, List.setIfInBounds_toArray, List.set_cons_zero, List.set_cons_succ]
                            refine wpAnyC_take0 (i := 2) (oi := ?oisr39u3) (v := ?vsr39u3) ?hisr39u3 (by kernel_rfl) (by kernel_rfl) (by kernel_rfl) (by kernel_rfl) ?hQsr39u3 ?hwsr39u3 ?hysr39u3 ((hT0.more 0).more 1) ?_
                            case hisr39u3 => (simp only [List.getElem?_toArray, List.getElem?_cons_succ, List.getElem?_cons_zero]; rfl)
                            case hQsr39u3 => exact fun _ _ _ h => h
                            case hwsr39u3 => rfl
                            case hysr39u3 => (intro w; go_simp <;> with_reducible rfl)
                            try simp only [Act.put, List.setIfInBounds_toArray, List.set_cons_zero, List.set_cons_succ]
                            refine wpAnyC_take0 (i := 3) (oi := ?oisr39u4) (v := ?vsr39u4) ?hisr39u4 (by kernel_rfl) (by kernel_rfl) (by kernel_rfl) (by kernel_rfl) ?hQsr39u4 ?hwsr39u4 ?hysr39u4 (((hT0.more 0).more 1).more 2) ?_
                            case hisr39u4 => (simp only [List.getElem?_toArray, List.getElem?_cons_succ, List.getElem?_cons_zero]; rfl)
                            case hQsr39u4 => exact fun _ _ _ h => h
                            case hwsr39u4 => rfl
                            case hysr39u4 => (intro w; go_simp <;> with_reducible rfl)
                            try simp only [Act.put, List.setIfInBounds_toArray, List.set_cons_zero, List.set_cons_succ]
                            refine wpAnyC_take0 (i := 4) (oi := ?oisr39u5) (v := ?vsr39u5) ?hisr39u5 (by kernel_rfl) (by kernel_rfl) (by kernel_rfl) (by kernel_rfl) ?hQsr39u5 ?hwsr39u5 ?hysr39u5 ((((hT0.more 0).more 1).more 2).more 3) ?_
                            case hisr39u5 => (simp only [List.getElem?_toArray, List.getElem?_cons_succ, List.getElem?_cons_zero]; rfl)
                            case hQsr39u5 => exact fun _ _ _ h => h
                            case hwsr39u5 => rfl
                            case hysr39u5 => (intro w; go_simp <;> with_reducible rfl)
                            try simp only [Act.put, List.setIfInBounds_toArray, List.set_cons_zero, List.set_cons_succ]
                            refine wpAnyC_take0 (i := 5) (oi := ?oisr39u6) (v := ?vsr39u6) ?hisr39u6 (by kernel_rfl) (by kernel_rfl) (by kernel_rfl) (by kernel_rfl) ?hQsr39u6 ?hwsr39u6 ?hysr39u6 (((((hT0.more 0).more 1).more 2).more 3).more 4) ?_
                            case hisr39u6 => (simp only [List.getElem?_toArray, List.getElem?_cons_succ, List.getElem?_cons_zero]; rfl)
                            case hQsr39u6 => exact fun _ _ _ h => h
                            case hwsr39u6 => rfl
                            case hysr39u6 => (intro w; go_simp <;> with_reducible rfl)
                            try simp only [Act.put, List.setIfInBounds_toArray, List.set_cons_zero, List.set_cons_succ]
                            refine wpAnyC_take (i := 6) (oi := ?oisr39u7) (v := ?vsr39u7) [6, 7, 8, 15, 19, 32] ?hisr39u7 (by kernel_rfl) (by kernel_rfl) (by kernel_rfl) (by kernel_rfl) ?hQsr39u7 (.inl ⟨?hwsr39u7, ?hysr39u7⟩) (((((((hT0.more 0).more 1).more 2).more 3).more 4).more 5).resolve_left (by decide)) ?_
                            case hisr39u7 => (simp only [List.getElem?_toArray, List.getElem?_cons_succ, List.getElem?_cons_zero]; rfl)
                            case hQsr39u7 => exact fun _ _ _ h => h
                            case hwsr39u7 => rfl
                            case hysr39u7 => (intro w hSw; (have z0 := (hSw.at_ HXB.out (by simp)).cell 0; have z1 := (hSw.at_ HXB.out (by simp)).cell 1; have z2 := (hSw.at_ HXB.out (by simp)).cell 2; have z3 := (hSw.at_ HXB.out (by simp)).cell 3; obtain ⟨y0, y1, y2, y3⟩ := HCN.out w hSw; have y4 := HWB.out w hSw; simp at z0 z1 z2 z3); go_simp <;> with_reducible rfl)
                            try simp only [Act.put, List.setIfInBounds_toArray, List.set_cons_zero, List.set_cons_succ]
                            refine wpAnyC_take0 (i := 7) (oi := ?oisr39u8) (v := ?vsr39u8) ?hisr39u8 (by kernel_rfl) (by kernel_rfl) (by kernel_rfl) (by kernel_rfl) ?hQsr39u8 ?hwsr39u8 ?hysr39u8 (((((((hT0.more 0).more 1).more 2).more 3).more 4).more 5).more 6) ?_
                            case hisr39u8 => (simp only [List.getElem?_toArray, List.getElem?_cons_succ, List.getElem?_cons_zero]; rfl)
                            case hQsr39u8 => exact fun _ _ _ h => h
                            case hwsr39u8 => rfl
                            case hysr39u8 => (intro w; go_simp <;> with_reducible rfl)
                            try simp only [Act.put, List.setIfInBounds_toArray, List.set_cons_zero, List.set_cons_succ]
                            refine wpAnyC_take0 (i := 8) (oi := ?oisr39u9) (v := ?vsr39u9) ?hisr39u9 (by kernel_rfl) (by kernel_rfl) (by kernel_rfl) (by kernel_rfl) ?hQsr39u9 ?hwsr39u9 ?hysr39u9 ((((((((hT0.more 0).more 1).more 2).more 3).more 4).more 5).more 6).more 7) ?_
                            case hisr39u9 => (simp only [List.getElem?_toArray, List.getElem?_cons_succ, List.getElem?_cons_zero]; rfl)
                            case hQsr39u9 => exact fun _ _ _ h => h
                            case hwsr39u9 => rfl
                            case hysr39u9 => (intro w; go_simp <;> with_reducible rfl)
                            try simp only [Act.put, List.setIfInBounds_toArray, List.set_cons_zero, List.set_cons_succ]
                            refine wpAnyC_take (i := 9) (oi := ?oisr39u10) (v := ?vsr39u10) [9, 15, 19, 32] ?hisr39u10 (by kernel_rfl) (by kernel_rfl) (by kernel_rfl) (by kernel_rfl) ?hQsr39u10 (.inl ⟨?hwsr39u10, ?hysr39u10⟩) ((((((((((hT0.more 0).more 1).more 2).more 3).more 4).more 5).more 6).more 7).more 8).resolve_left (by decide)) ?_
                            case hisr39u10 => (simp only [List.getElem?_toArray, List.getElem?_cons_succ, List.getElem?_cons_zero]; rfl)
                            case hQsr39u10 => exact fun _ _ _ h => h
                            case hwsr39u10 => rfl
                            case hysr39u10 => (intro w hSw; (have z0 := (hSw.at_ HXB.out (by simp)).cell 0; have z1 := (hSw.at_ HXB.out (by simp)).cell 1; have z2 := (hSw.at_ HXB.out (by simp)).cell 2; have z3 := (hSw.at_ HXB.out (by simp)).cell 3; obtain ⟨y0, y1, y2, y3⟩ := HCN.out w hSw; have y4 := HWB.out w hSw; simp at z0 z1 z2 z3); go_simp <;> with_reducible rfl)
                            try simp only [Act.put, List.setIfInBounds_toArray, List.set_cons_zero, List.set_cons_succ]
                            refine wpAnyC_take0 (i := 10) (oi := ?oisr39u11) (v := ?vsr39u11) ?hisr39u11 (by kernel_rfl) (by kernel_rfl) (by kernel_rfl) (by kernel_rfl) ?hQsr39u11 ?hwsr39u11 ?hysr39u11 ((((((((((hT0.more 0).more 1).more 2).more 3).more 4).more 5).more 6).more 7).more 8).more 9) ?_
                            case hisr39u11 => (simp only [List.getElem?_toArray, List.getElem?_cons_succ, List.getElem?_cons_zero]; rfl)
                            case hQsr39u11 => exact fun _ _ _ h => h
                            case hwsr39u11 => rfl
                            case hysr39u11 => (intro w; go_simp <;> with_reducible rfl)
                            try simp only [Act.put, List.setIfInBounds_toArray, List.set_cons_zero, List.set_cons_succ]
                            refine wpAnyC_take0 (i := 11) (oi := ?oisr39u12) (v := ?vsr39u12) ?hisr39u12 (by kernel_rfl) (by kernel_rfl) (by kernel_rfl) (by kernel_rfl) ?hQsr39u12 ?hwsr39u12 ?hysr39u12 (((((((((((hT0.more 0).more 1).more 2).more 3).more 4).more 5).more 6).more 7).more 8).more 9).more 10) ?_
                            case hisr39u12 => (simp only [List.getElem?_toArray, List.getElem?_cons_succ, List.getElem?_cons_zero]; rfl)
                            case hQsr39u12 => exact fun _ _ _ h => h
                            case hwsr39u12 => rfl
                            case hysr39u12 => (intro w; go_simp <;> with_reducible rfl)
                            try simp only [Act.put, List.setIfInBounds_toArray, List.set_cons_zero, List.set_cons_succ]
                            refine wpAnyC_take0 (i := 12) (oi := ?oisr39u13) (v := ?vsr39u13) ?hisr39u13 (by kernel_rfl) (by kernel_rfl) (by kernel_rfl) (by kernel_rfl) ?hQsr39u13 ?hwsr39u13 ?hysr39u13 ((((((((((((hT0.more 0).more 1).more 2).more 3).more 4).more 5).more 6).more 7).more 8).more 9).more 10).more 11) ?_
                            case hisr39u13 => (simp only [List.getElem?_toArray, List.getElem?_cons_succ, List.getElem?_cons_zero]; rfl)
                            case hQsr39u13 => exact fun _ _ _ h => h
                            case hwsr39u13 => rfl
                            case hysr39u13 => (intro w; go_simp <;> with_reducible rfl)
                            try simp only [Act.put, List.setIfInBounds_toArray, List.set_cons_zero, List.set_cons_succ]
                            refine wpAnyC_take0 (i := 13) (oi := ?oisr39u14) (v := ?vsr39u14) ?hisr39u14 (by kernel_rfl) (by kernel_rfl) (by kernel_rfl) (by kernel_rfl) ?hQsr39u14 ?hwsr39u14 ?hysr39u14 (((((((((((((hT0.more 0).more 1).more 2).more 3).more 4).more 5).more 6).more 7).more 8).more 9).more 10).more 11).more 12) ?_
                            case hisr39u14 => (simp only [List.getElem?_toArray, List.getElem?_cons_succ, List.getElem?_cons_zero]; rfl)
                            case hQsr39u14 => exact fun _ _ _ h => h
                            case hwsr39u14 => rfl
                            case hysr39u14 => (intro w; go_simp <;> with_reducible rfl)
                            try simp only [Act.put, List.setIfInBounds_toArray, List.set_cons_zero, List.set_cons_succ]
                            refine wpAnyC_take (i := 14) (oi := ?oisr39u15) (v := ?vsr39u15) [14, 15, 19, 32] ?hisr39u15 (by kernel_rfl) (by kernel_rfl) (by kernel_rfl) (by kernel_rfl) ?hQsr39u15 (.inl ⟨?hwsr39u15, ?hysr39u15⟩) (((((((((((((((hT0.more 0).more 1).more 2).more 3).more 4).more 5).more 6).more 7).more 8).more 9).more 10).more 11).more 12).more 13).resolve_left (by decide)) ?_
                            case hisr39u15 => (simp only [List.getElem?_toArray, List.getElem?_cons_succ, List.getElem?_cons_zero]; rfl)
                            case hQsr39u15 => exact fun _ _ _ h => h
                            case hwsr39u15 => rfl
                            case hysr39u15 => (intro w hSw; (have z0 := (hSw.at_ HXB.out (by simp)).cell 0; have z1 := (hSw.at_ HXB.out (by simp)).cell 1; have z2 := (hSw.at_ HXB.out (by simp)).cell 2; have z3 := (hSw.at_ HXB.out (by simp)).cell 3; obtain ⟨y0, y1, y2, y3⟩ := HCN.out w hSw; have y4 := HWB.out w hSw; simp at z0 z1 z2 z3); go_simp <;> with_reducible rfl)
                            try simp only [Act.put, List.setIfInBounds_toArray, List.set_cons_zero, List.set_cons_succ]
                            have hSx := (((((((((((((((hT0.more 0).more 1).more 2).more 3).more 4).more 5).more 6).more 7).more 8).more 9).more 10).more 11).more 12).more 13).more 14).resolve_left (by decide)
                            refine wpAnyC_ready (rs := [15]) (by kernel_rfl) (by simp) ?_
                            refine ReadyC.cons (o := ?osr39u16) ?hosr39u16 ?hstepsr39u16 ?_
                            case hosr39u16 => (simp only [List.getElem?_toArray, List.getElem?_cons_succ, List.getElem?_cons_zero]; rfl)
                            case hstepsr39u16 =>
                              intro K hK
                              (go_simp; refine (same_is _ ⟨l3, C3, n3, c3, s3, f3, x3⟩ ⟨l3, C4, n4, c4, s3, f3, x3⟩ (HCX.out.keep hSx) (HN4.out.keep hSx) rfl rfl rfl rfl).mono ?_; rintro e w4 ⟨rfl, hf4⟩; dsimp only)
                              refine hK.out _ _ (.inr ?_) (fun hHeld => ?_)
                              · first | exact hSx.then_ hf4 | exact hSx
                              have hT16 := hHeld
                              clear hHeld
                              clear hK K
                              try simp only [Act.put, List.setIfInBounds_toArray, List.set_cons_zero, List.set_cons_succ]
                              refine wpAnyC_take0 (i := 16) (oi := ?oisr39u17) (v := ?vsr39u17) ?hisr39u17 (by kernel_rfl) (by kernel_rfl) (by kernel_rfl) (by kernel_rfl) ?hQsr39u17 ?hwsr39u17 ?hysr39u17 hT16 ?_
                              case hisr39u17 => (simp only [List.getElem?_toArray, List.getElem?_cons_succ, List.getElem?_cons_zero]; rfl)
                              case hQsr39u17 => exact fun _ _ _ h => h
                              case hwsr39u17 => rfl
                              case hysr39u17 => (intro w; go_simp <;> with_reducible rfl)
                              try simp only [Act.put, List.setIfInBounds_toArray, List.set_cons_zero, List.set_cons_succ]
                              refine wpAnyC_take0 (i := 17) (oi := ?oisr39u18) (v := ?vsr39u18) ?hisr39u18 (by kernel_rfl) (by kernel_rfl) (by kernel_rfl) (by kernel_rfl) ?hQsr39u18 ?hwsr39u18 ?hysr39u18 (hT16.more 16) ?_
                              case hisr39u18 => (simp only [List.getElem?_toArray, List.getElem?_cons_succ, List.getElem?_cons_zero]; rfl)
                              case hQsr39u18 => exact fun _ _ _ h => h
                              case hwsr39u18 => rfl
                              case hysr39u18 => (intro w; go_simp <;> with_reducible rfl)
                              try simp only [Act.put, List.setIfInBounds_toArray, List.set_cons_zero, List.set_cons_succ]
                              refine wpAnyC_take0 (i := 18) (oi := ?oisr39u19) (v := ?vsr39u19) ?hisr39u19 (by kernel_rfl) (by kernel_rfl) (by kernel_rfl) (by kernel_rfl) ?hQsr39u19 ?hwsr39u19 ?hysr39u19 ((hT16.more 16).more 17) ?_
                              case hisr39u19 => (simp only [List.getElem?_toArray, List.getElem?_cons_succ, List.getElem?_cons_zero]; rfl)
                              case hQsr39u19 => exact fun _ _ _ h => h
                              case hwsr39u19 => rfl
                              case hysr39u19 => (intro w; go_simp <;> with_reducible rfl)
                              try simp only [Act.put, List.setIfInBounds_toArray, List.set_cons_zero, List.set_cons_succ]
                              refine wpAnyC_take0 (i := 19) (oi := ?oisr39u20) (v := ?vsr39u20) ?hisr39u20 (by kernel_rfl) (by kernel_rfl) (by kernel_rfl) (by kernel_rfl) ?hQsr39u20 ?hwsr39u20 ?hysr39u20 (((hT16.more 16).more 17).more 18) ?_
                              case hisr39u20 => (simp only [List.getElem?_toArray, List.getElem?_cons_succ, List.getElem?_cons_zero]; rfl)
                              case hQsr39u20 => exact fun _ _ _ h => h
                              case hwsr39u20 => rfl
                              case hysr39u20 => (intro w; go_simp <;> with_reducible rfl)
                              try simp only [Act.put, List.setIfInBounds_toArray, List.set_cons_zero, List.set_cons_succ]
                              refine wpAnyC_take0 (i := 20) (oi := ?oisr39u21) (v := ?vsr39u21) ?hisr39u21 (by kernel_rfl) (by kernel_rfl) (by kernel_rfl) (by kernel_rfl) ?hQsr39u21 ?hwsr39u21 ?hysr39u21 ((((hT16.more 16).more 17).more 18).more 19) ?_
                              case hisr39u21 => (simp only [List.getElem?_toArray, List.getElem?_cons_succ, List.getElem?_cons_zero]; rfl)
                              case hQsr39u21 => exact fun _ _ _ h => h
                              case hwsr39u21 => rfl
                              case hysr39u21 => (intro w; go_simp <;> with_reducible rfl)
                              try simp only [Act.put, List.setIfInBounds_toArray, List.set_cons_zero, List.set_cons_succ]
                              refine wpAnyC_take0 (i := 21) (oi := ?oisr39u22) (v := ?vsr39u22) ?hisr39u22 (by kernel_rfl) (by kernel_rfl) (by kernel_rfl) (by kernel_rfl) ?hQsr39u22 ?hwsr39u22 ?hysr39u22 (((((hT16.more 16).more 17).more 18).more 19).more 20) ?_
                              case hisr39u22 => (simp only [List.getElem?_toArray, List.getElem?_cons_succ, List.getElem?_cons_zero]; rfl)
                              case hQsr39u22 => exact fun _ _ _ h => h
                              case hwsr39u22 => rfl
                              case hysr39u22 => (intro w; go_simp <;> with_reducible rfl)
                              try simp only [Act.put, List.setIfInBounds_toArray, List.set_cons_zero, List.set_cons_succ]
                              refine wpAnyC_take0 (i := 22) (oi := ?oisr39u23) (v := ?vsr39u23) ?hisr39u23 (by kernel_rfl) (by kernel_rfl) (by kernel_rfl) (by kernel_rfl) ?hQsr39u23 ?hwsr39u23 ?hysr39u23 ((((((hT16.more 16).more 17).more 18).more 19).more 20).more 21) ?_
                              case hisr39u23 => (simp only [List.getElem?_toArray, List.getElem?_cons_succ, List.getElem?_cons_zero]; rfl)
                              case hQsr39u23 => exact fun _ _ _ h => h
                              case hwsr39u23 => rfl
                              case hysr39u23 => (intro w; go_simp <;> with_reducible rfl)
                              try simp only [Act.put, List.setIfInBounds_toArray, List.set_cons_zero, List.set_cons_succ]
                              refine wpAnyC_take (i := 23) (oi := ?oisr39u24) (v := undef) [23, 24, 25, 30, 31, 32] ?hisr39u24 (by kernel_rfl) (by kernel_rfl) (by kernel_rfl) (by kernel_rfl) ?hQsr39u24 (.inr ⟨?hwsr39u24, rfl⟩) ((((((((hT16.more 16).more 17).more 18).more 19).more 20).more 21).more 22).resolve_left (by decide)) ?_
                              case hisr39u24 => (simp only [List.getElem?_toArray, List.getElem?_cons_succ, List.getElem?_cons_zero]; rfl)
                              case hQsr39u24 => exact fun _ _ _ h => h
                              case hwsr39u24 => rfl
                              try simp only [Act.put, List.setIfInBounds_toArray, List.set_cons_zero, List.set_cons_succ]
                              refine wpAnyC_take (i := 24) (oi := ?oisr39u25) (v := undef) [24, 25, 30, 31, 32] ?hisr39u25 (by kernel_rfl) (by kernel_rfl) (by kernel_rfl) (by kernel_rfl) ?hQsr39u25 (.inr ⟨?hwsr39u25, rfl⟩) (((((((((hT16.more 16).more 17).more 18).more 19).more 20).more 21).more 22).more 23).resolve_left (by decide)) ?_
                              case hisr39u25 => (simp only [List.getElem?_toArray, List.getElem?_cons_succ, List.getElem?_cons_zero]; rfl)
                              case hQsr39u25 => exact fun _ _ _ h => h
                              case hwsr39u25 => rfl
                              try simp only [Act.put, List.setIfInBounds_toArray, List.set_cons_zero, List.set_cons_succ]
                              refine wpAnyC_take (i := 25) (oi := ?oisr39u26) (v := undef) [25, 30, 31, 32] ?hisr39u26 (by kernel_rfl) (by kernel_rfl) (by kernel_rfl) (by kernel_rfl) ?hQsr39u26 (.inr ⟨?hwsr39u26, rfl⟩) ((((((((((hT16.more 16).more 17).more 18).more 19).more 20).more 21).more 22).more 23).more 24).resolve_left (by decide)) ?_
                              case hisr39u26 => (simp only [List.getElem?_toArray, List.getElem?_cons_succ, List.getElem?_cons_zero]; rfl)
                              case hQsr39u26 => exact fun _ _ _ h => h
                              case hwsr39u26 => rfl
                              try simp only [Act.put, List.setIfInBounds_toArray, List.set_cons_zero, List.set_cons_succ]
                              refine wpAnyC_take (i := 26) (oi := ?oisr39u27) (v := undef) [26, 28, 29, 30, 31, 32] ?hisr39u27 (by kernel_rfl) (by kernel_rfl) (by kernel_rfl) (by kernel_rfl) ?hQsr39u27 (.inr ⟨?hwsr39u27, rfl⟩) (((((((((((hT16.more 16).more 17).more 18).more 19).more 20).more 21).more 22).more 23).more 24).more 25).resolve_left (by decide)) ?_
                              case hisr39u27 => (simp only [List.getElem?_toArray, List.getElem?_cons_succ, List.getElem?_cons_zero]; rfl)
                              case hQsr39u27 => exact fun _ _ _ h => h
                              case hwsr39u27 => rfl
                              try simp only [Act.put, List.setIfInBounds_toArray, List.set_cons_zero, List.set_cons_succ]
                              refine wpAnyC_take (i := 27) (oi := ?oisr39u28) (v := undef) [27, 28, 29, 30, 31, 32] ?hisr39u28 (by kernel_rfl) (by kernel_rfl) (by kernel_rfl) (by kernel_rfl) ?hQsr39u28 (.inr ⟨?hwsr39u28, rfl⟩) ((((((((((((hT16.more 16).more 17).more 18).more 19).more 20).more 21).more 22).more 23).more 24).more 25).more 26).resolve_left (by decide)) ?_
                              case hisr39u28 => (simp only [List.getElem?_toArray, List.getElem?_cons_succ, List.getElem?_cons_zero]; rfl)
                              case hQsr39u28 => exact fun _ _ _ h => h
                              case hwsr39u28 => rfl
                              try simp only [Act.put, List.setIfInBounds_toArray, List.set_cons_zero, List.set_cons_succ]
                              refine wpAnyC_take (i := 28) (oi := ?oisr39u29) (v := undef) [28, 29, 30, 31, 32] ?hisr39u29 (by kernel_rfl) (by kernel_rfl) (by kernel_rfl) (by kernel_rfl) ?hQsr39u29 (.inr ⟨?hwsr39u29, rfl⟩) (((((((((((((hT16.more 16).more 17).more 18).more 19).more 20).more 21).more 22).more 23).more 24).more 25).more 26).more 27).resolve_left (by decide)) ?_
                              case hisr39u29 => (simp only [List.getElem?_toArray, List.getElem?_cons_succ, List.getElem?_cons_zero]; rfl)
                              case hQsr39u29 => exact fun _ _ _ h => h
                              case hwsr39u29 => rfl
                              try simp only [Act.put, List.setIfInBounds_toArray, List.set_cons_zero, List.set_cons_succ]
                              refine wpAnyC_take (i := 29) (oi := ?oisr39u30) (v := undef) [29, 30, 31, 32] ?hisr39u30 (by kernel_rfl) (by kernel_rfl) (by kernel_rfl) (by kernel_rfl) ?hQsr39u30 (.inr ⟨?hwsr39u30, rfl⟩) ((((((((((((((hT16.more 16).more 17).more 18).more 19).more 20).more 21).more 22).more 23).more 24).more 25).more 26).more 27).more 28).resolve_left (by decide)) ?_
                              case hisr39u30 => (simp only [List.getElem?_toArray, List.getElem?_cons_succ, List.getElem?_cons_zero]; rfl)
                              case hQsr39u30 => exact fun _ _ _ h => h
                              case hwsr39u30 => rfl
                              try simp only [Act.put, List.setIfInBounds_toArray, List.set_cons_zero, List.set_cons_succ]
                              refine wpAnyC_take (i := 30) (oi := ?oisr39u31) (v := undef) [30, 31, 32] ?hisr39u31 (by kernel_rfl) (by kernel_rfl) (by kernel_rfl) (by kernel_rfl) ?hQsr39u31 (.inr ⟨?hwsr39u31, rfl⟩) (((((((((((((((hT16.more 16).more 17).more 18).more 19).more 20).more 21).more 22).more 23).more 24).more 25).more 26).more 27).more 28).more 29).resolve_left (by decide)) ?_
                              case hisr39u31 => (simp only [List.getElem?_toArray, List.getElem?_cons_succ, List.getElem?_cons_zero]; rfl)
                              case hQsr39u31 => exact fun _ _ _ h => h
                              case hwsr39u31 => rfl
                              try simp only [Act.put, List.setIfInBounds_toArray, List.set_cons_zero, List.set_cons_succ]
                              refine wpAnyC_take0 (i := 31) (oi := ?oisr39u32) (v := ?vsr39u32) ?hisr39u32 (by kernel_rfl) (by kernel_rfl) (by kernel_rfl) (by kernel_rfl) ?hQsr39u32 ?hwsr39u32 ?hysr39u32 (((((((((((((((hT16.more 16).more 17).more 18).more 19).more 20).more 21).more 22).more 23).more 24).more 25).more 26).more 27).more 28).more 29).more 30) ?_
                              case hisr39u32 => (simp only [List.getElem?_toArray, List.getElem?_cons_succ, List.getElem?_cons_zero]; rfl)
                              case hQsr39u32 => exact fun _ _ _ h => h
                              case hwsr39u32 => rfl
                              case hysr39u32 => (intro w; go_simp <;> with_reducible rfl)
                              try simp only [Act.put, List.setIfInBounds_toArray, List.set_cons_zero, List.set_cons_succ]
                              have hSx := ((((((((((((((((hT16.more 16).more 17).more 18).more 19).more 20).more 21).more 22).more 23).more 24).more 25).more 26).more 27).more 28).more 29).more 30).more 31).resolve_left (by decide)
                              refine wpAnyC_ready (rs := [32]) (by kernel_rfl) (by simp) ?_
                              refine ReadyC.cons (o := ?osr39u33) ?hosr39u33 ?hstepsr39u33 ?_
                              case hosr39u33 => (simp only [List.getElem?_toArray, List.getElem?_cons_succ, List.getElem?_cons_zero]; rfl)
                              case hstepsr39u33 =>
                                intro K hK
                                go_simp
                                refine hK.out _ _ (.inl rfl) (fun hHeld => ?_)
                                have hT33 := hHeld
                                clear hHeld
                                clear hK K
                                try simp only [Act.put, List.setIfInBounds_toArray, List.set_cons_zero, List.set_cons_succ]
                                refine wpAnyC_done (by kernel_rfl) ?_ _
                                refine NoPanic.normal ?_
                                go_wp2_with fail
                                go_meet
                                exact ⟨rfl, hSx⟩
                              exact ReadyC.nil
                            exact ReadyC.nil

                        case rest =>
                          obtain ⟨rfl, hf4⟩ := hcut
                          have HQ4 := Lib.hid (HQX.out.keep hf4)
                          clear hf4
                          go_upto_region 43 with fail
                          obtain ⟨AD, hAD, hrd⟩ : ∃ AD : Addr, (if d = p2 + 1 then (some ⟨gB, 0, none⟩ : Option Addr) else some ⟨gB, p2 + 1, none⟩) = some AD ∧ Hid (∀ w', Fr [] wc w' → ∀ j : Nat, j < (W.drop (p2 + 1)).length → w'.cell? (AD.add j) = some (.int .i64 (W.drop (p2 + 1))[j]!)) := by
                            have hcell : ∀ w', Fr [] wc w' → ∀ t : Nat, t < W.length → w'.cell? ⟨gB, t, none⟩ = some (.int .i64 W[t]!) := fun w' hf t ht => (HQ4.out.keep hf).ws.cell ht
                            by_cases hd : d = p2 + 1
                            · refine ⟨⟨gB, 0, none⟩, by simp [hd], fun w' hf j hj => ?_⟩
                              have hle : W.length ≤ d := by
                                rcases HQ4.out.ws.form with ⟨h, _⟩ | ⟨_, _, _, h, _⟩
                                · cases h
                                · exact h
                              rw [List.length_drop] at hj
                              omega
                            · refine ⟨⟨gB, p2 + 1, none⟩, by simp [hd], fun w' hf j hj => ?_⟩
                              rw [List.length_drop] at hj
                              rw [adr_add, hcell w' hf (p2 + 1 + j) (by omega)]
                              have hj2 : p2 + 1 + j < W.length := by omega
                              simp [hj2]
                          have hle : W.length ≤ d := by
                            rcases HQ4.out.ws.form with ⟨h, _⟩ | ⟨_, _, _, h, _⟩
                            · cases h
                            · exact h
                          have hdm : d ≤ 9223372036854775807 := by
                            rcases HQ4.out.ws.form with ⟨h, _⟩ | ⟨_, _, _, _, h⟩
                            · cases h
                            · exact h
                          have hwp1 : IntKind.i64.wrap ((p2 : Int) + 1) = (p2 : Int) + 1 := IntWalk.i64_in _ (by omega)
                          have hz1 : (0 : Int) ≤ (p2 : Int) + 1 := by omega
                          have hz2 : (p2 : Int) + 1 ≤ W.length := by omega
                          have hpc : p2 ≤ d := by omega
                          have hpc1 : p2 + 1 ≤ d := by omega
                          have hpw1 : p2 + 1 ≤ W.length := by omega
                          have HTL : Hid ((W.take p2).length = p2) := by show _ = _; rw [List.length_take]; omega
                          have HDL : Hid ((W.drop (p2 + 1)).length = W.length - (p2 + 1)) := List.length_drop
                          have HRT : Hid (∀ j : Nat, j < (W.take p2).length → wc.drew.cell? ((⟨gB, 0, none⟩ : Addr).add j) = some (.int .i64 (W.take p2)[j]!)) := by
                            intro j hj
                            rw [HTL.out] at hj
                            rw [adr_add, Nat.zero_add]
                            have h1 := HQ4.out.ws.cell (i := j) (by omega)
                            have h2 : j < W.length := by omega
                            have e : (W.take p2)[j]! = W[j]! := by simp [List.getElem!_eq_getElem?_getD, hj]
                            rw [e]
                            exact h1
                          clear hle hdm
                          as_aux_lemma =>
                            refine wp_region_noPanic ?_
                            refine wp_region_C (fun _ : World => True) 10 (by kernel_rfl) (trivial) (fun hT0 => ?_)
                            refine wpAnyC_take0 (i := 0) (oi := ?oiwr43u1) (v := ?vwr43u1) ?hiwr43u1 (by kernel_rfl) (by kernel_rfl) (by kernel_rfl) (by kernel_rfl) ?hQwr43u1 ?hwwr43u1 ?hywr43u1 hT0 ?_
                            case hiwr43u1 => (simp only [List.getElem?_toArray, List.getElem?_cons_zero]; rfl)
                            case hQwr43u1 => exact fun _ _ _ h => h
                            case hwwr43u1 => rfl
                            case hywr43u1 => (intro w; go_simp <;> with_reducible rfl)
                            try simp only [Act.put, List.setIfInBounds_toArray, List.set_cons_zero, List.set_cons_succ]
                            refine wpAnyC_take0 (i := 1) (oi := ?oiwr43u2) (v := ?vwr43u2) ?hiwr43u2 (by kernel_rfl) (by kernel_rfl) (by kernel_rfl) (by kernel_rfl) ?hQwr43u2 ?hwwr43u2 ?hywr43u2 (hT0.more 0) ?_
                            case hiwr43u2 => (simp only [List.getElem?_toArray, List.getElem?_cons_succ, List.getElem?_cons_zero]; rfl)
                            case hQwr43u2 => exact fun _ _ _ h => h
                            case hwwr43u2 => rfl
                            case hywr43u2 => (intro w; go_simp <;> with_reducible rfl)
                            try simp only [Act.put, List.setIfInBounds_toArray, List.set_cons_zero, List.set_cons_succ]
                            refine wpAnyC_take0 (i := 2) (oi := ?oiwr43u3) (v := ?vwr43u3) ?hiwr43u3 (by kernel_rfl) (by kernel_rfl) (by kernel_rfl) (by kernel_rfl) ?hQwr43u3 ?hwwr43u3 ?hywr43u3 ((hT0.more 0).more 1) ?_
                            case hiwr43u3 => (simp only [List.getElem?_toArray, List.getElem?_cons_succ, List.getElem?_cons_zero]; rfl)
                            case hQwr43u3 => exact fun _ _ _ h => h
                            case hwwr43u3 => rfl
                            case hywr43u3 => (intro w; go_simp <;> with_reducible rfl)
                            try simp only [Act.put, List.setIfInBounds_toArray, List.set_cons_zero, List.set_cons_succ]
                            refine wpAnyC_take0 (i := 3) (oi := ?oiwr43u4) (v := ?vwr43u4) ?hiwr43u4 (by kernel_rfl) (by kernel_rfl) (by kernel_rfl) (by kernel_rfl) ?hQwr43u4 ?hwwr43u4 ?hywr43u4 (((hT0.more 0).more 1).more 2) ?_
                            case hiwr43u4 => (simp only [List.getElem?_toArray, List.getElem?_cons_succ, List.getElem?_cons_zero]; rfl)
                            case hQwr43u4 => exact fun _ _ _ h => h
                            case hwwr43u4 => rfl
                            case hywr43u4 => (intro w; go_simp <;> with_reducible rfl)
                            try simp only [Act.put, List.setIfInBounds_toArray, List.set_cons_zero, List.set_cons_succ]
                            refine wpAnyC_take0 (i := 5) (oi := ?oiwr43u5) (v := ?vwr43u5) ?hiwr43u5 (by kernel_rfl) (by kernel_rfl) (by kernel_rfl) (by kernel_rfl) ?hQwr43u5 ?hwwr43u5 ?hywr43u5 ((((hT0.more 0).more 1).more 2).more 3) ?_
                            case hiwr43u5 => (simp only [List.getElem?_toArray, List.getElem?_cons_succ, List.getElem?_cons_zero]; rfl)
                            case hQwr43u5 => exact fun _ _ _ h => h
                            case hwwr43u5 => rfl
                            case hywr43u5 => (intro w; go_simp <;> with_reducible rfl)
                            try simp only [Act.put, List.setIfInBounds_toArray, List.set_cons_zero, List.set_cons_succ]
                            refine wpAnyC_take0 (i := 6) (oi := ?oiwr43u6) (v := ?vwr43u6) ?hiwr43u6 (by kernel_rfl) (by kernel_rfl) (by kernel_rfl) (by kernel_rfl) ?hQwr43u6 ?hwwr43u6 ?hywr43u6 (((((hT0.more 0).more 1).more 2).more 3).more 5) ?_
                            case hiwr43u6 => (simp only [List.getElem?_toArray, List.getElem?_cons_succ, List.getElem?_cons_zero]; rfl)
                            case hQwr43u6 => exact fun _ _ _ h => h
                            case hwwr43u6 => rfl
                            case hywr43u6 => (intro w; go_simp <;> with_reducible rfl)
                            try simp only [Act.put, List.setIfInBounds_toArray, List.set_cons_zero, List.set_cons_succ]
                            refine wpAnyC_take0 (i := 7) (oi := ?oiwr43u7) (v := ?vwr43u7) ?hiwr43u7 (by kernel_rfl) (by kernel_rfl) (by kernel_rfl) (by kernel_rfl) ?hQwr43u7 ?hwwr43u7 ?hywr43u7 ((((((hT0.more 0).more 1).more 2).more 3).more 5).more 6) ?_
                            case hiwr43u7 => (simp only [List.getElem?_toArray, List.getElem?_cons_succ, List.getElem?_cons_zero]; rfl)
                            case hQwr43u7 => exact fun _ _ _ h => h
                            case hwwr43u7 => rfl
                            case hywr43u7 => (intro w; go_simp <;> with_reducible rfl)
                            try simp only [Act.put, List.setIfInBounds_toArray, List.set_cons_zero, List.set_cons_succ]
                            refine wpAnyC_take0 (i := 8) (oi := ?oiwr43u8) (v := ?vwr43u8) ?hiwr43u8 (by kernel_rfl) (by kernel_rfl) (by kernel_rfl) (by kernel_rfl) ?hQwr43u8 ?hwwr43u8 ?hywr43u8 (((((((hT0.more 0).more 1).more 2).more 3).more 5).more 6).more 7) ?_
                            case hiwr43u8 => (simp only [List.getElem?_toArray, List.getElem?_cons_succ, List.getElem?_cons_zero]; rfl)
                            case hQwr43u8 => exact fun _ _ _ h => h
                            case hwwr43u8 => rfl
                            case hywr43u8 => (intro w; go_simp <;> with_reducible rfl)
                            try simp only [Act.put, List.setIfInBounds_toArray, List.set_cons_zero, List.set_cons_succ]
                            have hSx := ((((((((hT0.more 0).more 1).more 2).more 3).more 5).more 6).more 7).more 8).resolve_left (by decide)
                            refine wpAnyC_ready (rs := [4]) (by kernel_rfl) (by simp) ?_
                            refine ReadyC.cons (o := ?owr43u9) ?howr43u9 ?hstepwr43u9 ?_
                            case howr43u9 => (simp only [List.getElem?_toArray, List.getElem?_cons_succ, List.getElem?_cons_zero]; rfl)
                            case hstepwr43u9 =>
                              intro K hK
                              (refine step_append_rd rfl (.tmp 236) (.tmp 239) rfl none 0 [] 0 (by simp [Act.eval]) rfl (Ints.nil _) ⟨gB, 0, none⟩ p2 d (by simp [Act.eval]) (W.take p2) HTL.out HRT.out (by rw [HTL.out]; simp; omega) ?_; intro A5 c5 w5 hi5 hf5 hg5 hs5; have HI5 := Lib.hid hi5; have HF5 := Lib.hid (((Fr.refl [] wc).drew).trans hf5 (fun k hk => (by cases hk))); have HG5 := Lib.hid (fun k hk => (hg5 k hk).elim (fun h => (by cases h)) (fun h => Nat.le_of_eq h.symm) : ∀ k, k ∈ blks A5 → wc.heap.size ≤ k); clear hi5 hf5 hg5 hs5)
                              refine hK.out _ _ (.inr ?_) (fun hHeld => ?_)
                              · trivial
                              have hT9 := hHeld
                              clear hHeld
                              clear hK K
                              try simp only [Act.put, List.setIfInBounds_toArray, List.set_cons_zero, List.set_cons_succ]
                              have hSx := hT9.resolve_left (by decide)
                              refine wpAnyC_ready (rs := [9]) (by kernel_rfl) (by simp) ?_
                              refine ReadyC.cons (o := ?owr43u10) ?howr43u10 ?hstepwr43u10 ?_
                              case howr43u10 => (simp only [List.getElem?_toArray, List.getElem?_cons_succ, List.getElem?_cons_zero]; rfl)
                              case hstepwr43u10 =>
                                intro K hK
                                (refine step_append_rd rfl (.tmp 240) (.tmp 244) rfl A5 c5 ([] ++ W.take p2) p2 (by simp [Act.eval]) (by rw [List.nil_append, HTL.out]) HI5.out AD (W.length - (p2 + 1)) (d - (p2 + 1)) (by simp [Act.eval]) (W.drop (p2 + 1)) HDL.out (hrd.out _ HF5.out) (by rw [List.nil_append, HTL.out, HDL.out]; omega) ?_; intro A6 c6 w6 hi6 hf6 hg6 hs6; have HI6 := Lib.hid hi6; have HF6 := Lib.hid hf6; have HG6 := Lib.hid hg6; clear hi6 hf6 hg6 hs6)
                                refine hK.out _ _ (.inr ?_) (fun hHeld => ?_)
                                · trivial
                                have hT10 := hHeld
                                clear hHeld
                                clear hK K
                                try simp only [Act.put, List.setIfInBounds_toArray, List.set_cons_zero, List.set_cons_succ]
                                have hSx := hT10.resolve_left (by decide)
                                refine wpAnyC_ready (rs := [10]) (by kernel_rfl) (by simp) ?_
                                refine ReadyC.cons (o := ?owr43u11) ?howr43u11 ?hstepwr43u11 ?_
                                case howr43u11 => (simp only [List.getElem?_toArray, List.getElem?_cons_succ, List.getElem?_cons_zero]; rfl)
                                case hstepwr43u11 =>
                                  intro K hK
                                  go_simp
                                  refine hK.out _ _ (.inl rfl) (fun hHeld => ?_)
                                  have hT11 := hHeld
                                  clear hHeld
                                  clear hK K
                                  try simp only [Act.put, List.setIfInBounds_toArray, List.set_cons_zero, List.set_cons_succ]
                                  refine wpAnyC_done (by kernel_rfl) ?_ _
                                  refine NoPanic.normal ?_
                                  go_wp2_with fail
                                  go_meet
                                  have hI : Ints w6 A6 c6 (W.eraseIdx p2) := by
                                    have := HI6.out
                                    rw [List.nil_append] at this
                                    rw [List.eraseIdx_eq_take_drop_succ]
                                    exact this
                                  have hF : Fr [] wc w6 := HF5.out.trans HF6.out (fun k hk => .inr (HG5.out k hk))
                                  exact ⟨L, M, W.eraseIdx p2, some ⟨gN, 0, none⟩, c, N, A6, c6, rfl, by rw [List.length_eraseIdx_of_lt hpW]; congr 1; omega,
                                    HQ4.out.waits hI (hF.mono (fun k hk => by cases hk)) (fun k hk => .inr ((HG6.out k hk).elim (HG5.out k) (fun h => by rw [h]; exact HF5.out.size))), HI.out.take p2⟩
                                exact ReadyC.nil
                              exact ReadyC.nil
                            exact ReadyC.nil
            · obtain rfl : q = 2 := by omega
              clear q0 q1
              as_aux_lemma =>
                have hbw : ∃ bw : Bool, (bw = true ∧ 1 ≤ id ∧ id ≤ N.length ∧ 0 ≤ lev) ∨ (bw = false ∧ (¬ 1 ≤ id ∨ (1 ≤ id ∧ ¬ id ≤ N.length) ∨ (1 ≤ id ∧ id ≤ N.length ∧ lev < 0))) := by
                  by_cases p1 : 1 ≤ id
                  · by_cases p2 : id ≤ N.length
                    · by_cases p3 : 0 ≤ lev
                      · exact ⟨true, .inl ⟨rfl, p1, p2, p3⟩⟩
                      · exact ⟨false, .inr ⟨rfl, .inr (.inr ⟨p1, p2, by omega⟩)⟩⟩
                    · exact ⟨false, .inr ⟨rfl, .inr (.inl ⟨p1, p2⟩)⟩⟩
                  · exact ⟨false, .inr ⟨rfl, .inl p1⟩⟩
                obtain ⟨bw, hbw⟩ := hbw
                have HBW := Lib.hid hbw
                go_upto_region 11 with fail
                go_cut [17] (fun s17 wx => s17 = .bool bw ∧ W1 = wx)
                case first =>
                  rcases hbw with ⟨rfl, p1, p2, p3⟩ | ⟨rfl, p1 | ⟨p1, p2⟩ | ⟨p1, p2, p3⟩⟩
                  · as_aux_lemma => (go_wp2_with fail; go_meet; exact ⟨by simp, rfl⟩)
                  · as_aux_lemma => (go_wp2_with fail; go_meet; exact ⟨rfl, rfl⟩)
                  · as_aux_lemma => (go_wp2_with fail; go_meet; exact ⟨by simp, rfl⟩)
                  · as_aux_lemma => (go_wp2_with fail; go_meet; exact ⟨by rw [decide_eq_false (by omega)], rfl⟩)
                case rest =>
                  obtain ⟨rfl, rfl⟩ := hcut
                  clear hbw
                  go_wp2_with fail
                  go_loopg [17, 18] W.length (fun gk s17 s18 wz => ∃ (j n : Nat) (b2 : Bool), j + gk = W.length ∧ s17 = .bool b2 ∧ s18 = .int .i64 j ∧ b2 = (bw && !(decide (id ∈ W.take j))) ∧ W1.drewN n = wz)
                  case atStart => exact ⟨0, 0, bw, by omega, rfl, rfl, by simp, rfl⟩
                  case round =>
                    obtain ⟨j, n, b2, hj, rfl, rfl, hb2, rfl⟩ := hrel
                    have HJ := Lib.hid hj
                    have HB2 := Lib.hid hb2
                    have hj2 : j ≤ W.length := by omega
                    clear hj hb2
                    by_cases hjs : j < W.length
                    · have hws := HAN.out.ws
                      obtain ⟨gB, hgB, -⟩ := hws.pos hjs
                      rw [hgB] at hws
                      have cj := hws.cell hjs
                      have hsn : W.take (j + 1) = W.take j ++ [W[j]!] := by rw [List.take_add_one]; simp [hjs]
                      obtain ⟨x, hx⟩ : ∃ x, W[j]! = x := ⟨_, rfl⟩
                      rw [hx] at cj hsn
                      have HSN := Lib.hid hsn
                      subst hgB
                      clear hx hsn hws
                      cases b2 with
                      | false =>
                        as_aux_lemma =>
                          go_wp2_with fail
                          go_quiet (fail)
                          go_wp2_with fail
                          go_roundg (gk - 1)
                          case measure => have := HJ.out; omega
                          case rel =>
                            refine ⟨j + 1, _, false, by have := HJ.out; omega, rfl, by go_num, ?_, rfl⟩
                            have h := HB2.out
                            rw [HSN.out]
                            cases hbw2 : bw with
                            | false => rfl
                            | true =>
                              rw [hbw2] at h
                              have h3 : id ∈ W.take j := by simpa using h
                              simp [h3]
                      | true =>
                        have hb3 : bw = true ∧ id ∉ W.take j := by
                          have h := HB2.out
                          cases hbw2 : bw with
                          | false => rw [hbw2] at h; cases h
                          | true => rw [hbw2] at h; exact ⟨rfl, by simpa using h⟩
                        have HB3 := Lib.hid hb3
                        clear hb3
                        by_cases hxe : x = id
                        · have hb : (x != id) = false := by simp [hxe]
                          have HXE := Lib.hid hxe
                          clear hxe
                          as_aux_lemma =>
                            go_wp2_with fail
                            go_quiet (fail)
                            go_wp2_with fail
                            go_roundg (gk - 1)
                            case measure => have := HJ.out; omega
                            case rel => exact ⟨j + 1, _, false, by have := HJ.out; omega, rfl, by go_num, by rw [HSN.out, HXE.out]; simp, rfl⟩
                        · have hb : (x != id) = true := bne_iff_ne.2 hxe
                          have HXE := Lib.hid hxe
                          clear hxe
                          as_aux_lemma =>
                            go_wp2_with fail
                            go_quiet (fail)
                            go_wp2_with fail
                            go_roundg (gk - 1)
                            case measure => have := HJ.out; omega
                            case rel =>
                              refine ⟨j + 1, _, true, by have := HJ.out; omega, rfl, by go_num, ?_, rfl⟩
                              rw [HSN.out, HB3.out.1]
                              have h1 := HB3.out.2
                              have h2 : ¬ id = x := fun h => HXE.out h.symm
                              simp [h1, h2]
                    · have hje : j = W.length := by omega
                      have hb3 : b2 = (bw && !(decide (id ∈ W))) := by
                        have h := HB2.out
                        rwa [hje, List.take_length] at h
                      have HB3 := Lib.hid hb3
                      have HQn := Lib.hid (HAN.out.drewN n)
                      have HOn : Hid (At (W1.drewN n) ob 72 #[.int .i64 kd, .int .i64 ml, .slice mC mn mc, .string ms, .int .i64 mf, .int .i64 id, .int .i64 lev]) := HO.out
                      clear hje hb3
                      cases b2 with
                      | true =>
                        have hall : bw = true ∧ decide (id ∈ W) = false := by
                          have h := HB3.out
                          cases hbw2 : bw with
                          | false => rw [hbw2] at h; cases h
                          | true => rw [hbw2] at h; exact ⟨rfl, by simpa using h⟩
                        have hr : 1 ≤ id ∧ id ≤ N.length ∧ 0 ≤ lev := by
                          rcases HBW.out with ⟨_, h⟩ | ⟨h, _⟩
                          · exact h
                          · rw [hall.1] at h; cases h
                        obtain ⟨p1, p2, p3⟩ := hr
                        obtain ⟨i, hid⟩ : ∃ i : Nat, id = i + 1 := ⟨(id - 1).toNat, by omega⟩
                        have hiN : i < N.length := by omega
                        have hiM : i < M.length := by rw [← HLN.out]; exact hiN
                        have HID := Lib.hid hid
                        have HNI := Lib.hid hall.2
                        clear hid hall
                        as_aux_lemma =>
                          go_wp2_with fail
                          refine (HQn.out.again_yes id lev i HID.out hiM (by omega) p3 HNI.out).mono ?_
                          rintro e w5 ⟨rfl, L5, hq5⟩
                          have hO5 := hq5.fr.at_ HO.out HOB.out
                          have o5 := hO5.cell 5
                          have o6 := hO5.cell 6
                          simp at o5 o6
                          have idx : id - 1 = i := by have := HID.out; omega
                          have hwi : IntKind.i64.wrap (i : Int) = i := IntWalk.i64_in _ (by omega)
                          have hiz : (i : Int) < N.length := by omega
                          have hi0 : (0 : Int) ≤ i := by omega
                          obtain ⟨gN, hgN, -⟩ := hq5.its.pos hiN
                          have hits := hq5.its
                          rw [hgN] at hits
                          obtain ⟨n0, -, -, -⟩ := hits.cell hiN
                          have f0 := hits.frozen (i * 4)
                          have hq6 := hq5.lev hgN hiN lev
                          obtain ⟨l0, hl0⟩ : ∃ l0, (N[i]!).l = l0 := ⟨_, rfl⟩
                          rw [hl0] at n0
                          obtain ⟨V, hV⟩ : ∃ V, V = w5.setCell ⟨gN, i * 4, none⟩ (.int .i64 lev) := ⟨_, rfl⟩
                          rw [← hV] at hq6
                          have HQ6 := Lib.hid hq6
                          subst hgN
                          clear hq5 hO5 hits hq6 hl0
                          go_upto_region 20 with fail
                          rw [← hV]
                          have hO6 := HQ6.out.fr.at_ HO.out HOB.out
                          have o5 := hO6.cell 5
                          simp at o5
                          clear hV n0 f0 o6 hO6
                          go_wp2_with (at_builtin; refine wpList_append_int _ rfl _ _ rfl B d W _ rfl rfl (HQ6.out.ws.alloc _) ⟨V.heap.size, 0, none⟩ 1 id rfl (by simp) (by omega) ?_; intro g3 cap3 w6 hi2 hf2 hg2 hs2; have HI5 := Lib.hid hi2; have HF5 := Lib.hid hf2; have HG5 := Lib.hid hg2; clear hi2 hf2 hg2 hs2)
                          go_meet
                          have q7 := (HQ6.out.alloc _).waits HI5.out HF5.out (fun x hx => (by simp only [blks, Option.map_some, Option.toList_some, List.mem_singleton] at hx; subst hx; exact HG5.out.imp (fun e => e) (fun e => by rw [e]; exact Nat.le_refl _)))
                          exact ⟨L5, _, _, some ⟨gN, 0, none⟩, c, _, some ⟨g3, 0, none⟩, cap3, by simp, by simp, q7, HI.out.again i hiM lev p3 r4.2 id HID.out⟩
                      | false =>
                        have hag : Calls Try.prog 46 #[.pointer (some ⟨a0, 0, none⟩), .int .i64 id, .int .i64 lev] (W1.drewN n) fun e w' => e = .returned (.bool false) ∧ W1.drewN n = w' := by
                          by_cases hin : (decide (1 ≤ id) && decide (id ≤ M.length)) = true
                          · refine HQn.out.again_no id lev hin (by omega) ?_
                            simp only [Bool.and_eq_true, decide_eq_true_eq] at hin
                            have h := HB3.out
                            cases hbw2 : bw with
                            | false =>
                              rcases HBW.out with ⟨h1, _⟩ | ⟨_, h1⟩
                              · rw [hbw2] at h1; cases h1
                              · rw [HLN.out] at h1
                                rcases h1 with h1 | h1 | h1
                                · exact absurd hin.1 (by omega)
                                · exact absurd hin.2 (by omega)
                                · exact .inl h1.2.2
                            | true =>
                              rw [hbw2] at h
                              have hm : id ∈ W := by simpa using h
                              rcases HBW.out with ⟨_, h1⟩ | ⟨h1, _⟩
                              · exact .inr ⟨h1.2.2, by simp [hm]⟩
                              · rw [hbw2] at h1; cases h1
                          · exact HQn.out.again_none id lev (by simpa using hin)
                        have HAG := Lib.hid hag
                        clear hag
                        as_aux_lemma =>
                          go_wp2_with fail
                          refine HAG.out.mono ?_
                          rintro e w5 ⟨rfl, rfl⟩
                          go_wp2_with fail
                          go_meet
                          exact ⟨L, M, W, A, c, N, B, d, rfl, rfl, HQn.out, HI.out.mono⟩
        case rest =>
          clear hq2 o0 o1 o2 o3 o4 o5 o6 hlN hlM hlW
          obtain ⟨L', M', W', A', c', N', B', d', rfl, rfl, hQ', hI'⟩ := hcut
          have hO' := hQ'.fr.at_ HO.out HOB.out
          have o5 := hO'.cell 5
          simp at o5
          have HQ' := Lib.hid hQ'
          have HI' := Lib.hid hI'
          have HO' := Lib.hid hO'
          have HLN := Lib.hid hI'.len
          have hlM := hI'.lenM
          have hlW := hI'.lenW
          clear hQ' hI' hO'
          by_cases hin : 1 ≤ id ∧ id ≤ M'.length
          · obtain ⟨hi1, hi2⟩ := hin
            as_aux_lemma =>
              obtain ⟨i, hid⟩ : ∃ i : Nat, id = i + 1 := ⟨(id - 1).toNat, by omega⟩
              have hiM : i < M'.length := by omega
              obtain ⟨m, hm⟩ : ∃ m, M'[i]! = m := ⟨_, rfl⟩
              have HID := Lib.hid hid
              have HMI := Lib.hid hm
              clear hid hm
              go_wp2_with fail
              refine (HQ'.out.item_yes id i HID.out hiM m HMI.out).mono ?_
              rintro e w3 ⟨C3, c3, rfl, hc3, hf3⟩
              obtain ⟨l3, C, n3, c, s3, f3, x3⟩ := m
              simp only [Im.val] at hc3 ⊢
              go_upto_region 46 with fail
              obtain ⟨X, hX⟩ : ∃ X, X = w3.alloc (.cells #[.int .i64 l3, .slice C3 n3 c3, .string s3, .int .i64 f3] 38) := ⟨_, rfl⟩
              rw [← hX]
              have hfX : Fr [] w3 X := by rw [hX]; exact (Fr.refl [] w3).alloc _
              have hX0 : At X w3.heap.size 38 #[.int .i64 l3, .slice C3 n3 c3, .string s3, .int .i64 f3] := by rw [hX]; exact At.new _ _ _
              have hQX := HQ'.out.keep (hf3.then_ hfX)
              have hOX := (hf3.then_ hfX).at_ HO'.out (by simp)
              have HCX := Lib.hid (hc3.keep hfX).cub
              have HQX := Lib.hid hQX
              have HOX := Lib.hid hOX
              have o5 := hOX.cell 5
              simp at o5
              have x0 := hX0.cell 0
              have x1 := hX0.cell 1
              have x2 := hX0.cell 2
              have x3' := hX0.cell 3
              simp at x0 x1 x2 x3'
              have hiN : i < N'.length := by rw [HLN.out]; exact hiM
              obtain ⟨gN, hgN, -⟩ := hQX.its.pos hiN
              subst hgN
              obtain ⟨n0, n1, n2, n3'⟩ := hQX.its.cell hiN
              have hpl := HI'.out.get hiM
              rw [HMI.out] at hpl
              have hNold : Cub w N'[i]! := HI'.out.old _ (by simp [hiN])
              obtain ⟨nm, hnm⟩ : ∃ nm, N'[i]! = nm := ⟨_, rfl⟩
              rw [hnm] at n0 n1 n2 n3' hpl hNold
              obtain ⟨l4, C4, n4, c4, s4, f4, x4⟩ := nm
              simp only at n0 n1 n2 n3'
              simp only [pl, Prod.mk.injEq] at hpl
              obtain ⟨rfl, rfl, rfl, rfl⟩ := hpl
              have hFX : Fr [] w X := HQ1.out.fr.trans hQX.fr (fun x hx => .inr (HF0.out x hx))
              have HN4 := Lib.hid (hNold.keep hFX)
              have HCN : Hid (∀ w', Fr [] X w' → w'.cell? ⟨gN, i * 4, none⟩ = some (.int .i64 l3) ∧ w'.cell? ⟨gN, i * 4 + 1, none⟩ = some (.slice C4 n4 c4) ∧ w'.cell? ⟨gN, i * 4 + 2, none⟩ = some (.string s3) ∧ w'.cell? ⟨gN, i * 4 + 3, none⟩ = some (.int .i64 f3)) := by
                intro w' hf
                have hg := hQX.its.lt gN (by simp [blks])
                have tr : ∀ {j : Nat} {v : Value}, X.cell? ⟨gN, j, none⟩ = some v → w'.cell? ⟨gN, j, none⟩ = some v := fun h => (World.cell?_of_block (hf.block gN hg (by simp))).trans h
                exact ⟨tr n0, tr n1, tr n2, tr n3'⟩
              have HXB := Lib.hid hX0
              generalize w3.heap.size = xb at x0 x1 x2 x3' HXB ⊢
              clear hX hfX hX0 hQX hOX hf3 hc3 hnm hNold hFX n0 n1 n2 n3'
              have idx : id - 1 = i := by have := HID.out; omega
              have hwi : IntKind.i64.wrap (i : Int) = i := IntWalk.i64_in _ (by omega)
              have hiz : (i : Int) < N'.length := by omega
              have hi0 : (0 : Int) ≤ i := by omega
              have hi3 : id ≤ N'.length := by rw [HLN.out]; exact hi2
              have nn : ((W'.length : Int) != (W'.length : Int)) = false := by simp
              go_cut [294] (fun st wx => st = .bool false ∧ Fr [] X wx)
              case first =>
                as_aux_lemma =>
                  refine wp_region_noPanic ?_
                  refine wp_region_C (fun w' : World => Fr [] X w') 40 (by kernel_rfl) ((Fr.refl [] X).drew) (fun hT0 => ?_)
                  refine wpAnyC_take0 (i := 0) (oi := ?oir46u1) (v := ?vr46u1) ?hir46u1 (by kernel_rfl) (by kernel_rfl) (by kernel_rfl) (by kernel_rfl) ?hQr46u1 ?hwr46u1 ?hyr46u1 hT0 ?_
                  case hir46u1 => (simp only [List.getElem?_toArray, List.getElem?_cons_zero]; rfl)
                  case hQr46u1 => exact fun _ _ _ h => h
                  case hwr46u1 => rfl
                  case hyr46u1 => (intro w; go_simp <;> with_reducible rfl)
                  try simp only [Act.put, List.setIfInBounds_toArray, List.set_cons_zero, List.set_cons_succ]
                  refine wpAnyC_take0 (i := 2) (oi := ?oir46u2) (v := ?vr46u2) ?hir46u2 (by kernel_rfl) (by kernel_rfl) (by kernel_rfl) (by kernel_rfl) ?hQr46u2 ?hwr46u2 ?hyr46u2 (hT0.more 0) ?_
                  case hir46u2 => (simp only [List.getElem?_toArray, List.getElem?_cons_succ, List.getElem?_cons_zero]; rfl)
                  case hQr46u2 => exact fun _ _ _ h => h
                  case hwr46u2 => rfl
                  case hyr46u2 => (intro w; go_simp <;> with_reducible rfl)
                  try simp only [Act.put, List.setIfInBounds_toArray, List.set_cons_zero, List.set_cons_succ]
                  refine wpAnyC_take0 (i := 3) (oi := ?oir46u3) (v := ?vr46u3) ?hir46u3 (by kernel_rfl) (by kernel_rfl) (by kernel_rfl) (by kernel_rfl) ?hQr46u3 ?hwr46u3 ?hyr46u3 ((hT0.more 0).more 2) ?_
                  case hir46u3 => (simp only [List.getElem?_toArray, List.getElem?_cons_succ, List.getElem?_cons_zero]; rfl)
                  case hQr46u3 => exact fun _ _ _ h => h
                  case hwr46u3 => rfl
                  case hyr46u3 => (intro w; go_simp <;> with_reducible rfl)
                  try simp only [Act.put, List.setIfInBounds_toArray, List.set_cons_zero, List.set_cons_succ]
                  have hSx := (((hT0.more 0).more 2).more 3).resolve_left (by decide)
                  refine wpAnyC_ready (rs := [1]) (by kernel_rfl) (by simp) ?_
                  refine ReadyC.cons (o := ?or46u4) ?hor46u4 ?hstepr46u4 ?_
                  case hor46u4 => (simp only [List.getElem?_toArray, List.getElem?_cons_succ, List.getElem?_cons_zero]; rfl)
                  case hstepr46u4 =>
                    intro K hK
                    (go_simp; refine ((HQX.out.keep hSx).len W'.length rfl).mono ?_; rintro e w4 ⟨rfl, rfl⟩; dsimp only)
                    refine hK.out _ _ (.inr ?_) (fun hHeld => ?_)
                    · first | exact hSx.then_ hf5 | exact hSx.then_ hf4 | exact hSx
                    have hT4 := hHeld
                    clear hHeld
                    clear hK K
                    try simp only [Act.put, List.setIfInBounds_toArray, List.set_cons_zero, List.set_cons_succ]
                    refine wpAnyC_take0 (i := 4) (oi := ?oir46u5) (v := ?vr46u5) ?hir46u5 (by kernel_rfl) (by kernel_rfl) (by kernel_rfl) (by kernel_rfl) ?hQr46u5 ?hwr46u5 ?hyr46u5 hT4 ?_
                    case hir46u5 => (simp only [List.getElem?_toArray, List.getElem?_cons_succ, List.getElem?_cons_zero]; rfl)
                    case hQr46u5 => exact fun _ _ _ h => h
                    case hwr46u5 => rfl
                    case hyr46u5 => (intro w; go_simp <;> with_reducible rfl)
                    try simp only [Act.put, List.setIfInBounds_toArray, List.set_cons_zero, List.set_cons_succ]
                    refine wpAnyC_take0 (i := 5) (oi := ?oir46u6) (v := ?vr46u6) ?hir46u6 (by kernel_rfl) (by kernel_rfl) (by kernel_rfl) (by kernel_rfl) ?hQr46u6 ?hwr46u6 ?hyr46u6 (hT4.more 4) ?_
                    case hir46u6 => (simp only [List.getElem?_toArray, List.getElem?_cons_succ, List.getElem?_cons_zero]; rfl)
                    case hQr46u6 => exact fun _ _ _ h => h
                    case hwr46u6 => rfl
                    case hyr46u6 => (intro w; go_simp <;> with_reducible rfl)
                    try simp only [Act.put, List.setIfInBounds_toArray, List.set_cons_zero, List.set_cons_succ]
                    refine wpAnyC_take0 (i := 6) (oi := ?oir46u7) (v := ?vr46u7) ?hir46u7 (by kernel_rfl) (by kernel_rfl) (by kernel_rfl) (by kernel_rfl) ?hQr46u7 ?hwr46u7 ?hyr46u7 ((hT4.more 4).more 5) ?_
                    case hir46u7 => (simp only [List.getElem?_toArray, List.getElem?_cons_succ, List.getElem?_cons_zero]; rfl)
                    case hQr46u7 => exact fun _ _ _ h => h
                    case hwr46u7 => rfl
                    case hyr46u7 => (intro w; go_simp <;> with_reducible rfl)
                    try simp only [Act.put, List.setIfInBounds_toArray, List.set_cons_zero, List.set_cons_succ]
                    refine wpAnyC_take0 (i := 7) (oi := ?oir46u8) (v := ?vr46u8) ?hir46u8 (by kernel_rfl) (by kernel_rfl) (by kernel_rfl) (by kernel_rfl) ?hQr46u8 ?hwr46u8 ?hyr46u8 (((hT4.more 4).more 5).more 6) ?_
                    case hir46u8 => (simp only [List.getElem?_toArray, List.getElem?_cons_succ, List.getElem?_cons_zero]; rfl)
                    case hQr46u8 => exact fun _ _ _ h => h
                    case hwr46u8 => rfl
                    case hyr46u8 => (intro w; go_simp <;> with_reducible rfl)
                    try simp only [Act.put, List.setIfInBounds_toArray, List.set_cons_zero, List.set_cons_succ]
                    refine wpAnyC_take (i := 8) (oi := ?oir46u9) (v := ?vr46u9) [8, 9, 10, 19, 32, 33, 40] ?hir46u9 (by kernel_rfl) (by kernel_rfl) (by kernel_rfl) (by kernel_rfl) ?hQr46u9 (.inl ⟨?hwr46u9, ?hyr46u9⟩) (((((hT4.more 4).more 5).more 6).more 7).resolve_left (by decide)) ?_
                    case hir46u9 => (simp only [List.getElem?_toArray, List.getElem?_cons_succ, List.getElem?_cons_zero]; rfl)
                    case hQr46u9 => exact fun _ _ _ h => h
                    case hwr46u9 => rfl
                    case hyr46u9 => (intro w hSw; (have t5 := (hSw.at_ HOX.out (by simp)).cell 5; have z0 := (hSw.at_ HXB.out (by simp)).cell 0; have z1 := (hSw.at_ HXB.out (by simp)).cell 1; have z2 := (hSw.at_ HXB.out (by simp)).cell 2; have z3 := (hSw.at_ HXB.out (by simp)).cell 3; obtain ⟨y0, y1, y2, y3⟩ := HCN.out w hSw; simp at t5 z0 z1 z2 z3); go_simp <;> with_reducible rfl)
                    try simp only [Act.put, List.setIfInBounds_toArray, List.set_cons_zero, List.set_cons_succ]
                    refine wpAnyC_take0 (i := 9) (oi := ?oir46u10) (v := ?vr46u10) ?hir46u10 (by kernel_rfl) (by kernel_rfl) (by kernel_rfl) (by kernel_rfl) ?hQr46u10 ?hwr46u10 ?hyr46u10 (((((hT4.more 4).more 5).more 6).more 7).more 8) ?_
                    case hir46u10 => (simp only [List.getElem?_toArray, List.getElem?_cons_succ, List.getElem?_cons_zero]; rfl)
                    case hQr46u10 => exact fun _ _ _ h => h
                    case hwr46u10 => rfl
                    case hyr46u10 => (intro w; go_simp <;> with_reducible rfl)
                    try simp only [Act.put, List.setIfInBounds_toArray, List.set_cons_zero, List.set_cons_succ]
                    refine wpAnyC_take0 (i := 10) (oi := ?oir46u11) (v := ?vr46u11) ?hir46u11 (by kernel_rfl) (by kernel_rfl) (by kernel_rfl) (by kernel_rfl) ?hQr46u11 ?hwr46u11 ?hyr46u11 ((((((hT4.more 4).more 5).more 6).more 7).more 8).more 9) ?_
                    case hir46u11 => (simp only [List.getElem?_toArray, List.getElem?_cons_succ, List.getElem?_cons_zero]; rfl)
                    case hQr46u11 => exact fun _ _ _ h => h
                    case hwr46u11 => rfl
                    case hyr46u11 => (intro w; go_simp <;> with_reducible rfl)
                    try simp only [Act.put, List.setIfInBounds_toArray, List.set_cons_zero, List.set_cons_succ]
                    refine wpAnyC_take0 (i := 11) (oi := ?oir46u12) (v := ?vr46u12) ?hir46u12 (by kernel_rfl) (by kernel_rfl) (by kernel_rfl) (by kernel_rfl) ?hQr46u12 ?hwr46u12 ?hyr46u12 (((((((hT4.more 4).more 5).more 6).more 7).more 8).more 9).more 10) ?_
                    case hir46u12 => (simp only [List.getElem?_toArray, List.getElem?_cons_succ, List.getElem?_cons_zero]; rfl)
                    case hQr46u12 => exact fun _ _ _ h => h
                    case hwr46u12 => rfl
                    case hyr46u12 => (intro w; go_simp <;> with_reducible rfl)
                    try simp only [Act.put, List.setIfInBounds_toArray, List.set_cons_zero, List.set_cons_succ]
                    refine wpAnyC_take (i := 12) (oi := ?oir46u13) (v := ?vr46u13) [12, 15, 16, 17, 18, 19, 32, 33, 40] ?hir46u13 (by kernel_rfl) (by kernel_rfl) (by kernel_rfl) (by kernel_rfl) ?hQr46u13 (.inl ⟨?hwr46u13, ?hyr46u13⟩) (((((((((hT4.more 4).more 5).more 6).more 7).more 8).more 9).more 10).more 11).resolve_left (by decide)) ?_
                    case hir46u13 => (simp only [List.getElem?_toArray, List.getElem?_cons_succ, List.getElem?_cons_zero]; rfl)
                    case hQr46u13 => exact fun _ _ _ h => h
                    case hwr46u13 => rfl
                    case hyr46u13 => (intro w hSw; (have t5 := (hSw.at_ HOX.out (by simp)).cell 5; have z0 := (hSw.at_ HXB.out (by simp)).cell 0; have z1 := (hSw.at_ HXB.out (by simp)).cell 1; have z2 := (hSw.at_ HXB.out (by simp)).cell 2; have z3 := (hSw.at_ HXB.out (by simp)).cell 3; obtain ⟨y0, y1, y2, y3⟩ := HCN.out w hSw; simp at t5 z0 z1 z2 z3); go_simp <;> with_reducible rfl)
                    try simp only [Act.put, List.setIfInBounds_toArray, List.set_cons_zero, List.set_cons_succ]
                    refine wpAnyC_take0 (i := 13) (oi := ?oir46u14) (v := ?vr46u14) ?hir46u14 (by kernel_rfl) (by kernel_rfl) (by kernel_rfl) (by kernel_rfl) ?hQr46u14 ?hwr46u14 ?hyr46u14 (((((((((hT4.more 4).more 5).more 6).more 7).more 8).more 9).more 10).more 11).more 12) ?_
                    case hir46u14 => (simp only [List.getElem?_toArray, List.getElem?_cons_succ, List.getElem?_cons_zero]; rfl)
                    case hQr46u14 => exact fun _ _ _ h => h
                    case hwr46u14 => rfl
                    case hyr46u14 => (intro w; go_simp <;> with_reducible rfl)
                    try simp only [Act.put, List.setIfInBounds_toArray, List.set_cons_zero, List.set_cons_succ]
                    refine wpAnyC_take0 (i := 14) (oi := ?oir46u15) (v := ?vr46u15) ?hir46u15 (by kernel_rfl) (by kernel_rfl) (by kernel_rfl) (by kernel_rfl) ?hQr46u15 ?hwr46u15 ?hyr46u15 ((((((((((hT4.more 4).more 5).more 6).more 7).more 8).more 9).more 10).more 11).more 12).more 13) ?_
                    case hir46u15 => (simp only [List.getElem?_toArray, List.getElem?_cons_succ, List.getElem?_cons_zero]; rfl)
                    case hQr46u15 => exact fun _ _ _ h => h
                    case hwr46u15 => rfl
                    case hyr46u15 => (intro w; go_simp <;> with_reducible rfl)
                    try simp only [Act.put, List.setIfInBounds_toArray, List.set_cons_zero, List.set_cons_succ]
                    refine wpAnyC_take0 (i := 15) (oi := ?oir46u16) (v := ?vr46u16) ?hir46u16 (by kernel_rfl) (by kernel_rfl) (by kernel_rfl) (by kernel_rfl) ?hQr46u16 ?hwr46u16 ?hyr46u16 (((((((((((hT4.more 4).more 5).more 6).more 7).more 8).more 9).more 10).more 11).more 12).more 13).more 14) ?_
                    case hir46u16 => (simp only [List.getElem?_toArray, List.getElem?_cons_succ, List.getElem?_cons_zero]; rfl)
                    case hQr46u16 => exact fun _ _ _ h => h
                    case hwr46u16 => rfl
                    case hyr46u16 => (intro w; go_simp <;> with_reducible rfl)
                    try simp only [Act.put, List.setIfInBounds_toArray, List.set_cons_zero, List.set_cons_succ]
                    refine wpAnyC_take0 (i := 16) (oi := ?oir46u17) (v := ?vr46u17) ?hir46u17 (by kernel_rfl) (by kernel_rfl) (by kernel_rfl) (by kernel_rfl) ?hQr46u17 ?hwr46u17 ?hyr46u17 ((((((((((((hT4.more 4).more 5).more 6).more 7).more 8).more 9).more 10).more 11).more 12).more 13).more 14).more 15) ?_
                    case hir46u17 => (simp only [List.getElem?_toArray, List.getElem?_cons_succ, List.getElem?_cons_zero]; rfl)
                    case hQr46u17 => exact fun _ _ _ h => h
                    case hwr46u17 => rfl
                    case hyr46u17 => (intro w; go_simp <;> with_reducible rfl)
                    try simp only [Act.put, List.setIfInBounds_toArray, List.set_cons_zero, List.set_cons_succ]
                    refine wpAnyC_take0 (i := 17) (oi := ?oir46u18) (v := ?vr46u18) ?hir46u18 (by kernel_rfl) (by kernel_rfl) (by kernel_rfl) (by kernel_rfl) ?hQr46u18 ?hwr46u18 ?hyr46u18 (((((((((((((hT4.more 4).more 5).more 6).more 7).more 8).more 9).more 10).more 11).more 12).more 13).more 14).more 15).more 16) ?_
                    case hir46u18 => (simp only [List.getElem?_toArray, List.getElem?_cons_succ, List.getElem?_cons_zero]; rfl)
                    case hQr46u18 => exact fun _ _ _ h => h
                    case hwr46u18 => rfl
                    case hyr46u18 => (intro w; go_simp <;> with_reducible rfl)
                    try simp only [Act.put, List.setIfInBounds_toArray, List.set_cons_zero, List.set_cons_succ]
                    refine wpAnyC_take0 (i := 18) (oi := ?oir46u19) (v := ?vr46u19) ?hir46u19 (by kernel_rfl) (by kernel_rfl) (by kernel_rfl) (by kernel_rfl) ?hQr46u19 ?hwr46u19 ?hyr46u19 ((((((((((((((hT4.more 4).more 5).more 6).more 7).more 8).more 9).more 10).more 11).more 12).more 13).more 14).more 15).more 16).more 17) ?_
                    case hir46u19 => (simp only [List.getElem?_toArray, List.getElem?_cons_succ, List.getElem?_cons_zero]; rfl)
                    case hQr46u19 => exact fun _ _ _ h => h
                    case hwr46u19 => rfl
                    case hyr46u19 => (intro w; go_simp <;> with_reducible rfl)
                    try simp only [Act.put, List.setIfInBounds_toArray, List.set_cons_zero, List.set_cons_succ]
                    refine wpAnyC_take0 (i := 19) (oi := ?oir46u20) (v := ?vr46u20) ?hir46u20 (by kernel_rfl) (by kernel_rfl) (by kernel_rfl) (by kernel_rfl) ?hQr46u20 ?hwr46u20 ?hyr46u20 (((((((((((((((hT4.more 4).more 5).more 6).more 7).more 8).more 9).more 10).more 11).more 12).more 13).more 14).more 15).more 16).more 17).more 18) ?_
                    case hir46u20 => (simp only [List.getElem?_toArray, List.getElem?_cons_succ, List.getElem?_cons_zero]; rfl)
                    case hQr46u20 => exact fun _ _ _ h => h
                    case hwr46u20 => rfl
                    case hyr46u20 => (intro w; go_simp <;> with_reducible rfl)
                    try simp only [Act.put, List.setIfInBounds_toArray, List.set_cons_zero, List.set_cons_succ]
                    refine wpAnyC_take0 (i := 20) (oi := ?oir46u21) (v := ?vr46u21) ?hir46u21 (by kernel_rfl) (by kernel_rfl) (by kernel_rfl) (by kernel_rfl) ?hQr46u21 ?hwr46u21 ?hyr46u21 ((((((((((((((((hT4.more 4).more 5).more 6).more 7).more 8).more 9).more 10).more 11).more 12).more 13).more 14).more 15).more 16).more 17).more 18).more 19) ?_
                    case hir46u21 => (simp only [List.getElem?_toArray, List.getElem?_cons_succ, List.getElem?_cons_zero]; rfl)
                    case hQr46u21 => exact fun _ _ _ h => h
                    case hwr46u21 => rfl
                    case hyr46u21 => (intro w; go_simp <;> with_reducible rfl)
                    try simp only [Act.put, List.setIfInBounds_toArray, List.set_cons_zero, List.set_cons_succ]
                    refine wpAnyC_take0 (i := 21) (oi := ?oir46u22) (v := ?vr46u22) ?hir46u22 (by kernel_rfl) (by kernel_rfl) (by kernel_rfl) (by kernel_rfl) ?hQr46u22 ?hwr46u22 ?hyr46u22 (((((((((((((((((hT4.more 4).more 5).more 6).more 7).more 8).more 9).more 10).more 11).more 12).more 13).more 14).more 15).more 16).more 17).more 18).more 19).more 20) ?_
                    case hir46u22 => (simp only [List.getElem?_toArray, List.getElem?_cons_succ, List.getElem?_cons_zero]; rfl)
                    case hQr46u22 => exact fun _ _ _ h => h
                    case hwr46u22 => rfl
                    case hyr46u22 => (intro w; go_simp <;> with_reducible rfl)
                    try simp only [Act.put, List.setIfInBounds_toArray, List.set_cons_zero, List.set_cons_succ]
                    refine wpAnyC_take (i := 22) (oi := ?oir46u23) (v := ?vr46u23) [22, 29, 33, 40] ?hir46u23 (by kernel_rfl) (by kernel_rfl) (by kernel_rfl) (by kernel_rfl) ?hQr46u23 (.inl ⟨?hwr46u23, ?hyr46u23⟩) (((((((((((((((((((hT4.more 4).more 5).more 6).more 7).more 8).more 9).more 10).more 11).more 12).more 13).more 14).more 15).more 16).more 17).more 18).more 19).more 20).more 21).resolve_left (by decide)) ?_
                    case hir46u23 => (simp only [List.getElem?_toArray, List.getElem?_cons_succ, List.getElem?_cons_zero]; rfl)
                    case hQr46u23 => exact fun _ _ _ h => h
                    case hwr46u23 => rfl
                    case hyr46u23 => (intro w hSw; (have t5 := (hSw.at_ HOX.out (by simp)).cell 5; have z0 := (hSw.at_ HXB.out (by simp)).cell 0; have z1 := (hSw.at_ HXB.out (by simp)).cell 1; have z2 := (hSw.at_ HXB.out (by simp)).cell 2; have z3 := (hSw.at_ HXB.out (by simp)).cell 3; obtain ⟨y0, y1, y2, y3⟩ := HCN.out w hSw; simp at t5 z0 z1 z2 z3); go_simp <;> with_reducible rfl)
                    try simp only [Act.put, List.setIfInBounds_toArray, List.set_cons_zero, List.set_cons_succ]
                    refine wpAnyC_take0 (i := 23) (oi := ?oir46u24) (v := ?vr46u24) ?hir46u24 (by kernel_rfl) (by kernel_rfl) (by kernel_rfl) (by kernel_rfl) ?hQr46u24 ?hwr46u24 ?hyr46u24 (((((((((((((((((((hT4.more 4).more 5).more 6).more 7).more 8).more 9).more 10).more 11).more 12).more 13).more 14).more 15).more 16).more 17).more 18).more 19).more 20).more 21).more 22) ?_
                    case hir46u24 => (simp only [List.getElem?_toArray, List.getElem?_cons_succ, List.getElem?_cons_zero]; rfl)
                    case hQr46u24 => exact fun _ _ _ h => h
                    case hwr46u24 => rfl
                    case hyr46u24 => (intro w; go_simp <;> with_reducible rfl)
                    try simp only [Act.put, List.setIfInBounds_toArray, List.set_cons_zero, List.set_cons_succ]
                    refine wpAnyC_take0 (i := 24) (oi := ?oir46u25) (v := ?vr46u25) ?hir46u25 (by kernel_rfl) (by kernel_rfl) (by kernel_rfl) (by kernel_rfl) ?hQr46u25 ?hwr46u25 ?hyr46u25 ((((((((((((((((((((hT4.more 4).more 5).more 6).more 7).more 8).more 9).more 10).more 11).more 12).more 13).more 14).more 15).more 16).more 17).more 18).more 19).more 20).more 21).more 22).more 23) ?_
                    case hir46u25 => (simp only [List.getElem?_toArray, List.getElem?_cons_succ, List.getElem?_cons_zero]; rfl)
                    case hQr46u25 => exact fun _ _ _ h => h
                    case hwr46u25 => rfl
                    case hyr46u25 => (intro w; go_simp <;> with_reducible rfl)
                    try simp only [Act.put, List.setIfInBounds_toArray, List.set_cons_zero, List.set_cons_succ]
                    refine wpAnyC_take (i := 25) (oi := ?oir46u26) (v := ?vr46u26) [25, 26, 27, 28, 29, 33, 40] ?hir46u26 (by kernel_rfl) (by kernel_rfl) (by kernel_rfl) (by kernel_rfl) ?hQr46u26 (.inl ⟨?hwr46u26, ?hyr46u26⟩) ((((((((((((((((((((((hT4.more 4).more 5).more 6).more 7).more 8).more 9).more 10).more 11).more 12).more 13).more 14).more 15).more 16).more 17).more 18).more 19).more 20).more 21).more 22).more 23).more 24).resolve_left (by decide)) ?_
                    case hir46u26 => (simp only [List.getElem?_toArray, List.getElem?_cons_succ, List.getElem?_cons_zero]; rfl)
                    case hQr46u26 => exact fun _ _ _ h => h
                    case hwr46u26 => rfl
                    case hyr46u26 => (intro w hSw; (have t5 := (hSw.at_ HOX.out (by simp)).cell 5; have z0 := (hSw.at_ HXB.out (by simp)).cell 0; have z1 := (hSw.at_ HXB.out (by simp)).cell 1; have z2 := (hSw.at_ HXB.out (by simp)).cell 2; have z3 := (hSw.at_ HXB.out (by simp)).cell 3; obtain ⟨y0, y1, y2, y3⟩ := HCN.out w hSw; simp at t5 z0 z1 z2 z3); go_simp <;> with_reducible rfl)
                    try simp only [Act.put, List.setIfInBounds_toArray, List.set_cons_zero, List.set_cons_succ]
                    refine wpAnyC_take0 (i := 26) (oi := ?oir46u27) (v := ?vr46u27) ?hir46u27 (by kernel_rfl) (by kernel_rfl) (by kernel_rfl) (by kernel_rfl) ?hQr46u27 ?hwr46u27 ?hyr46u27 ((((((((((((((((((((((hT4.more 4).more 5).more 6).more 7).more 8).more 9).more 10).more 11).more 12).more 13).more 14).more 15).more 16).more 17).more 18).more 19).more 20).more 21).more 22).more 23).more 24).more 25) ?_
                    case hir46u27 => (simp only [List.getElem?_toArray, List.getElem?_cons_succ, List.getElem?_cons_zero]; rfl)
                    case hQr46u27 => exact fun _ _ _ h => h
                    case hwr46u27 => rfl
                    case hyr46u27 => (intro w; go_simp <;> with_reducible rfl)
                    try simp only [Act.put, List.setIfInBounds_toArray, List.set_cons_zero, List.set_cons_succ]
                    refine wpAnyC_take0 (i := 27) (oi := ?oir46u28) (v := ?vr46u28) ?hir46u28 (by kernel_rfl) (by kernel_rfl) (by kernel_rfl) (by kernel_rfl) ?hQr46u28 ?hwr46u28 ?hyr46u28 (((((((((((((((((((((((hT4.more 4).more 5).more 6).more 7).more 8).more 9).more 10).more 11).more 12).more 13).more 14).more 15).more 16).more 17).more 18).more 19).more 20).more 21).more 22).more 23).more 24).more 25).more 26) ?_
                    case hir46u28 => (simp only [List.getElem?_toArray, List.getElem?_cons_succ, List.getElem?_cons_zero]; rfl)
                    case hQr46u28 => exact fun _ _ _ h => h
                    case hwr46u28 => rfl
                    case hyr46u28 => (intro w; go_simp <;> with_reducible rfl)
                    try simp only [Act.put, List.setIfInBounds_toArray, List.set_cons_zero, List.set_cons_succ]
                    refine wpAnyC_take (i := 28) (oi := ?oir46u29) (v := ?vr46u29) [28, 29, 33, 40] ?hir46u29 (by kernel_rfl) (by kernel_rfl) (by kernel_rfl) (by kernel_rfl) ?hQr46u29 (.inl ⟨?hwr46u29, ?hyr46u29⟩) (((((((((((((((((((((((((hT4.more 4).more 5).more 6).more 7).more 8).more 9).more 10).more 11).more 12).more 13).more 14).more 15).more 16).more 17).more 18).more 19).more 20).more 21).more 22).more 23).more 24).more 25).more 26).more 27).resolve_left (by decide)) ?_
                    case hir46u29 => (simp only [List.getElem?_toArray, List.getElem?_cons_succ, List.getElem?_cons_zero]; rfl)
                    case hQr46u29 => exact fun _ _ _ h => h
                    case hwr46u29 => rfl
                    case hyr46u29 => (intro w hSw; (have t5 := (hSw.at_ HOX.out (by simp)).cell 5; have z0 := (hSw.at_ HXB.out (by simp)).cell 0; have z1 := (hSw.at_ HXB.out (by simp)).cell 1; have z2 := (hSw.at_ HXB.out (by simp)).cell 2; have z3 := (hSw.at_ HXB.out (by simp)).cell 3; obtain ⟨y0, y1, y2, y3⟩ := HCN.out w hSw; simp at t5 z0 z1 z2 z3); go_simp <;> with_reducible rfl)
                    try simp only [Act.put, List.setIfInBounds_toArray, List.set_cons_zero, List.set_cons_succ]
                    have hSx := (((((((((((((((((((((((((hT4.more 4).more 5).more 6).more 7).more 8).more 9).more 10).more 11).more 12).more 13).more 14).more 15).more 16).more 17).more 18).more 19).more 20).more 21).more 22).more 23).more 24).more 25).more 26).more 27).more 28).resolve_left (by decide)
                    refine wpAnyC_ready (rs := [29]) (by kernel_rfl) (by simp) ?_
                    refine ReadyC.cons (o := ?or46u30) ?hor46u30 ?hstepr46u30 ?_
                    case hor46u30 => (simp only [List.getElem?_toArray, List.getElem?_cons_succ, List.getElem?_cons_zero]; rfl)
                    case hstepr46u30 =>
                      intro K hK
                      (go_simp; refine (same_is _ ⟨l3, C3, n3, c3, s3, f3, x3⟩ ⟨l3, C4, n4, c4, s3, f3, x3⟩ (HCX.out.keep hSx) (HN4.out.keep hSx) rfl rfl rfl rfl).mono ?_; rintro e w4 ⟨rfl, hf4⟩; dsimp only)
                      refine hK.out _ _ (.inr ?_) (fun hHeld => ?_)
                      · first | exact hSx.then_ hf5 | exact hSx.then_ hf4 | exact hSx
                      have hT30 := hHeld
                      clear hHeld
                      clear hK K
                      try simp only [Act.put, List.setIfInBounds_toArray, List.set_cons_zero, List.set_cons_succ]
                      refine wpAnyC_take0 (i := 30) (oi := ?oir46u31) (v := ?vr46u31) ?hir46u31 (by kernel_rfl) (by kernel_rfl) (by kernel_rfl) (by kernel_rfl) ?hQr46u31 ?hwr46u31 ?hyr46u31 hT30 ?_
                      case hir46u31 => (simp only [List.getElem?_toArray, List.getElem?_cons_succ, List.getElem?_cons_zero]; rfl)
                      case hQr46u31 => exact fun _ _ _ h => h
                      case hwr46u31 => rfl
                      case hyr46u31 => (intro w; go_simp <;> with_reducible rfl)
                      try simp only [Act.put, List.setIfInBounds_toArray, List.set_cons_zero, List.set_cons_succ]
                      refine wpAnyC_take0 (i := 31) (oi := ?oir46u32) (v := ?vr46u32) ?hir46u32 (by kernel_rfl) (by kernel_rfl) (by kernel_rfl) (by kernel_rfl) ?hQr46u32 ?hwr46u32 ?hyr46u32 (hT30.more 30) ?_
                      case hir46u32 => (simp only [List.getElem?_toArray, List.getElem?_cons_succ, List.getElem?_cons_zero]; rfl)
                      case hQr46u32 => exact fun _ _ _ h => h
                      case hwr46u32 => rfl
                      case hyr46u32 => (intro w; go_simp <;> with_reducible rfl)
                      try simp only [Act.put, List.setIfInBounds_toArray, List.set_cons_zero, List.set_cons_succ]
                      refine wpAnyC_take0 (i := 32) (oi := ?oir46u33) (v := ?vr46u33) ?hir46u33 (by kernel_rfl) (by kernel_rfl) (by kernel_rfl) (by kernel_rfl) ?hQr46u33 ?hwr46u33 ?hyr46u33 ((hT30.more 30).more 31) ?_
                      case hir46u33 => (simp only [List.getElem?_toArray, List.getElem?_cons_succ, List.getElem?_cons_zero]; rfl)
                      case hQr46u33 => exact fun _ _ _ h => h
                      case hwr46u33 => rfl
                      case hyr46u33 => (intro w; go_simp <;> with_reducible rfl)
                      try simp only [Act.put, List.setIfInBounds_toArray, List.set_cons_zero, List.set_cons_succ]
                      refine wpAnyC_take0 (i := 33) (oi := ?oir46u34) (v := ?vr46u34) ?hir46u34 (by kernel_rfl) (by kernel_rfl) (by kernel_rfl) (by kernel_rfl) ?hQr46u34 ?hwr46u34 ?hyr46u34 (((hT30.more 30).more 31).more 32) ?_
                      case hir46u34 => (simp only [List.getElem?_toArray, List.getElem?_cons_succ, List.getElem?_cons_zero]; rfl)
                      case hQr46u34 => exact fun _ _ _ h => h
                      case hwr46u34 => rfl
                      case hyr46u34 => (intro w; go_simp <;> with_reducible rfl)
                      try simp only [Act.put, List.setIfInBounds_toArray, List.set_cons_zero, List.set_cons_succ]
                      refine wpAnyC_take0 (i := 34) (oi := ?oir46u35) (v := ?vr46u35) ?hir46u35 (by kernel_rfl) (by kernel_rfl) (by kernel_rfl) (by kernel_rfl) ?hQr46u35 ?hwr46u35 ?hyr46u35 ((((hT30.more 30).more 31).more 32).more 33) ?_
                      case hir46u35 => (simp only [List.getElem?_toArray, List.getElem?_cons_succ, List.getElem?_cons_zero]; rfl)
                      case hQr46u35 => exact fun _ _ _ h => h
                      case hwr46u35 => rfl
                      case hyr46u35 => (intro w; go_simp <;> with_reducible rfl)
                      try simp only [Act.put, List.setIfInBounds_toArray, List.set_cons_zero, List.set_cons_succ]
                      refine wpAnyC_take0 (i := 35) (oi := ?oir46u36) (v := ?vr46u36) ?hir46u36 (by kernel_rfl) (by kernel_rfl) (by kernel_rfl) (by kernel_rfl) ?hQr46u36 ?hwr46u36 ?hyr46u36 (((((hT30.more 30).more 31).more 32).more 33).more 34) ?_
                      case hir46u36 => (simp only [List.getElem?_toArray, List.getElem?_cons_succ, List.getElem?_cons_zero]; rfl)
                      case hQr46u36 => exact fun _ _ _ h => h
                      case hwr46u36 => rfl
                      case hyr46u36 => (intro w; go_simp <;> with_reducible rfl)
                      try simp only [Act.put, List.setIfInBounds_toArray, List.set_cons_zero, List.set_cons_succ]
                      refine wpAnyC_take0 (i := 36) (oi := ?oir46u37) (v := ?vr46u37) ?hir46u37 (by kernel_rfl) (by kernel_rfl) (by kernel_rfl) (by kernel_rfl) ?hQr46u37 ?hwr46u37 ?hyr46u37 ((((((hT30.more 30).more 31).more 32).more 33).more 34).more 35) ?_
                      case hir46u37 => (simp only [List.getElem?_toArray, List.getElem?_cons_succ, List.getElem?_cons_zero]; rfl)
                      case hQr46u37 => exact fun _ _ _ h => h
                      case hwr46u37 => rfl
                      case hyr46u37 => (intro w; go_simp <;> with_reducible rfl)
                      try simp only [Act.put, List.setIfInBounds_toArray, List.set_cons_zero, List.set_cons_succ]
                      refine wpAnyC_take (i := 37) (oi := ?oir46u38) (v := ?vr46u38) [37, 38, 39, 40] ?hir46u38 (by kernel_rfl) (by kernel_rfl) (by kernel_rfl) (by kernel_rfl) ?hQr46u38 (.inl ⟨?hwr46u38, ?hyr46u38⟩) ((((((((hT30.more 30).more 31).more 32).more 33).more 34).more 35).more 36).resolve_left (by decide)) ?_
                      case hir46u38 => (simp only [List.getElem?_toArray, List.getElem?_cons_succ, List.getElem?_cons_zero]; rfl)
                      case hQr46u38 => exact fun _ _ _ h => h
                      case hwr46u38 => rfl
                      case hyr46u38 => (intro w hSw; (have t5 := (hSw.at_ HOX.out (by simp)).cell 5; have z0 := (hSw.at_ HXB.out (by simp)).cell 0; have z1 := (hSw.at_ HXB.out (by simp)).cell 1; have z2 := (hSw.at_ HXB.out (by simp)).cell 2; have z3 := (hSw.at_ HXB.out (by simp)).cell 3; obtain ⟨y0, y1, y2, y3⟩ := HCN.out w hSw; simp at t5 z0 z1 z2 z3); go_simp <;> with_reducible rfl)
                      try simp only [Act.put, List.setIfInBounds_toArray, List.set_cons_zero, List.set_cons_succ]
                      have hSx := ((((((((hT30.more 30).more 31).more 32).more 33).more 34).more 35).more 36).more 37).resolve_left (by decide)
                      refine wpAnyC_ready (rs := [38]) (by kernel_rfl) (by simp) ?_
                      refine ReadyC.cons (o := ?or46u39) ?hor46u39 ?hstepr46u39 ?_
                      case hor46u39 => (simp only [List.getElem?_toArray, List.getElem?_cons_succ, List.getElem?_cons_zero]; rfl)
                      case hstepr46u39 =>
                        intro K hK
                        (go_simp; refine ((HQX.out.keep hSx).chained N'.length rfl HI'.out.sf HI'.out.f (by rw [HLN.out]; omega) id).mono ?_; rintro e w5 ⟨rfl, hf5⟩; dsimp only)
                        refine hK.out _ _ (.inr ?_) (fun hHeld => ?_)
                        · first | exact hSx.then_ hf5 | exact hSx.then_ hf4 | exact hSx
                        have hT39 := hHeld
                        clear hHeld
                        clear hK K
                        try simp only [Act.put, List.setIfInBounds_toArray, List.set_cons_zero, List.set_cons_succ]
                        refine wpAnyC_take0 (i := 39) (oi := ?oir46u40) (v := ?vr46u40) ?hir46u40 (by kernel_rfl) (by kernel_rfl) (by kernel_rfl) (by kernel_rfl) ?hQr46u40 ?hwr46u40 ?hyr46u40 hT39 ?_
                        case hir46u40 => (simp only [List.getElem?_toArray, List.getElem?_cons_succ, List.getElem?_cons_zero]; rfl)
                        case hQr46u40 => exact fun _ _ _ h => h
                        case hwr46u40 => rfl
                        case hyr46u40 => (intro w; go_simp <;> with_reducible rfl)
                        try simp only [Act.put, List.setIfInBounds_toArray, List.set_cons_zero, List.set_cons_succ]
                        have hSx := (hT39.more 39).resolve_left (by decide)
                        refine wpAnyC_ready (rs := [40]) (by kernel_rfl) (by simp) ?_
                        refine ReadyC.cons (o := ?or46u41) ?hor46u41 ?hstepr46u41 ?_
                        case hor46u41 => (simp only [List.getElem?_toArray, List.getElem?_cons_succ, List.getElem?_cons_zero]; rfl)
                        case hstepr46u41 =>
                          intro K hK
                          go_simp
                          refine hK.out _ _ (.inl rfl) (fun hHeld => ?_)
                          have hT41 := hHeld
                          clear hHeld
                          clear hK K
                          try simp only [Act.put, List.setIfInBounds_toArray, List.set_cons_zero, List.set_cons_succ]
                          refine wpAnyC_done (by kernel_rfl) ?_ _
                          refine NoPanic.normal ?_
                          go_wp2_with fail
                          go_meet
                          exact ⟨rfl, hSx⟩
                        exact ReadyC.nil
                      exact ReadyC.nil
                    exact ReadyC.nil
                  exact ReadyC.nil
              case rest =>
                obtain ⟨rfl, hf4⟩ := hcut
                have h12 := HQX.out.keep hf4
                rw [← HFE.out] at h12
                go_wp2_with fail
                go_roundg (gk - 1)
                case measure => have := HK.out; omega
                case rel => exact ⟨k + 1, L', M', W', some ⟨gN, 0, none⟩, c', N', B', d', by have := HK.out; omega, by go_num, by omega, rfl, rfl, HQ1.out.back_ h12, HI'.out⟩
          · as_aux_lemma =>
              have hb : (decide (1 ≤ id) && decide (id ≤ M'.length)) = false := by
                by_cases h1 : 1 ≤ id
                · rw [decide_eq_false (fun h2 => hin ⟨h1, h2⟩), Bool.and_false]
                · rw [decide_eq_false h1, Bool.false_and]
              have HB := Lib.hid hb
              clear hb
              go_wp2_with fail
              refine (HQ'.out.item_none id HB.out).mono ?_
              rintro e w3 ⟨rfl, hf3⟩
              simp only [Im.zero, Im.val]
              go_upto_region 46 with fail
              obtain ⟨X, hX⟩ : ∃ X, X = w3.alloc (.cells #[.int .i64 0, .slice none 0 0, .string ⟨#[]⟩, .int .i64 0] 38) := ⟨_, rfl⟩
              rw [← hX]
              have hfX : Fr [] w3 X := by rw [hX]; exact (Fr.refl [] w3).alloc _
              have hQX := HQ'.out.keep (hf3.then_ hfX)
              have hOX := (hf3.then_ hfX).at_ HO'.out (by simp)
              have HQX := Lib.hid hQX
              have HOX := Lib.hid hOX
              have o5 := hOX.cell 5
              simp at o5
              have HIN := Lib.hid hin
              clear hX hfX hQX hOX hf3 hin
              have nn : ((W'.length : Int) != (W'.length : Int)) = false := by simp
              go_cut [294] (fun st wx => st = .bool false ∧ Fr [] X wx)
              case first =>
                by_cases hi1 : 1 ≤ id
                · have hi3 : ¬ id ≤ N'.length := by rw [HLN.out]; exact fun h => HIN.out ⟨hi1, h⟩
                  as_aux_lemma =>
                    refine wp_region_noPanic ?_
                    refine wp_region_C (fun w' : World => Fr [] X w') 40 (by kernel_rfl) ((Fr.refl [] X).drew) (fun hT0 => ?_)
                    refine wpAnyC_take0 (i := 0) (oi := ?oibr46u1) (v := ?vbr46u1) ?hibr46u1 (by kernel_rfl) (by kernel_rfl) (by kernel_rfl) (by kernel_rfl) ?hQbr46u1 ?hwbr46u1 ?hybr46u1 hT0 ?_
                    case hibr46u1 => (simp only [List.getElem?_toArray, List.getElem?_cons_zero]; rfl)
                    case hQbr46u1 => exact fun _ _ _ h => h
                    case hwbr46u1 => rfl
                    case hybr46u1 => (intro w; go_simp <;> with_reducible rfl)
                    try simp only [Act.put, List.setIfInBounds_toArray, List.set_cons_zero, List.set_cons_succ]
                    refine wpAnyC_take0 (i := 2) (oi := ?oibr46u2) (v := ?vbr46u2) ?hibr46u2 (by kernel_rfl) (by kernel_rfl) (by kernel_rfl) (by kernel_rfl) ?hQbr46u2 ?hwbr46u2 ?hybr46u2 (hT0.more 0) ?_
                    case hibr46u2 => (simp only [List.getElem?_toArray, List.getElem?_cons_succ, List.getElem?_cons_zero]; rfl)
                    case hQbr46u2 => exact fun _ _ _ h => h
                    case hwbr46u2 => rfl
                    case hybr46u2 => (intro w; go_simp <;> with_reducible rfl)
                    try simp only [Act.put, List.setIfInBounds_toArray, List.set_cons_zero, List.set_cons_succ]
                    refine wpAnyC_take0 (i := 3) (oi := ?oibr46u3) (v := ?vbr46u3) ?hibr46u3 (by kernel_rfl) (by kernel_rfl) (by kernel_rfl) (by kernel_rfl) ?hQbr46u3 ?hwbr46u3 ?hybr46u3 ((hT0.more 0).more 2) ?_
                    case hibr46u3 => (simp only [List.getElem?_toArray, List.getElem?_cons_succ, List.getElem?_cons_zero]; rfl)
                    case hQbr46u3 => exact fun _ _ _ h => h
                    case hwbr46u3 => rfl
                    case hybr46u3 => (intro w; go_simp <;> with_reducible rfl)
                    try simp only [Act.put, List.setIfInBounds_toArray, List.set_cons_zero, List.set_cons_succ]
                    have hSx := (((hT0.more 0).more 2).more 3).resolve_left (by decide)
                    refine wpAnyC_ready (rs := [1]) (by kernel_rfl) (by simp) ?_
                    refine ReadyC.cons (o := ?obr46u4) ?hobr46u4 ?hstepbr46u4 ?_
                    case hobr46u4 => (simp only [List.getElem?_toArray, List.getElem?_cons_succ, List.getElem?_cons_zero]; rfl)
                    case hstepbr46u4 =>
                      intro K hK
                      (go_simp; refine ((HQX.out.keep hSx).len W'.length rfl).mono ?_; rintro e w4 ⟨rfl, rfl⟩; dsimp only)
                      refine hK.out _ _ (.inr ?_) (fun hHeld => ?_)
                      · first | exact hSx.then_ hf5 | exact hSx.then_ hf4 | exact hSx
                      have hT4 := hHeld
                      clear hHeld
                      clear hK K
                      try simp only [Act.put, List.setIfInBounds_toArray, List.set_cons_zero, List.set_cons_succ]
                      refine wpAnyC_take0 (i := 4) (oi := ?oibr46u5) (v := ?vbr46u5) ?hibr46u5 (by kernel_rfl) (by kernel_rfl) (by kernel_rfl) (by kernel_rfl) ?hQbr46u5 ?hwbr46u5 ?hybr46u5 hT4 ?_
                      case hibr46u5 => (simp only [List.getElem?_toArray, List.getElem?_cons_succ, List.getElem?_cons_zero]; rfl)
                      case hQbr46u5 => exact fun _ _ _ h => h
                      case hwbr46u5 => rfl
                      case hybr46u5 => (intro w; go_simp <;> with_reducible rfl)
                      try simp only [Act.put, List.setIfInBounds_toArray, List.set_cons_zero, List.set_cons_succ]
                      refine wpAnyC_take0 (i := 5) (oi := ?oibr46u6) (v := ?vbr46u6) ?hibr46u6 (by kernel_rfl) (by kernel_rfl) (by kernel_rfl) (by kernel_rfl) ?hQbr46u6 ?hwbr46u6 ?hybr46u6 (hT4.more 4) ?_
                      case hibr46u6 => (simp only [List.getElem?_toArray, List.getElem?_cons_succ, List.getElem?_cons_zero]; rfl)
                      case hQbr46u6 => exact fun _ _ _ h => h
                      case hwbr46u6 => rfl
                      case hybr46u6 => (intro w; go_simp <;> with_reducible rfl)
                      try simp only [Act.put, List.setIfInBounds_toArray, List.set_cons_zero, List.set_cons_succ]
                      refine wpAnyC_take0 (i := 6) (oi := ?oibr46u7) (v := ?vbr46u7) ?hibr46u7 (by kernel_rfl) (by kernel_rfl) (by kernel_rfl) (by kernel_rfl) ?hQbr46u7 ?hwbr46u7 ?hybr46u7 ((hT4.more 4).more 5) ?_
                      case hibr46u7 => (simp only [List.getElem?_toArray, List.getElem?_cons_succ, List.getElem?_cons_zero]; rfl)
                      case hQbr46u7 => exact fun _ _ _ h => h
                      case hwbr46u7 => rfl
                      case hybr46u7 => (intro w; go_simp <;> with_reducible rfl)
                      try simp only [Act.put, List.setIfInBounds_toArray, List.set_cons_zero, List.set_cons_succ]
                      refine wpAnyC_take0 (i := 7) (oi := ?oibr46u8) (v := ?vbr46u8) ?hibr46u8 (by kernel_rfl) (by kernel_rfl) (by kernel_rfl) (by kernel_rfl) ?hQbr46u8 ?hwbr46u8 ?hybr46u8 (((hT4.more 4).more 5).more 6) ?_
                      case hibr46u8 => (simp only [List.getElem?_toArray, List.getElem?_cons_succ, List.getElem?_cons_zero]; rfl)
                      case hQbr46u8 => exact fun _ _ _ h => h
                      case hwbr46u8 => rfl
                      case hybr46u8 => (intro w; go_simp <;> with_reducible rfl)
                      try simp only [Act.put, List.setIfInBounds_toArray, List.set_cons_zero, List.set_cons_succ]
                      refine wpAnyC_take (i := 8) (oi := ?oibr46u9) (v := ?vbr46u9) [8, 9, 10, 19, 32, 33, 40] ?hibr46u9 (by kernel_rfl) (by kernel_rfl) (by kernel_rfl) (by kernel_rfl) ?hQbr46u9 (.inl ⟨?hwbr46u9, ?hybr46u9⟩) (((((hT4.more 4).more 5).more 6).more 7).resolve_left (by decide)) ?_
                      case hibr46u9 => (simp only [List.getElem?_toArray, List.getElem?_cons_succ, List.getElem?_cons_zero]; rfl)
                      case hQbr46u9 => exact fun _ _ _ h => h
                      case hwbr46u9 => rfl
                      case hybr46u9 => (intro w hSw; (have t5 := (hSw.at_ HOX.out (by simp)).cell 5; simp at t5); go_simp <;> with_reducible rfl)
                      try simp only [Act.put, List.setIfInBounds_toArray, List.set_cons_zero, List.set_cons_succ]
                      refine wpAnyC_take0 (i := 9) (oi := ?oibr46u10) (v := ?vbr46u10) ?hibr46u10 (by kernel_rfl) (by kernel_rfl) (by kernel_rfl) (by kernel_rfl) ?hQbr46u10 ?hwbr46u10 ?hybr46u10 (((((hT4.more 4).more 5).more 6).more 7).more 8) ?_
                      case hibr46u10 => (simp only [List.getElem?_toArray, List.getElem?_cons_succ, List.getElem?_cons_zero]; rfl)
                      case hQbr46u10 => exact fun _ _ _ h => h
                      case hwbr46u10 => rfl
                      case hybr46u10 => (intro w; go_simp <;> with_reducible rfl)
                      try simp only [Act.put, List.setIfInBounds_toArray, List.set_cons_zero, List.set_cons_succ]
                      refine wpAnyC_take0 (i := 10) (oi := ?oibr46u11) (v := ?vbr46u11) ?hibr46u11 (by kernel_rfl) (by kernel_rfl) (by kernel_rfl) (by kernel_rfl) ?hQbr46u11 ?hwbr46u11 ?hybr46u11 ((((((hT4.more 4).more 5).more 6).more 7).more 8).more 9) ?_
                      case hibr46u11 => (simp only [List.getElem?_toArray, List.getElem?_cons_succ, List.getElem?_cons_zero]; rfl)
                      case hQbr46u11 => exact fun _ _ _ h => h
                      case hwbr46u11 => rfl
                      case hybr46u11 => (intro w; go_simp <;> with_reducible rfl)
                      try simp only [Act.put, List.setIfInBounds_toArray, List.set_cons_zero, List.set_cons_succ]
                      refine wpAnyC_take0 (i := 11) (oi := ?oibr46u12) (v := ?vbr46u12) ?hibr46u12 (by kernel_rfl) (by kernel_rfl) (by kernel_rfl) (by kernel_rfl) ?hQbr46u12 ?hwbr46u12 ?hybr46u12 (((((((hT4.more 4).more 5).more 6).more 7).more 8).more 9).more 10) ?_
                      case hibr46u12 => (simp only [List.getElem?_toArray, List.getElem?_cons_succ, List.getElem?_cons_zero]; rfl)
                      case hQbr46u12 => exact fun _ _ _ h => h
                      case hwbr46u12 => rfl
                      case hybr46u12 => (intro w; go_simp <;> with_reducible rfl)
                      try simp only [Act.put, List.setIfInBounds_toArray, List.set_cons_zero, List.set_cons_succ]
                      refine wpAnyC_take (i := 12) (oi := ?oibr46u13) (v := ?vbr46u13) [12, 15, 16, 17, 18, 19, 32, 33, 40] ?hibr46u13 (by kernel_rfl) (by kernel_rfl) (by kernel_rfl) (by kernel_rfl) ?hQbr46u13 (.inl ⟨?hwbr46u13, ?hybr46u13⟩) (((((((((hT4.more 4).more 5).more 6).more 7).more 8).more 9).more 10).more 11).resolve_left (by decide)) ?_
                      case hibr46u13 => (simp only [List.getElem?_toArray, List.getElem?_cons_succ, List.getElem?_cons_zero]; rfl)
                      case hQbr46u13 => exact fun _ _ _ h => h
                      case hwbr46u13 => rfl
                      case hybr46u13 => (intro w hSw; (have t5 := (hSw.at_ HOX.out (by simp)).cell 5; simp at t5); go_simp <;> with_reducible rfl)
                      try simp only [Act.put, List.setIfInBounds_toArray, List.set_cons_zero, List.set_cons_succ]
                      refine wpAnyC_take0 (i := 13) (oi := ?oibr46u14) (v := ?vbr46u14) ?hibr46u14 (by kernel_rfl) (by kernel_rfl) (by kernel_rfl) (by kernel_rfl) ?hQbr46u14 ?hwbr46u14 ?hybr46u14 (((((((((hT4.more 4).more 5).more 6).more 7).more 8).more 9).more 10).more 11).more 12) ?_
                      case hibr46u14 => (simp only [List.getElem?_toArray, List.getElem?_cons_succ, List.getElem?_cons_zero]; rfl)
                      case hQbr46u14 => exact fun _ _ _ h => h
                      case hwbr46u14 => rfl
                      case hybr46u14 => (intro w; go_simp <;> with_reducible rfl)
                      try simp only [Act.put, List.setIfInBounds_toArray, List.set_cons_zero, List.set_cons_succ]
                      refine wpAnyC_take0 (i := 14) (oi := ?oibr46u15) (v := ?vbr46u15) ?hibr46u15 (by kernel_rfl) (by kernel_rfl) (by kernel_rfl) (by kernel_rfl) ?hQbr46u15 ?hwbr46u15 ?hybr46u15 ((((((((((hT4.more 4).more 5).more 6).more 7).more 8).more 9).more 10).more 11).more 12).more 13) ?_
                      case hibr46u15 => (simp only [List.getElem?_toArray, List.getElem?_cons_succ, List.getElem?_cons_zero]; rfl)
                      case hQbr46u15 => exact fun _ _ _ h => h
                      case hwbr46u15 => rfl
                      case hybr46u15 => (intro w; go_simp <;> with_reducible rfl)
                      try simp only [Act.put, List.setIfInBounds_toArray, List.set_cons_zero, List.set_cons_succ]
                      refine wpAnyC_take0 (i := 15) (oi := ?oibr46u16) (v := ?vbr46u16) ?hibr46u16 (by kernel_rfl) (by kernel_rfl) (by kernel_rfl) (by kernel_rfl) ?hQbr46u16 ?hwbr46u16 ?hybr46u16 (((((((((((hT4.more 4).more 5).more 6).more 7).more 8).more 9).more 10).more 11).more 12).more 13).more 14) ?_
                      case hibr46u16 => (simp only [List.getElem?_toArray, List.getElem?_cons_succ, List.getElem?_cons_zero]; rfl)
                      case hQbr46u16 => exact fun _ _ _ h => h
                      case hwbr46u16 => rfl
                      case hybr46u16 => (intro w; go_simp <;> with_reducible rfl)
                      try simp only [Act.put, List.setIfInBounds_toArray, List.set_cons_zero, List.set_cons_succ]
                      refine wpAnyC_take0 (i := 16) (oi := ?oibr46u17) (v := ?vbr46u17) ?hibr46u17 (by kernel_rfl) (by kernel_rfl) (by kernel_rfl) (by kernel_rfl) ?hQbr46u17 ?hwbr46u17 ?hybr46u17 ((((((((((((hT4.more 4).more 5).more 6).more 7).more 8).more 9).more 10).more 11).more 12).more 13).more 14).more 15) ?_
                      case hibr46u17 => (simp only [List.getElem?_toArray, List.getElem?_cons_succ, List.getElem?_cons_zero]; rfl)
                      case hQbr46u17 => exact fun _ _ _ h => h
                      case hwbr46u17 => rfl
                      case hybr46u17 => (intro w; go_simp <;> with_reducible rfl)
                      try simp only [Act.put, List.setIfInBounds_toArray, List.set_cons_zero, List.set_cons_succ]
                      refine wpAnyC_take0 (i := 17) (oi := ?oibr46u18) (v := ?vbr46u18) ?hibr46u18 (by kernel_rfl) (by kernel_rfl) (by kernel_rfl) (by kernel_rfl) ?hQbr46u18 ?hwbr46u18 ?hybr46u18 (((((((((((((hT4.more 4).more 5).more 6).more 7).more 8).more 9).more 10).more 11).more 12).more 13).more 14).more 15).more 16) ?_
                      case hibr46u18 => (simp only [List.getElem?_toArray, List.getElem?_cons_succ, List.getElem?_cons_zero]; rfl)
                      case hQbr46u18 => exact fun _ _ _ h => h
                      case hwbr46u18 => rfl
                      case hybr46u18 => (intro w; go_simp <;> with_reducible rfl)
                      try simp only [Act.put, List.setIfInBounds_toArray, List.set_cons_zero, List.set_cons_succ]
                      refine wpAnyC_take0 (i := 18) (oi := ?oibr46u19) (v := ?vbr46u19) ?hibr46u19 (by kernel_rfl) (by kernel_rfl) (by kernel_rfl) (by kernel_rfl) ?hQbr46u19 ?hwbr46u19 ?hybr46u19 ((((((((((((((hT4.more 4).more 5).more 6).more 7).more 8).more 9).more 10).more 11).more 12).more 13).more 14).more 15).more 16).more 17) ?_
                      case hibr46u19 => (simp only [List.getElem?_toArray, List.getElem?_cons_succ, List.getElem?_cons_zero]; rfl)
                      case hQbr46u19 => exact fun _ _ _ h => h
                      case hwbr46u19 => rfl
                      case hybr46u19 => (intro w; go_simp <;> with_reducible rfl)
                      try simp only [Act.put, List.setIfInBounds_toArray, List.set_cons_zero, List.set_cons_succ]
                      refine wpAnyC_take0 (i := 19) (oi := ?oibr46u20) (v := ?vbr46u20) ?hibr46u20 (by kernel_rfl) (by kernel_rfl) (by kernel_rfl) (by kernel_rfl) ?hQbr46u20 ?hwbr46u20 ?hybr46u20 (((((((((((((((hT4.more 4).more 5).more 6).more 7).more 8).more 9).more 10).more 11).more 12).more 13).more 14).more 15).more 16).more 17).more 18) ?_
                      case hibr46u20 => (simp only [List.getElem?_toArray, List.getElem?_cons_succ, List.getElem?_cons_zero]; rfl)
                      case hQbr46u20 => exact fun _ _ _ h => h
                      case hwbr46u20 => rfl
                      case hybr46u20 => (intro w; go_simp <;> with_reducible rfl)
                      try simp only [Act.put, List.setIfInBounds_toArray, List.set_cons_zero, List.set_cons_succ]
                      refine wpAnyC_take0 (i := 20) (oi := ?oibr46u21) (v := ?vbr46u21) ?hibr46u21 (by kernel_rfl) (by kernel_rfl) (by kernel_rfl) (by kernel_rfl) ?hQbr46u21 ?hwbr46u21 ?hybr46u21 ((((((((((((((((hT4.more 4).more 5).more 6).more 7).more 8).more 9).more 10).more 11).more 12).more 13).more 14).more 15).more 16).more 17).more 18).more 19) ?_
                      case hibr46u21 => (simp only [List.getElem?_toArray, List.getElem?_cons_succ, List.getElem?_cons_zero]; rfl)
                      case hQbr46u21 => exact fun _ _ _ h => h
                      case hwbr46u21 => rfl
                      case hybr46u21 => (intro w; go_simp <;> with_reducible rfl)
                      try simp only [Act.put, List.setIfInBounds_toArray, List.set_cons_zero, List.set_cons_succ]
                      refine wpAnyC_take0 (i := 21) (oi := ?oibr46u22) (v := ?vbr46u22) ?hibr46u22 (by kernel_rfl) (by kernel_rfl) (by kernel_rfl) (by kernel_rfl) ?hQbr46u22 ?hwbr46u22 ?hybr46u22 (((((((((((((((((hT4.more 4).more 5).more 6).more 7).more 8).more 9).more 10).more 11).more 12).more 13).more 14).more 15).more 16).more 17).more 18).more 19).more 20) ?_
                      case hibr46u22 => (simp only [List.getElem?_toArray, List.getElem?_cons_succ, List.getElem?_cons_zero]; rfl)
                      case hQbr46u22 => exact fun _ _ _ h => h
                      case hwbr46u22 => rfl
                      case hybr46u22 => (intro w; go_simp <;> with_reducible rfl)
                      try simp only [Act.put, List.setIfInBounds_toArray, List.set_cons_zero, List.set_cons_succ]
                      refine wpAnyC_take (i := 22) (oi := ?oibr46u23) (v := undef) [22, 29, 33, 40] ?hibr46u23 (by kernel_rfl) (by kernel_rfl) (by kernel_rfl) (by kernel_rfl) ?hQbr46u23 (.inr ⟨?hwbr46u23, rfl⟩) (((((((((((((((((((hT4.more 4).more 5).more 6).more 7).more 8).more 9).more 10).more 11).more 12).more 13).more 14).more 15).more 16).more 17).more 18).more 19).more 20).more 21).resolve_left (by decide)) ?_
                      case hibr46u23 => (simp only [List.getElem?_toArray, List.getElem?_cons_succ, List.getElem?_cons_zero]; rfl)
                      case hQbr46u23 => exact fun _ _ _ h => h
                      case hwbr46u23 => rfl
                      try simp only [Act.put, List.setIfInBounds_toArray, List.set_cons_zero, List.set_cons_succ]
                      refine wpAnyC_take (i := 23) (oi := ?oibr46u24) (v := undef) [23, 27, 28, 29, 33, 40] ?hibr46u24 (by kernel_rfl) (by kernel_rfl) (by kernel_rfl) (by kernel_rfl) ?hQbr46u24 (.inr ⟨?hwbr46u24, rfl⟩) ((((((((((((((((((((hT4.more 4).more 5).more 6).more 7).more 8).more 9).more 10).more 11).more 12).more 13).more 14).more 15).more 16).more 17).more 18).more 19).more 20).more 21).more 22).resolve_left (by decide)) ?_
                      case hibr46u24 => (simp only [List.getElem?_toArray, List.getElem?_cons_succ, List.getElem?_cons_zero]; rfl)
                      case hQbr46u24 => exact fun _ _ _ h => h
                      case hwbr46u24 => rfl
                      try simp only [Act.put, List.setIfInBounds_toArray, List.set_cons_zero, List.set_cons_succ]
                      refine wpAnyC_take (i := 24) (oi := ?oibr46u25) (v := undef) [24, 25, 26, 27, 28, 29, 33, 40] ?hibr46u25 (by kernel_rfl) (by kernel_rfl) (by kernel_rfl) (by kernel_rfl) ?hQbr46u25 (.inr ⟨?hwbr46u25, rfl⟩) (((((((((((((((((((((hT4.more 4).more 5).more 6).more 7).more 8).more 9).more 10).more 11).more 12).more 13).more 14).more 15).more 16).more 17).more 18).more 19).more 20).more 21).more 22).more 23).resolve_left (by decide)) ?_
                      case hibr46u25 => (simp only [List.getElem?_toArray, List.getElem?_cons_succ, List.getElem?_cons_zero]; rfl)
                      case hQbr46u25 => exact fun _ _ _ h => h
                      case hwbr46u25 => rfl
                      try simp only [Act.put, List.setIfInBounds_toArray, List.set_cons_zero, List.set_cons_succ]
                      refine wpAnyC_take (i := 25) (oi := ?oibr46u26) (v := undef) [25, 26, 27, 28, 29, 33, 40] ?hibr46u26 (by kernel_rfl) (by kernel_rfl) (by kernel_rfl) (by kernel_rfl) ?hQbr46u26 (.inr ⟨?hwbr46u26, rfl⟩) ((((((((((((((((((((((hT4.more 4).more 5).more 6).more 7).more 8).more 9).more 10).more 11).more 12).more 13).more 14).more 15).more 16).more 17).more 18).more 19).more 20).more 21).more 22).more 23).more 24).resolve_left (by decide)) ?_
                      case hibr46u26 => (simp only [List.getElem?_toArray, List.getElem?_cons_succ, List.getElem?_cons_zero]; rfl)
                      case hQbr46u26 => exact fun _ _ _ h => h
                      case hwbr46u26 => rfl
                      try simp only [Act.put, List.setIfInBounds_toArray, List.set_cons_zero, List.set_cons_succ]
                      refine wpAnyC_take (i := 26) (oi := ?oibr46u27) (v := undef) [26, 27, 28, 29, 33, 40] ?hibr46u27 (by kernel_rfl) (by kernel_rfl) (by kernel_rfl) (by kernel_rfl) ?hQbr46u27 (.inr ⟨?hwbr46u27, rfl⟩) (((((((((((((((((((((((hT4.more 4).more 5).more 6).more 7).more 8).more 9).more 10).more 11).more 12).more 13).more 14).more 15).more 16).more 17).more 18).more 19).more 20).more 21).more 22).more 23).more 24).more 25).resolve_left (by decide)) ?_
                      case hibr46u27 => (simp only [List.getElem?_toArray, List.getElem?_cons_succ, List.getElem?_cons_zero]; rfl)
                      case hQbr46u27 => exact fun _ _ _ h => h
                      case hwbr46u27 => rfl
                      try simp only [Act.put, List.setIfInBounds_toArray, List.set_cons_zero, List.set_cons_succ]
                      refine wpAnyC_take (i := 27) (oi := ?oibr46u28) (v := undef) [27, 28, 29, 33, 40] ?hibr46u28 (by kernel_rfl) (by kernel_rfl) (by kernel_rfl) (by kernel_rfl) ?hQbr46u28 (.inr ⟨?hwbr46u28, rfl⟩) ((((((((((((((((((((((((hT4.more 4).more 5).more 6).more 7).more 8).more 9).more 10).more 11).more 12).more 13).more 14).more 15).more 16).more 17).more 18).more 19).more 20).more 21).more 22).more 23).more 24).more 25).more 26).resolve_left (by decide)) ?_
                      case hibr46u28 => (simp only [List.getElem?_toArray, List.getElem?_cons_succ, List.getElem?_cons_zero]; rfl)
                      case hQbr46u28 => exact fun _ _ _ h => h
                      case hwbr46u28 => rfl
                      try simp only [Act.put, List.setIfInBounds_toArray, List.set_cons_zero, List.set_cons_succ]
                      refine wpAnyC_take (i := 28) (oi := ?oibr46u29) (v := undef) [28, 29, 33, 40] ?hibr46u29 (by kernel_rfl) (by kernel_rfl) (by kernel_rfl) (by kernel_rfl) ?hQbr46u29 (.inr ⟨?hwbr46u29, rfl⟩) (((((((((((((((((((((((((hT4.more 4).more 5).more 6).more 7).more 8).more 9).more 10).more 11).more 12).more 13).more 14).more 15).more 16).more 17).more 18).more 19).more 20).more 21).more 22).more 23).more 24).more 25).more 26).more 27).resolve_left (by decide)) ?_
                      case hibr46u29 => (simp only [List.getElem?_toArray, List.getElem?_cons_succ, List.getElem?_cons_zero]; rfl)
                      case hQbr46u29 => exact fun _ _ _ h => h
                      case hwbr46u29 => rfl
                      try simp only [Act.put, List.setIfInBounds_toArray, List.set_cons_zero, List.set_cons_succ]
                      refine wpAnyC_take (i := 29) (oi := ?oibr46u30) (v := undef) [29, 33, 40] ?hibr46u30 (by kernel_rfl) (by kernel_rfl) (by kernel_rfl) (by kernel_rfl) ?hQbr46u30 (.inr ⟨?hwbr46u30, rfl⟩) ((((((((((((((((((((((((((hT4.more 4).more 5).more 6).more 7).more 8).more 9).more 10).more 11).more 12).more 13).more 14).more 15).more 16).more 17).more 18).more 19).more 20).more 21).more 22).more 23).more 24).more 25).more 26).more 27).more 28).resolve_left (by decide)) ?_
                      case hibr46u30 => (simp only [List.getElem?_toArray, List.getElem?_cons_succ, List.getElem?_cons_zero]; rfl)
                      case hQbr46u30 => exact fun _ _ _ h => h
                      case hwbr46u30 => rfl
                      try simp only [Act.put, List.setIfInBounds_toArray, List.set_cons_zero, List.set_cons_succ]
                      refine wpAnyC_take (i := 30) (oi := ?oibr46u31) (v := undef) [30, 31, 32, 33, 40] ?hibr46u31 (by kernel_rfl) (by kernel_rfl) (by kernel_rfl) (by kernel_rfl) ?hQbr46u31 (.inr ⟨?hwbr46u31, rfl⟩) (((((((((((((((((((((((((((hT4.more 4).more 5).more 6).more 7).more 8).more 9).more 10).more 11).more 12).more 13).more 14).more 15).more 16).more 17).more 18).more 19).more 20).more 21).more 22).more 23).more 24).more 25).more 26).more 27).more 28).more 29).resolve_left (by decide)) ?_
                      case hibr46u31 => (simp only [List.getElem?_toArray, List.getElem?_cons_succ, List.getElem?_cons_zero]; rfl)
                      case hQbr46u31 => exact fun _ _ _ h => h
                      case hwbr46u31 => rfl
                      try simp only [Act.put, List.setIfInBounds_toArray, List.set_cons_zero, List.set_cons_succ]
                      refine wpAnyC_take0 (i := 31) (oi := ?oibr46u32) (v := ?vbr46u32) ?hibr46u32 (by kernel_rfl) (by kernel_rfl) (by kernel_rfl) (by kernel_rfl) ?hQbr46u32 ?hwbr46u32 ?hybr46u32 (((((((((((((((((((((((((((hT4.more 4).more 5).more 6).more 7).more 8).more 9).more 10).more 11).more 12).more 13).more 14).more 15).more 16).more 17).more 18).more 19).more 20).more 21).more 22).more 23).more 24).more 25).more 26).more 27).more 28).more 29).more 30) ?_
                      case hibr46u32 => (simp only [List.getElem?_toArray, List.getElem?_cons_succ, List.getElem?_cons_zero]; rfl)
                      case hQbr46u32 => exact fun _ _ _ h => h
                      case hwbr46u32 => rfl
                      case hybr46u32 => (intro w; go_simp <;> with_reducible rfl)
                      try simp only [Act.put, List.setIfInBounds_toArray, List.set_cons_zero, List.set_cons_succ]
                      refine wpAnyC_take0 (i := 32) (oi := ?oibr46u33) (v := ?vbr46u33) ?hibr46u33 (by kernel_rfl) (by kernel_rfl) (by kernel_rfl) (by kernel_rfl) ?hQbr46u33 ?hwbr46u33 ?hybr46u33 ((((((((((((((((((((((((((((hT4.more 4).more 5).more 6).more 7).more 8).more 9).more 10).more 11).more 12).more 13).more 14).more 15).more 16).more 17).more 18).more 19).more 20).more 21).more 22).more 23).more 24).more 25).more 26).more 27).more 28).more 29).more 30).more 31) ?_
                      case hibr46u33 => (simp only [List.getElem?_toArray, List.getElem?_cons_succ, List.getElem?_cons_zero]; rfl)
                      case hQbr46u33 => exact fun _ _ _ h => h
                      case hwbr46u33 => rfl
                      case hybr46u33 => (intro w; go_simp <;> with_reducible rfl)
                      try simp only [Act.put, List.setIfInBounds_toArray, List.set_cons_zero, List.set_cons_succ]
                      refine wpAnyC_take0 (i := 33) (oi := ?oibr46u34) (v := ?vbr46u34) ?hibr46u34 (by kernel_rfl) (by kernel_rfl) (by kernel_rfl) (by kernel_rfl) ?hQbr46u34 ?hwbr46u34 ?hybr46u34 (((((((((((((((((((((((((((((hT4.more 4).more 5).more 6).more 7).more 8).more 9).more 10).more 11).more 12).more 13).more 14).more 15).more 16).more 17).more 18).more 19).more 20).more 21).more 22).more 23).more 24).more 25).more 26).more 27).more 28).more 29).more 30).more 31).more 32) ?_
                      case hibr46u34 => (simp only [List.getElem?_toArray, List.getElem?_cons_succ, List.getElem?_cons_zero]; rfl)
                      case hQbr46u34 => exact fun _ _ _ h => h
                      case hwbr46u34 => rfl
                      case hybr46u34 => (intro w; go_simp <;> with_reducible rfl)
                      try simp only [Act.put, List.setIfInBounds_toArray, List.set_cons_zero, List.set_cons_succ]
                      refine wpAnyC_take0 (i := 34) (oi := ?oibr46u35) (v := ?vbr46u35) ?hibr46u35 (by kernel_rfl) (by kernel_rfl) (by kernel_rfl) (by kernel_rfl) ?hQbr46u35 ?hwbr46u35 ?hybr46u35 ((((((((((((((((((((((((((((((hT4.more 4).more 5).more 6).more 7).more 8).more 9).more 10).more 11).more 12).more 13).more 14).more 15).more 16).more 17).more 18).more 19).more 20).more 21).more 22).more 23).more 24).more 25).more 26).more 27).more 28).more 29).more 30).more 31).more 32).more 33) ?_
                      case hibr46u35 => (simp only [List.getElem?_toArray, List.getElem?_cons_succ, List.getElem?_cons_zero]; rfl)
                      case hQbr46u35 => exact fun _ _ _ h => h
                      case hwbr46u35 => rfl
                      case hybr46u35 => (intro w; go_simp <;> with_reducible rfl)
                      try simp only [Act.put, List.setIfInBounds_toArray, List.set_cons_zero, List.set_cons_succ]
                      refine wpAnyC_take0 (i := 35) (oi := ?oibr46u36) (v := ?vbr46u36) ?hibr46u36 (by kernel_rfl) (by kernel_rfl) (by kernel_rfl) (by kernel_rfl) ?hQbr46u36 ?hwbr46u36 ?hybr46u36 (((((((((((((((((((((((((((((((hT4.more 4).more 5).more 6).more 7).more 8).more 9).more 10).more 11).more 12).more 13).more 14).more 15).more 16).more 17).more 18).more 19).more 20).more 21).more 22).more 23).more 24).more 25).more 26).more 27).more 28).more 29).more 30).more 31).more 32).more 33).more 34) ?_
                      case hibr46u36 => (simp only [List.getElem?_toArray, List.getElem?_cons_succ, List.getElem?_cons_zero]; rfl)
                      case hQbr46u36 => exact fun _ _ _ h => h
                      case hwbr46u36 => rfl
                      case hybr46u36 => (intro w; go_simp <;> with_reducible rfl)
                      try simp only [Act.put, List.setIfInBounds_toArray, List.set_cons_zero, List.set_cons_succ]
                      refine wpAnyC_take0 (i := 36) (oi := ?oibr46u37) (v := ?vbr46u37) ?hibr46u37 (by kernel_rfl) (by kernel_rfl) (by kernel_rfl) (by kernel_rfl) ?hQbr46u37 ?hwbr46u37 ?hybr46u37 ((((((((((((((((((((((((((((((((hT4.more 4).more 5).more 6).more 7).more 8).more 9).more 10).more 11).more 12).more 13).more 14).more 15).more 16).more 17).more 18).more 19).more 20).more 21).more 22).more 23).more 24).more 25).more 26).more 27).more 28).more 29).more 30).more 31).more 32).more 33).more 34).more 35) ?_
                      case hibr46u37 => (simp only [List.getElem?_toArray, List.getElem?_cons_succ, List.getElem?_cons_zero]; rfl)
                      case hQbr46u37 => exact fun _ _ _ h => h
                      case hwbr46u37 => rfl
                      case hybr46u37 => (intro w; go_simp <;> with_reducible rfl)
                      try simp only [Act.put, List.setIfInBounds_toArray, List.set_cons_zero, List.set_cons_succ]
                      refine wpAnyC_take (i := 37) (oi := ?oibr46u38) (v := ?vbr46u38) [37, 38, 39, 40] ?hibr46u38 (by kernel_rfl) (by kernel_rfl) (by kernel_rfl) (by kernel_rfl) ?hQbr46u38 (.inl ⟨?hwbr46u38, ?hybr46u38⟩) ((((((((((((((((((((((((((((((((((hT4.more 4).more 5).more 6).more 7).more 8).more 9).more 10).more 11).more 12).more 13).more 14).more 15).more 16).more 17).more 18).more 19).more 20).more 21).more 22).more 23).more 24).more 25).more 26).more 27).more 28).more 29).more 30).more 31).more 32).more 33).more 34).more 35).more 36).resolve_left (by decide)) ?_
                      case hibr46u38 => (simp only [List.getElem?_toArray, List.getElem?_cons_succ, List.getElem?_cons_zero]; rfl)
                      case hQbr46u38 => exact fun _ _ _ h => h
                      case hwbr46u38 => rfl
                      case hybr46u38 => (intro w hSw; (have t5 := (hSw.at_ HOX.out (by simp)).cell 5; simp at t5); go_simp <;> with_reducible rfl)
                      try simp only [Act.put, List.setIfInBounds_toArray, List.set_cons_zero, List.set_cons_succ]
                      have hSx := ((((((((((((((((((((((((((((((((((hT4.more 4).more 5).more 6).more 7).more 8).more 9).more 10).more 11).more 12).more 13).more 14).more 15).more 16).more 17).more 18).more 19).more 20).more 21).more 22).more 23).more 24).more 25).more 26).more 27).more 28).more 29).more 30).more 31).more 32).more 33).more 34).more 35).more 36).more 37).resolve_left (by decide)
                      refine wpAnyC_ready (rs := [38]) (by kernel_rfl) (by simp) ?_
                      refine ReadyC.cons (o := ?obr46u39) ?hobr46u39 ?hstepbr46u39 ?_
                      case hobr46u39 => (simp only [List.getElem?_toArray, List.getElem?_cons_succ, List.getElem?_cons_zero]; rfl)
                      case hstepbr46u39 =>
                        intro K hK
                        (go_simp; refine ((HQX.out.keep hSx).chained N'.length rfl HI'.out.sf HI'.out.f (by rw [HLN.out]; omega) id).mono ?_; rintro e w5 ⟨rfl, hf5⟩; dsimp only)
                        refine hK.out _ _ (.inr ?_) (fun hHeld => ?_)
                        · first | exact hSx.then_ hf5 | exact hSx.then_ hf4 | exact hSx
                        have hT39 := hHeld
                        clear hHeld
                        clear hK K
                        try simp only [Act.put, List.setIfInBounds_toArray, List.set_cons_zero, List.set_cons_succ]
                        refine wpAnyC_take0 (i := 39) (oi := ?oibr46u40) (v := ?vbr46u40) ?hibr46u40 (by kernel_rfl) (by kernel_rfl) (by kernel_rfl) (by kernel_rfl) ?hQbr46u40 ?hwbr46u40 ?hybr46u40 hT39 ?_
                        case hibr46u40 => (simp only [List.getElem?_toArray, List.getElem?_cons_succ, List.getElem?_cons_zero]; rfl)
                        case hQbr46u40 => exact fun _ _ _ h => h
                        case hwbr46u40 => rfl
                        case hybr46u40 => (intro w; go_simp <;> with_reducible rfl)
                        try simp only [Act.put, List.setIfInBounds_toArray, List.set_cons_zero, List.set_cons_succ]
                        have hSx := (hT39.more 39).resolve_left (by decide)
                        refine wpAnyC_ready (rs := [40]) (by kernel_rfl) (by simp) ?_
                        refine ReadyC.cons (o := ?obr46u41) ?hobr46u41 ?hstepbr46u41 ?_
                        case hobr46u41 => (simp only [List.getElem?_toArray, List.getElem?_cons_succ, List.getElem?_cons_zero]; rfl)
                        case hstepbr46u41 =>
                          intro K hK
                          go_simp
                          refine hK.out _ _ (.inl rfl) (fun hHeld => ?_)
                          have hT41 := hHeld
                          clear hHeld
                          clear hK K
                          try simp only [Act.put, List.setIfInBounds_toArray, List.set_cons_zero, List.set_cons_succ]
                          refine wpAnyC_done (by kernel_rfl) ?_ _
                          refine NoPanic.normal ?_
                          go_wp2_with fail
                          go_meet
                          exact ⟨rfl, hSx⟩
                        exact ReadyC.nil
                      exact ReadyC.nil
                    exact ReadyC.nil

                · as_aux_lemma =>
                    refine wp_region_noPanic ?_
                    refine wp_region_C (fun w' : World => Fr [] X w') 40 (by kernel_rfl) ((Fr.refl [] X).drew) (fun hT0 => ?_)
                    refine wpAnyC_take0 (i := 0) (oi := ?oiar46u1) (v := ?var46u1) ?hiar46u1 (by kernel_rfl) (by kernel_rfl) (by kernel_rfl) (by kernel_rfl) ?hQar46u1 ?hwar46u1 ?hyar46u1 hT0 ?_
                    case hiar46u1 => (simp only [List.getElem?_toArray, List.getElem?_cons_zero]; rfl)
                    case hQar46u1 => exact fun _ _ _ h => h
                    case hwar46u1 => rfl
                    case hyar46u1 => (intro w; go_simp <;> with_reducible rfl)
                    try simp only [Act.put, List.setIfInBounds_toArray, List.set_cons_zero, List.set_cons_succ]
                    refine wpAnyC_take0 (i := 2) (oi := ?oiar46u2) (v := ?var46u2) ?hiar46u2 (by kernel_rfl) (by kernel_rfl) (by kernel_rfl) (by kernel_rfl) ?hQar46u2 ?hwar46u2 ?hyar46u2 (hT0.more 0) ?_
                    case hiar46u2 => (simp only [List.getElem?_toArray, List.getElem?_cons_succ, List.getElem?_cons_zero]; rfl)
                    case hQar46u2 => exact fun _ _ _ h => h
                    case hwar46u2 => rfl
                    case hyar46u2 => (intro w; go_simp <;> with_reducible rfl)
                    try simp only [Act.put, List.setIfInBounds_toArray, List.set_cons_zero, List.set_cons_succ]
                    refine wpAnyC_take0 (i := 3) (oi := ?oiar46u3) (v := ?var46u3) ?hiar46u3 (by kernel_rfl) (by kernel_rfl) (by kernel_rfl) (by kernel_rfl) ?hQar46u3 ?hwar46u3 ?hyar46u3 ((hT0.more 0).more 2) ?_
                    case hiar46u3 => (simp only [List.getElem?_toArray, List.getElem?_cons_succ, List.getElem?_cons_zero]; rfl)
                    case hQar46u3 => exact fun _ _ _ h => h
                    case hwar46u3 => rfl
                    case hyar46u3 => (intro w; go_simp <;> with_reducible rfl)
                    try simp only [Act.put, List.setIfInBounds_toArray, List.set_cons_zero, List.set_cons_succ]
                    have hSx := (((hT0.more 0).more 2).more 3).resolve_left (by decide)
                    refine wpAnyC_ready (rs := [1]) (by kernel_rfl) (by simp) ?_
                    refine ReadyC.cons (o := ?oar46u4) ?hoar46u4 ?hstepar46u4 ?_
                    case hoar46u4 => (simp only [List.getElem?_toArray, List.getElem?_cons_succ, List.getElem?_cons_zero]; rfl)
                    case hstepar46u4 =>
                      intro K hK
                      (go_simp; refine ((HQX.out.keep hSx).len W'.length rfl).mono ?_; rintro e w4 ⟨rfl, rfl⟩; dsimp only)
                      refine hK.out _ _ (.inr ?_) (fun hHeld => ?_)
                      · first | exact hSx.then_ hf5 | exact hSx.then_ hf4 | exact hSx
                      have hT4 := hHeld
                      clear hHeld
                      clear hK K
                      try simp only [Act.put, List.setIfInBounds_toArray, List.set_cons_zero, List.set_cons_succ]
                      refine wpAnyC_take0 (i := 4) (oi := ?oiar46u5) (v := ?var46u5) ?hiar46u5 (by kernel_rfl) (by kernel_rfl) (by kernel_rfl) (by kernel_rfl) ?hQar46u5 ?hwar46u5 ?hyar46u5 hT4 ?_
                      case hiar46u5 => (simp only [List.getElem?_toArray, List.getElem?_cons_succ, List.getElem?_cons_zero]; rfl)
                      case hQar46u5 => exact fun _ _ _ h => h
                      case hwar46u5 => rfl
                      case hyar46u5 => (intro w; go_simp <;> with_reducible rfl)
                      try simp only [Act.put, List.setIfInBounds_toArray, List.set_cons_zero, List.set_cons_succ]
                      refine wpAnyC_take0 (i := 5) (oi := ?oiar46u6) (v := ?var46u6) ?hiar46u6 (by kernel_rfl) (by kernel_rfl) (by kernel_rfl) (by kernel_rfl) ?hQar46u6 ?hwar46u6 ?hyar46u6 (hT4.more 4) ?_
                      case hiar46u6 => (simp only [List.getElem?_toArray, List.getElem?_cons_succ, List.getElem?_cons_zero]; rfl)
                      case hQar46u6 => exact fun _ _ _ h => h
                      case hwar46u6 => rfl
                      case hyar46u6 => (intro w; go_simp <;> with_reducible rfl)
                      try simp only [Act.put, List.setIfInBounds_toArray, List.set_cons_zero, List.set_cons_succ]
                      refine wpAnyC_take0 (i := 6) (oi := ?oiar46u7) (v := ?var46u7) ?hiar46u7 (by kernel_rfl) (by kernel_rfl) (by kernel_rfl) (by kernel_rfl) ?hQar46u7 ?hwar46u7 ?hyar46u7 ((hT4.more 4).more 5) ?_
                      case hiar46u7 => (simp only [List.getElem?_toArray, List.getElem?_cons_succ, List.getElem?_cons_zero]; rfl)
                      case hQar46u7 => exact fun _ _ _ h => h
                      case hwar46u7 => rfl
                      case hyar46u7 => (intro w; go_simp <;> with_reducible rfl)
                      try simp only [Act.put, List.setIfInBounds_toArray, List.set_cons_zero, List.set_cons_succ]
                      refine wpAnyC_take0 (i := 7) (oi := ?oiar46u8) (v := ?var46u8) ?hiar46u8 (by kernel_rfl) (by kernel_rfl) (by kernel_rfl) (by kernel_rfl) ?hQar46u8 ?hwar46u8 ?hyar46u8 (((hT4.more 4).more 5).more 6) ?_
                      case hiar46u8 => (simp only [List.getElem?_toArray, List.getElem?_cons_succ, List.getElem?_cons_zero]; rfl)
                      case hQar46u8 => exact fun _ _ _ h => h
                      case hwar46u8 => rfl
                      case hyar46u8 => (intro w; go_simp <;> with_reducible rfl)
                      try simp only [Act.put, List.setIfInBounds_toArray, List.set_cons_zero, List.set_cons_succ]
                      refine wpAnyC_take (i := 8) (oi := ?oiar46u9) (v := ?var46u9) [8, 9, 10, 19, 32, 33, 40] ?hiar46u9 (by kernel_rfl) (by kernel_rfl) (by kernel_rfl) (by kernel_rfl) ?hQar46u9 (.inl ⟨?hwar46u9, ?hyar46u9⟩) (((((hT4.more 4).more 5).more 6).more 7).resolve_left (by decide)) ?_
                      case hiar46u9 => (simp only [List.getElem?_toArray, List.getElem?_cons_succ, List.getElem?_cons_zero]; rfl)
                      case hQar46u9 => exact fun _ _ _ h => h
                      case hwar46u9 => rfl
                      case hyar46u9 => (intro w hSw; (have t5 := (hSw.at_ HOX.out (by simp)).cell 5; simp at t5); go_simp <;> with_reducible rfl)
                      try simp only [Act.put, List.setIfInBounds_toArray, List.set_cons_zero, List.set_cons_succ]
                      refine wpAnyC_take0 (i := 9) (oi := ?oiar46u10) (v := ?var46u10) ?hiar46u10 (by kernel_rfl) (by kernel_rfl) (by kernel_rfl) (by kernel_rfl) ?hQar46u10 ?hwar46u10 ?hyar46u10 (((((hT4.more 4).more 5).more 6).more 7).more 8) ?_
                      case hiar46u10 => (simp only [List.getElem?_toArray, List.getElem?_cons_succ, List.getElem?_cons_zero]; rfl)
                      case hQar46u10 => exact fun _ _ _ h => h
                      case hwar46u10 => rfl
                      case hyar46u10 => (intro w; go_simp <;> with_reducible rfl)
                      try simp only [Act.put, List.setIfInBounds_toArray, List.set_cons_zero, List.set_cons_succ]
                      refine wpAnyC_take0 (i := 10) (oi := ?oiar46u11) (v := ?var46u11) ?hiar46u11 (by kernel_rfl) (by kernel_rfl) (by kernel_rfl) (by kernel_rfl) ?hQar46u11 ?hwar46u11 ?hyar46u11 ((((((hT4.more 4).more 5).more 6).more 7).more 8).more 9) ?_
                      case hiar46u11 => (simp only [List.getElem?_toArray, List.getElem?_cons_succ, List.getElem?_cons_zero]; rfl)
                      case hQar46u11 => exact fun _ _ _ h => h
                      case hwar46u11 => rfl
                      case hyar46u11 => (intro w; go_simp <;> with_reducible rfl)
                      try simp only [Act.put, List.setIfInBounds_toArray, List.set_cons_zero, List.set_cons_succ]
                      refine wpAnyC_take (i := 11) (oi := ?oiar46u12) (v := undef) [11, 12, 15, 16, 17, 18, 19, 32, 33, 40] ?hiar46u12 (by kernel_rfl) (by kernel_rfl) (by kernel_rfl) (by kernel_rfl) ?hQar46u12 (.inr ⟨?hwar46u12, rfl⟩) ((((((((hT4.more 4).more 5).more 6).more 7).more 8).more 9).more 10).resolve_left (by decide)) ?_
                      case hiar46u12 => (simp only [List.getElem?_toArray, List.getElem?_cons_succ, List.getElem?_cons_zero]; rfl)
                      case hQar46u12 => exact fun _ _ _ h => h
                      case hwar46u12 => rfl
                      try simp only [Act.put, List.setIfInBounds_toArray, List.set_cons_zero, List.set_cons_succ]
                      refine wpAnyC_take (i := 12) (oi := ?oiar46u13) (v := undef) [12, 15, 16, 17, 18, 19, 32, 33, 40] ?hiar46u13 (by kernel_rfl) (by kernel_rfl) (by kernel_rfl) (by kernel_rfl) ?hQar46u13 (.inr ⟨?hwar46u13, rfl⟩) (((((((((hT4.more 4).more 5).more 6).more 7).more 8).more 9).more 10).more 11).resolve_left (by decide)) ?_
                      case hiar46u13 => (simp only [List.getElem?_toArray, List.getElem?_cons_succ, List.getElem?_cons_zero]; rfl)
                      case hQar46u13 => exact fun _ _ _ h => h
                      case hwar46u13 => rfl
                      try simp only [Act.put, List.setIfInBounds_toArray, List.set_cons_zero, List.set_cons_succ]
                      refine wpAnyC_take (i := 13) (oi := ?oiar46u14) (v := undef) [13, 14, 15, 16, 17, 18, 19, 32, 33, 40] ?hiar46u14 (by kernel_rfl) (by kernel_rfl) (by kernel_rfl) (by kernel_rfl) ?hQar46u14 (.inr ⟨?hwar46u14, rfl⟩) ((((((((((hT4.more 4).more 5).more 6).more 7).more 8).more 9).more 10).more 11).more 12).resolve_left (by decide)) ?_
                      case hiar46u14 => (simp only [List.getElem?_toArray, List.getElem?_cons_succ, List.getElem?_cons_zero]; rfl)
                      case hQar46u14 => exact fun _ _ _ h => h
                      case hwar46u14 => rfl
                      try simp only [Act.put, List.setIfInBounds_toArray, List.set_cons_zero, List.set_cons_succ]
                      refine wpAnyC_take (i := 14) (oi := ?oiar46u15) (v := undef) [14, 15, 16, 17, 18, 19, 32, 33, 40] ?hiar46u15 (by kernel_rfl) (by kernel_rfl) (by kernel_rfl) (by kernel_rfl) ?hQar46u15 (.inr ⟨?hwar46u15, rfl⟩) (((((((((((hT4.more 4).more 5).more 6).more 7).more 8).more 9).more 10).more 11).more 12).more 13).resolve_left (by decide)) ?_
                      case hiar46u15 => (simp only [List.getElem?_toArray, List.getElem?_cons_succ, List.getElem?_cons_zero]; rfl)
                      case hQar46u15 => exact fun _ _ _ h => h
                      case hwar46u15 => rfl
                      try simp only [Act.put, List.setIfInBounds_toArray, List.set_cons_zero, List.set_cons_succ]
                      refine wpAnyC_take (i := 15) (oi := ?oiar46u16) (v := undef) [15, 16, 17, 18, 19, 32, 33, 40] ?hiar46u16 (by kernel_rfl) (by kernel_rfl) (by kernel_rfl) (by kernel_rfl) ?hQar46u16 (.inr ⟨?hwar46u16, rfl⟩) ((((((((((((hT4.more 4).more 5).more 6).more 7).more 8).more 9).more 10).more 11).more 12).more 13).more 14).resolve_left (by decide)) ?_
                      case hiar46u16 => (simp only [List.getElem?_toArray, List.getElem?_cons_succ, List.getElem?_cons_zero]; rfl)
                      case hQar46u16 => exact fun _ _ _ h => h
                      case hwar46u16 => rfl
                      try simp only [Act.put, List.setIfInBounds_toArray, List.set_cons_zero, List.set_cons_succ]
                      refine wpAnyC_take0 (i := 16) (oi := ?oiar46u17) (v := ?var46u17) ?hiar46u17 (by kernel_rfl) (by kernel_rfl) (by kernel_rfl) (by kernel_rfl) ?hQar46u17 ?hwar46u17 ?hyar46u17 ((((((((((((hT4.more 4).more 5).more 6).more 7).more 8).more 9).more 10).more 11).more 12).more 13).more 14).more 15) ?_
                      case hiar46u17 => (simp only [List.getElem?_toArray, List.getElem?_cons_succ, List.getElem?_cons_zero]; rfl)
                      case hQar46u17 => exact fun _ _ _ h => h
                      case hwar46u17 => rfl
                      case hyar46u17 => (intro w; go_simp <;> with_reducible rfl)
                      try simp only [Act.put, List.setIfInBounds_toArray, List.set_cons_zero, List.set_cons_succ]
                      refine wpAnyC_take0 (i := 17) (oi := ?oiar46u18) (v := ?var46u18) ?hiar46u18 (by kernel_rfl) (by kernel_rfl) (by kernel_rfl) (by kernel_rfl) ?hQar46u18 ?hwar46u18 ?hyar46u18 (((((((((((((hT4.more 4).more 5).more 6).more 7).more 8).more 9).more 10).more 11).more 12).more 13).more 14).more 15).more 16) ?_
                      case hiar46u18 => (simp only [List.getElem?_toArray, List.getElem?_cons_succ, List.getElem?_cons_zero]; rfl)
                      case hQar46u18 => exact fun _ _ _ h => h
                      case hwar46u18 => rfl
                      case hyar46u18 => (intro w; go_simp <;> with_reducible rfl)
                      try simp only [Act.put, List.setIfInBounds_toArray, List.set_cons_zero, List.set_cons_succ]
                      refine wpAnyC_take0 (i := 18) (oi := ?oiar46u19) (v := ?var46u19) ?hiar46u19 (by kernel_rfl) (by kernel_rfl) (by kernel_rfl) (by kernel_rfl) ?hQar46u19 ?hwar46u19 ?hyar46u19 ((((((((((((((hT4.more 4).more 5).more 6).more 7).more 8).more 9).more 10).more 11).more 12).more 13).more 14).more 15).more 16).more 17) ?_
                      case hiar46u19 => (simp only [List.getElem?_toArray, List.getElem?_cons_succ, List.getElem?_cons_zero]; rfl)
                      case hQar46u19 => exact fun _ _ _ h => h
                      case hwar46u19 => rfl
                      case hyar46u19 => (intro w; go_simp <;> with_reducible rfl)
                      try simp only [Act.put, List.setIfInBounds_toArray, List.set_cons_zero, List.set_cons_succ]
                      refine wpAnyC_take0 (i := 19) (oi := ?oiar46u20) (v := ?var46u20) ?hiar46u20 (by kernel_rfl) (by kernel_rfl) (by kernel_rfl) (by kernel_rfl) ?hQar46u20 ?hwar46u20 ?hyar46u20 (((((((((((((((hT4.more 4).more 5).more 6).more 7).more 8).more 9).more 10).more 11).more 12).more 13).more 14).more 15).more 16).more 17).more 18) ?_
                      case hiar46u20 => (simp only [List.getElem?_toArray, List.getElem?_cons_succ, List.getElem?_cons_zero]; rfl)
                      case hQar46u20 => exact fun _ _ _ h => h
                      case hwar46u20 => rfl
                      case hyar46u20 => (intro w; go_simp <;> with_reducible rfl)
                      try simp only [Act.put, List.setIfInBounds_toArray, List.set_cons_zero, List.set_cons_succ]
                      refine wpAnyC_take0 (i := 20) (oi := ?oiar46u21) (v := ?var46u21) ?hiar46u21 (by kernel_rfl) (by kernel_rfl) (by kernel_rfl) (by kernel_rfl) ?hQar46u21 ?hwar46u21 ?hyar46u21 ((((((((((((((((hT4.more 4).more 5).more 6).more 7).more 8).more 9).more 10).more 11).more 12).more 13).more 14).more 15).more 16).more 17).more 18).more 19) ?_
                      case hiar46u21 => (simp only [List.getElem?_toArray, List.getElem?_cons_succ, List.getElem?_cons_zero]; rfl)
                      case hQar46u21 => exact fun _ _ _ h => h
                      case hwar46u21 => rfl
                      case hyar46u21 => (intro w; go_simp <;> with_reducible rfl)
                      try simp only [Act.put, List.setIfInBounds_toArray, List.set_cons_zero, List.set_cons_succ]
                      refine wpAnyC_take0 (i := 21) (oi := ?oiar46u22) (v := ?var46u22) ?hiar46u22 (by kernel_rfl) (by kernel_rfl) (by kernel_rfl) (by kernel_rfl) ?hQar46u22 ?hwar46u22 ?hyar46u22 (((((((((((((((((hT4.more 4).more 5).more 6).more 7).more 8).more 9).more 10).more 11).more 12).more 13).more 14).more 15).more 16).more 17).more 18).more 19).more 20) ?_
                      case hiar46u22 => (simp only [List.getElem?_toArray, List.getElem?_cons_succ, List.getElem?_cons_zero]; rfl)
                      case hQar46u22 => exact fun _ _ _ h => h
                      case hwar46u22 => rfl
                      case hyar46u22 => (intro w; go_simp <;> with_reducible rfl)
                      try simp only [Act.put, List.setIfInBounds_toArray, List.set_cons_zero, List.set_cons_succ]
                      refine wpAnyC_take (i := 22) (oi := ?oiar46u23) (v := undef) [22, 29, 33, 40] ?hiar46u23 (by kernel_rfl) (by kernel_rfl) (by kernel_rfl) (by kernel_rfl) ?hQar46u23 (.inr ⟨?hwar46u23, rfl⟩) (((((((((((((((((((hT4.more 4).more 5).more 6).more 7).more 8).more 9).more 10).more 11).more 12).more 13).more 14).more 15).more 16).more 17).more 18).more 19).more 20).more 21).resolve_left (by decide)) ?_
                      case hiar46u23 => (simp only [List.getElem?_toArray, List.getElem?_cons_succ, List.getElem?_cons_zero]; rfl)
                      case hQar46u23 => exact fun _ _ _ h => h
                      case hwar46u23 => rfl
                      try simp only [Act.put, List.setIfInBounds_toArray, List.set_cons_zero, List.set_cons_succ]
                      refine wpAnyC_take (i := 23) (oi := ?oiar46u24) (v := undef) [23, 27, 28, 29, 33, 40] ?hiar46u24 (by kernel_rfl) (by kernel_rfl) (by kernel_rfl) (by kernel_rfl) ?hQar46u24 (.inr ⟨?hwar46u24, rfl⟩) ((((((((((((((((((((hT4.more 4).more 5).more 6).more 7).more 8).more 9).more 10).more 11).more 12).more 13).more 14).more 15).more 16).more 17).more 18).more 19).more 20).more 21).more 22).resolve_left (by decide)) ?_
                      case hiar46u24 => (simp only [List.getElem?_toArray, List.getElem?_cons_succ, List.getElem?_cons_zero]; rfl)
                      case hQar46u24 => exact fun _ _ _ h => h
                      case hwar46u24 => rfl
                      try simp only [Act.put, List.setIfInBounds_toArray, List.set_cons_zero, List.set_cons_succ]
                      refine wpAnyC_take (i := 24) (oi := ?oiar46u25) (v := undef) [24, 25, 26, 27, 28, 29, 33, 40] ?hiar46u25 (by kernel_rfl) (by kernel_rfl) (by kernel_rfl) (by kernel_rfl) ?hQar46u25 (.inr ⟨?hwar46u25, rfl⟩) (((((((((((((((((((((hT4.more 4).more 5).more 6).more 7).more 8).more 9).more 10).more 11).more 12).more 13).more 14).more 15).more 16).more 17).more 18).more 19).more 20).more 21).more 22).more 23).resolve_left (by decide)) ?_
                      case hiar46u25 => (simp only [List.getElem?_toArray, List.getElem?_cons_succ, List.getElem?_cons_zero]; rfl)
                      case hQar46u25 => exact fun _ _ _ h => h
                      case hwar46u25 => rfl
                      try simp only [Act.put, List.setIfInBounds_toArray, List.set_cons_zero, List.set_cons_succ]
                      refine wpAnyC_take (i := 25) (oi := ?oiar46u26) (v := undef) [25, 26, 27, 28, 29, 33, 40] ?hiar46u26 (by kernel_rfl) (by kernel_rfl) (by kernel_rfl) (by kernel_rfl) ?hQar46u26 (.inr ⟨?hwar46u26, rfl⟩) ((((((((((((((((((((((hT4.more 4).more 5).more 6).more 7).more 8).more 9).more 10).more 11).more 12).more 13).more 14).more 15).more 16).more 17).more 18).more 19).more 20).more 21).more 22).more 23).more 24).resolve_left (by decide)) ?_
                      case hiar46u26 => (simp only [List.getElem?_toArray, List.getElem?_cons_succ, List.getElem?_cons_zero]; rfl)
                      case hQar46u26 => exact fun _ _ _ h => h
                      case hwar46u26 => rfl
                      try simp only [Act.put, List.setIfInBounds_toArray, List.set_cons_zero, List.set_cons_succ]
                      refine wpAnyC_take (i := 26) (oi := ?oiar46u27) (v := undef) [26, 27, 28, 29, 33, 40] ?hiar46u27 (by kernel_rfl) (by kernel_rfl) (by kernel_rfl) (by kernel_rfl) ?hQar46u27 (.inr ⟨?hwar46u27, rfl⟩) (((((((((((((((((((((((hT4.more 4).more 5).more 6).more 7).more 8).more 9).more 10).more 11).more 12).more 13).more 14).more 15).more 16).more 17).more 18).more 19).more 20).more 21).more 22).more 23).more 24).more 25).resolve_left (by decide)) ?_
                      case hiar46u27 => (simp only [List.getElem?_toArray, List.getElem?_cons_succ, List.getElem?_cons_zero]; rfl)
                      case hQar46u27 => exact fun _ _ _ h => h
                      case hwar46u27 => rfl
                      try simp only [Act.put, List.setIfInBounds_toArray, List.set_cons_zero, List.set_cons_succ]
                      refine wpAnyC_take (i := 27) (oi := ?oiar46u28) (v := undef) [27, 28, 29, 33, 40] ?hiar46u28 (by kernel_rfl) (by kernel_rfl) (by kernel_rfl) (by kernel_rfl) ?hQar46u28 (.inr ⟨?hwar46u28, rfl⟩) ((((((((((((((((((((((((hT4.more 4).more 5).more 6).more 7).more 8).more 9).more 10).more 11).more 12).more 13).more 14).more 15).more 16).more 17).more 18).more 19).more 20).more 21).more 22).more 23).more 24).more 25).more 26).resolve_left (by decide)) ?_
                      case hiar46u28 => (simp only [List.getElem?_toArray, List.getElem?_cons_succ, List.getElem?_cons_zero]; rfl)
                      case hQar46u28 => exact fun _ _ _ h => h
                      case hwar46u28 => rfl
                      try simp only [Act.put, List.setIfInBounds_toArray, List.set_cons_zero, List.set_cons_succ]
                      refine wpAnyC_take (i := 28) (oi := ?oiar46u29) (v := undef) [28, 29, 33, 40] ?hiar46u29 (by kernel_rfl) (by kernel_rfl) (by kernel_rfl) (by kernel_rfl) ?hQar46u29 (.inr ⟨?hwar46u29, rfl⟩) (((((((((((((((((((((((((hT4.more 4).more 5).more 6).more 7).more 8).more 9).more 10).more 11).more 12).more 13).more 14).more 15).more 16).more 17).more 18).more 19).more 20).more 21).more 22).more 23).more 24).more 25).more 26).more 27).resolve_left (by decide)) ?_
                      case hiar46u29 => (simp only [List.getElem?_toArray, List.getElem?_cons_succ, List.getElem?_cons_zero]; rfl)
                      case hQar46u29 => exact fun _ _ _ h => h
                      case hwar46u29 => rfl
                      try simp only [Act.put, List.setIfInBounds_toArray, List.set_cons_zero, List.set_cons_succ]
                      refine wpAnyC_take (i := 29) (oi := ?oiar46u30) (v := undef) [29, 33, 40] ?hiar46u30 (by kernel_rfl) (by kernel_rfl) (by kernel_rfl) (by kernel_rfl) ?hQar46u30 (.inr ⟨?hwar46u30, rfl⟩) ((((((((((((((((((((((((((hT4.more 4).more 5).more 6).more 7).more 8).more 9).more 10).more 11).more 12).more 13).more 14).more 15).more 16).more 17).more 18).more 19).more 20).more 21).more 22).more 23).more 24).more 25).more 26).more 27).more 28).resolve_left (by decide)) ?_
                      case hiar46u30 => (simp only [List.getElem?_toArray, List.getElem?_cons_succ, List.getElem?_cons_zero]; rfl)
                      case hQar46u30 => exact fun _ _ _ h => h
                      case hwar46u30 => rfl
                      try simp only [Act.put, List.setIfInBounds_toArray, List.set_cons_zero, List.set_cons_succ]
                      refine wpAnyC_take (i := 30) (oi := ?oiar46u31) (v := undef) [30, 31, 32, 33, 40] ?hiar46u31 (by kernel_rfl) (by kernel_rfl) (by kernel_rfl) (by kernel_rfl) ?hQar46u31 (.inr ⟨?hwar46u31, rfl⟩) (((((((((((((((((((((((((((hT4.more 4).more 5).more 6).more 7).more 8).more 9).more 10).more 11).more 12).more 13).more 14).more 15).more 16).more 17).more 18).more 19).more 20).more 21).more 22).more 23).more 24).more 25).more 26).more 27).more 28).more 29).resolve_left (by decide)) ?_
                      case hiar46u31 => (simp only [List.getElem?_toArray, List.getElem?_cons_succ, List.getElem?_cons_zero]; rfl)
                      case hQar46u31 => exact fun _ _ _ h => h
                      case hwar46u31 => rfl
                      try simp only [Act.put, List.setIfInBounds_toArray, List.set_cons_zero, List.set_cons_succ]
                      refine wpAnyC_take0 (i := 31) (oi := ?oiar46u32) (v := ?var46u32) ?hiar46u32 (by kernel_rfl) (by kernel_rfl) (by kernel_rfl) (by kernel_rfl) ?hQar46u32 ?hwar46u32 ?hyar46u32 (((((((((((((((((((((((((((hT4.more 4).more 5).more 6).more 7).more 8).more 9).more 10).more 11).more 12).more 13).more 14).more 15).more 16).more 17).more 18).more 19).more 20).more 21).more 22).more 23).more 24).more 25).more 26).more 27).more 28).more 29).more 30) ?_
                      case hiar46u32 => (simp only [List.getElem?_toArray, List.getElem?_cons_succ, List.getElem?_cons_zero]; rfl)
                      case hQar46u32 => exact fun _ _ _ h => h
                      case hwar46u32 => rfl
                      case hyar46u32 => (intro w; go_simp <;> with_reducible rfl)
                      try simp only [Act.put, List.setIfInBounds_toArray, List.set_cons_zero, List.set_cons_succ]
                      refine wpAnyC_take0 (i := 32) (oi := ?oiar46u33) (v := ?var46u33) ?hiar46u33 (by kernel_rfl) (by kernel_rfl) (by kernel_rfl) (by kernel_rfl) ?hQar46u33 ?hwar46u33 ?hyar46u33 ((((((((((((((((((((((((((((hT4.more 4).more 5).more 6).more 7).more 8).more 9).more 10).more 11).more 12).more 13).more 14).more 15).more 16).more 17).more 18).more 19).more 20).more 21).more 22).more 23).more 24).more 25).more 26).more 27).more 28).more 29).more 30).more 31) ?_
                      case hiar46u33 => (simp only [List.getElem?_toArray, List.getElem?_cons_succ, List.getElem?_cons_zero]; rfl)
                      case hQar46u33 => exact fun _ _ _ h => h
                      case hwar46u33 => rfl
                      case hyar46u33 => (intro w; go_simp <;> with_reducible rfl)
                      try simp only [Act.put, List.setIfInBounds_toArray, List.set_cons_zero, List.set_cons_succ]
                      refine wpAnyC_take0 (i := 33) (oi := ?oiar46u34) (v := ?var46u34) ?hiar46u34 (by kernel_rfl) (by kernel_rfl) (by kernel_rfl) (by kernel_rfl) ?hQar46u34 ?hwar46u34 ?hyar46u34 (((((((((((((((((((((((((((((hT4.more 4).more 5).more 6).more 7).more 8).more 9).more 10).more 11).more 12).more 13).more 14).more 15).more 16).more 17).more 18).more 19).more 20).more 21).more 22).more 23).more 24).more 25).more 26).more 27).more 28).more 29).more 30).more 31).more 32) ?_
                      case hiar46u34 => (simp only [List.getElem?_toArray, List.getElem?_cons_succ, List.getElem?_cons_zero]; rfl)
                      case hQar46u34 => exact fun _ _ _ h => h
                      case hwar46u34 => rfl
                      case hyar46u34 => (intro w; go_simp <;> with_reducible rfl)
                      try simp only [Act.put, List.setIfInBounds_toArray, List.set_cons_zero, List.set_cons_succ]
                      refine wpAnyC_take0 (i := 34) (oi := ?oiar46u35) (v := ?var46u35) ?hiar46u35 (by kernel_rfl) (by kernel_rfl) (by kernel_rfl) (by kernel_rfl) ?hQar46u35 ?hwar46u35 ?hyar46u35 ((((((((((((((((((((((((((((((hT4.more 4).more 5).more 6).more 7).more 8).more 9).more 10).more 11).more 12).more 13).more 14).more 15).more 16).more 17).more 18).more 19).more 20).more 21).more 22).more 23).more 24).more 25).more 26).more 27).more 28).more 29).more 30).more 31).more 32).more 33) ?_
                      case hiar46u35 => (simp only [List.getElem?_toArray, List.getElem?_cons_succ, List.getElem?_cons_zero]; rfl)
                      case hQar46u35 => exact fun _ _ _ h => h
                      case hwar46u35 => rfl
                      case hyar46u35 => (intro w; go_simp <;> with_reducible rfl)
                      try simp only [Act.put, List.setIfInBounds_toArray, List.set_cons_zero, List.set_cons_succ]
                      refine wpAnyC_take0 (i := 35) (oi := ?oiar46u36) (v := ?var46u36) ?hiar46u36 (by kernel_rfl) (by kernel_rfl) (by kernel_rfl) (by kernel_rfl) ?hQar46u36 ?hwar46u36 ?hyar46u36 (((((((((((((((((((((((((((((((hT4.more 4).more 5).more 6).more 7).more 8).more 9).more 10).more 11).more 12).more 13).more 14).more 15).more 16).more 17).more 18).more 19).more 20).more 21).more 22).more 23).more 24).more 25).more 26).more 27).more 28).more 29).more 30).more 31).more 32).more 33).more 34) ?_
                      case hiar46u36 => (simp only [List.getElem?_toArray, List.getElem?_cons_succ, List.getElem?_cons_zero]; rfl)
                      case hQar46u36 => exact fun _ _ _ h => h
                      case hwar46u36 => rfl
                      case hyar46u36 => (intro w; go_simp <;> with_reducible rfl)
                      try simp only [Act.put, List.setIfInBounds_toArray, List.set_cons_zero, List.set_cons_succ]
                      refine wpAnyC_take0 (i := 36) (oi := ?oiar46u37) (v := ?var46u37) ?hiar46u37 (by kernel_rfl) (by kernel_rfl) (by kernel_rfl) (by kernel_rfl) ?hQar46u37 ?hwar46u37 ?hyar46u37 ((((((((((((((((((((((((((((((((hT4.more 4).more 5).more 6).more 7).more 8).more 9).more 10).more 11).more 12).more 13).more 14).more 15).more 16).more 17).more 18).more 19).more 20).more 21).more 22).more 23).more 24).more 25).more 26).more 27).more 28).more 29).more 30).more 31).more 32).more 33).more 34).more 35) ?_
                      case hiar46u37 => (simp only [List.getElem?_toArray, List.getElem?_cons_succ, List.getElem?_cons_zero]; rfl)
                      case hQar46u37 => exact fun _ _ _ h => h
                      case hwar46u37 => rfl
                      case hyar46u37 => (intro w; go_simp <;> with_reducible rfl)
                      try simp only [Act.put, List.setIfInBounds_toArray, List.set_cons_zero, List.set_cons_succ]
                      refine wpAnyC_take (i := 37) (oi := ?oiar46u38) (v := ?var46u38) [37, 38, 39, 40] ?hiar46u38 (by kernel_rfl) (by kernel_rfl) (by kernel_rfl) (by kernel_rfl) ?hQar46u38 (.inl ⟨?hwar46u38, ?hyar46u38⟩) ((((((((((((((((((((((((((((((((((hT4.more 4).more 5).more 6).more 7).more 8).more 9).more 10).more 11).more 12).more 13).more 14).more 15).more 16).more 17).more 18).more 19).more 20).more 21).more 22).more 23).more 24).more 25).more 26).more 27).more 28).more 29).more 30).more 31).more 32).more 33).more 34).more 35).more 36).resolve_left (by decide)) ?_
                      case hiar46u38 => (simp only [List.getElem?_toArray, List.getElem?_cons_succ, List.getElem?_cons_zero]; rfl)
                      case hQar46u38 => exact fun _ _ _ h => h
                      case hwar46u38 => rfl
                      case hyar46u38 => (intro w hSw; (have t5 := (hSw.at_ HOX.out (by simp)).cell 5; simp at t5); go_simp <;> with_reducible rfl)
                      try simp only [Act.put, List.setIfInBounds_toArray, List.set_cons_zero, List.set_cons_succ]
                      have hSx := ((((((((((((((((((((((((((((((((((hT4.more 4).more 5).more 6).more 7).more 8).more 9).more 10).more 11).more 12).more 13).more 14).more 15).more 16).more 17).more 18).more 19).more 20).more 21).more 22).more 23).more 24).more 25).more 26).more 27).more 28).more 29).more 30).more 31).more 32).more 33).more 34).more 35).more 36).more 37).resolve_left (by decide)
                      refine wpAnyC_ready (rs := [38]) (by kernel_rfl) (by simp) ?_
                      refine ReadyC.cons (o := ?oar46u39) ?hoar46u39 ?hstepar46u39 ?_
                      case hoar46u39 => (simp only [List.getElem?_toArray, List.getElem?_cons_succ, List.getElem?_cons_zero]; rfl)
                      case hstepar46u39 =>
                        intro K hK
                        (go_simp; refine ((HQX.out.keep hSx).chained N'.length rfl HI'.out.sf HI'.out.f (by rw [HLN.out]; omega) id).mono ?_; rintro e w5 ⟨rfl, hf5⟩; dsimp only)
                        refine hK.out _ _ (.inr ?_) (fun hHeld => ?_)
                        · first | exact hSx.then_ hf5 | exact hSx.then_ hf4 | exact hSx
                        have hT39 := hHeld
                        clear hHeld
                        clear hK K
                        try simp only [Act.put, List.setIfInBounds_toArray, List.set_cons_zero, List.set_cons_succ]
                        refine wpAnyC_take0 (i := 39) (oi := ?oiar46u40) (v := ?var46u40) ?hiar46u40 (by kernel_rfl) (by kernel_rfl) (by kernel_rfl) (by kernel_rfl) ?hQar46u40 ?hwar46u40 ?hyar46u40 hT39 ?_
                        case hiar46u40 => (simp only [List.getElem?_toArray, List.getElem?_cons_succ, List.getElem?_cons_zero]; rfl)
                        case hQar46u40 => exact fun _ _ _ h => h
                        case hwar46u40 => rfl
                        case hyar46u40 => (intro w; go_simp <;> with_reducible rfl)
                        try simp only [Act.put, List.setIfInBounds_toArray, List.set_cons_zero, List.set_cons_succ]
                        have hSx := (hT39.more 39).resolve_left (by decide)
                        refine wpAnyC_ready (rs := [40]) (by kernel_rfl) (by simp) ?_
                        refine ReadyC.cons (o := ?oar46u41) ?hoar46u41 ?hstepar46u41 ?_
                        case hoar46u41 => (simp only [List.getElem?_toArray, List.getElem?_cons_succ, List.getElem?_cons_zero]; rfl)
                        case hstepar46u41 =>
                          intro K hK
                          go_simp
                          refine hK.out _ _ (.inl rfl) (fun hHeld => ?_)
                          have hT41 := hHeld
                          clear hHeld
                          clear hK K
                          try simp only [Act.put, List.setIfInBounds_toArray, List.set_cons_zero, List.set_cons_succ]
                          refine wpAnyC_done (by kernel_rfl) ?_ _
                          refine NoPanic.normal ?_
                          go_wp2_with fail
                          go_meet
                          exact ⟨rfl, hSx⟩
                        exact ReadyC.nil
                      exact ReadyC.nil
                    exact ReadyC.nil

              case rest =>
                obtain ⟨rfl, hf4⟩ := hcut
                have h12 := HQX.out.keep hf4
                rw [← HFE.out] at h12
                go_wp2_with fail
                go_roundg (gk - 1)
                case measure => have := HK.out; omega
                case rel => exact ⟨k + 1, L', M', W', A', c', N', B', d', by have := HK.out; omega, by go_num, by omega, rfl, rfl, HQ1.out.back_ h12, HI'.out⟩
      · have h1 : (40 : Int) ≤ k := by omega
        go_wp2_with fail
        go_ret
        exact ⟨rfl, HQ.out.fr⟩
    · have h1 : (l.length : Int) ≤ k := by omega
      go_wp2_with fail
      go_ret
      exact ⟨rfl, HQ.out.fr⟩

end Go.Proofs.Ytnbpnpodpnlamaa
