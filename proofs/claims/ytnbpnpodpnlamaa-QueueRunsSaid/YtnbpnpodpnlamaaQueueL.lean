/- The law QueueChains walked. -/
import Derived.Test.YtnbpnpodpnlamaaQueueK
namespace Go.Proofs.Ytnbpnpodpnlamaa
open Go.RowKit
set_option linter.unusedVariables false

/-- All texts of a row, behind what there is. -/
theorem wpList_append_strs (w : World) {ops : Array Oper} {rest : List Oper} {o : Oper} {a : Act} {Q : Exit → Act → World → Prop} (hgd : o.guard = none) (s x : Operand)
    (ho : o.op = .call { callee := .builtin .append, args := #[s, x], argTypes := #[32, 32] }) (A : Option Addr) (c : Nat) (ss : List ByteArray) (n : Nat) (hs : a.eval s = .slice A n c) (hn : n = ss.length) (hown : Strs w A c ss)
    (B : Option Addr) (d : Nat) (tt : List ByteArray) (k : Nat) (hx : a.eval x = .slice B k d) (hk : k = tt.length) (hsrc : Strs w B d tt) (hlen : ss.length + tt.length ≤ 2097152)
    (h : ∀ A' cap w', Strs w' A' cap (ss ++ tt) → Fr (blks A) w w' → (∀ k, k ∈ blks A' → k ∈ blks A ∨ k = w.heap.size) → w.heap.size ≤ w'.heap.size → wpList Try.prog ops Q rest (a.put o.dst (.slice A' (n + k) cap)) w') :
    wpList Try.prog ops Q (o :: rest) a w := by
  subst hn hk
  rcases hsrc.form with ⟨rfl, rfl, rfl⟩ | ⟨g, rfl, hg, _⟩
  · obtain ⟨i0, hi, _⟩ := info_parts infoString
    refine wpList_append_own_none hgd s x 32 ho 0 9 i0 1 Try.underlying32 hi (.slice A ss.length c) ss.length (ss.map Value.string) hs hown hx ?_
    have := h A c w (by simpa using hown) (Fr.refl _ _) (fun k hk => .inl hk) (Nat.le_refl _)
    simpa using this
  · refine wpList_append_row w hgd s x 32 ho 9 (.string ⟨#[]⟩) 1 16 Try.underlying32 infoString rfl (by decide) A c ss.length hs (ss.map Value.string) hown ⟨g, 0, none⟩ tt.length d hx (tt.map Value.string) (by simp) (fun j u hu => ?_) (by simp [Value.oneCell']) (by unfold maxLen; omega) (by omega)
      fun A' cap w' q1 q2 q3 q4 q5 q6 => h A' cap w' ?_ q2 q3 q4
    · simp only [List.getElem?_map, Option.map_eq_some_iff] at hu
      obtain ⟨y, hy, rfl⟩ := hu
      obtain ⟨hj, hy⟩ := List.getElem?_eq_some_iff.1 hy
      rw [adr_add, Nat.zero_add, hsrc.cell hj, hy]
    · unfold Strs
      rw [List.length_append, List.map_append]
      exact q1

theorem chain_all (M : List Im) (ss : List ByteArray) (h : ∀ i : Nat, i < M.length → (M[i]!).f = i ∧ some (M[i]!).s = ss[i]?) : ∀ k : Nat, k ≤ M.length → chainL (sf M) k (k : Int) = (ss.take k).reverse := by
  intro k
  induction k with
  | zero => intro _; rfl
  | succ k ih =>
    intro hk
    obtain ⟨h1, h2⟩ := h k hk
    rw [chainL_in M (k + 1) k hk (by omega) _ (by omega), h1, Nat.add_sub_cancel, ih (by omega), List.take_add_one, ← h2]
    simp

theorem Cub.bare2 (w : World) (l f : Int) (s : ByteArray) : Cub w ⟨l, none, 0, 0, s, f, []⟩ := ⟨rfl, fun h => absurd h (Nat.lt_irrefl _), by simp [blks], fun _ => ⟨rfl, rfl⟩, by simp⟩

set_option maxRecDepth 100000 in
set_option maxHeartbeats 4000000 in
theorem queue_chains (w : World) (A : Option Addr) (c : Nat) (ss : List ByteArray) (h : RdS w A ss) (hl : ss.length ≤ 1048576) :
    Calls Try.prog 4 #[.slice A ss.length c] w fun e w' => e = .returned (.bool true) ∧ Fr [] w w' := by
  have HH := Lib.hid h
  clear h
  go_enter Try.func4, Try.ntmps4
  go_wp2_with fail
  refine (queue_alive _).mono ?_
  rintro e w1 ⟨rfl, hf1⟩
  have HF1 := Lib.hid hf1
  clear hf1
  go_wp2_with fail
  refine (queue_new _).mono ?_
  rintro e w2 ⟨L0, rfl, hq, hn, hf⟩
  have HQ0 := Lib.hid hq
  have HN0 : Hid (∀ k, k ∈ L0.fp → w.heap.size ≤ k) := fun k hk => Nat.le_trans HF1.out.size (hn k hk)
  have HF2 := Lib.hid (HF1.out.then_ hf)
  clear hq hn hf
  obtain ⟨a0, ha0⟩ : ∃ a0, L0.a = a0 := ⟨_, rfl⟩
  rw [ha0]
  have HA0 := Lib.hid ha0
  clear ha0
  go_wp2_with fail
  go_loopg [4, 5] ss.length (fun gk sv iv wr => ∃ (k : Nat) (L : Ql) (M : List Im) (W : List Int) (B : Option Addr) (cb : Nat) (T : List ByteArray), k + gk = ss.length ∧ iv = .int .i64 k ∧ sv = .slice B k cb ∧ L.a = a0 ∧ M.length = k ∧ W.length = k ∧
    (∀ i : Nat, i < M.length → (M[i]!).f = i ∧ some (M[i]!).s = ss[i]?) ∧ T = (ss.take k).reverse ∧ QAt wr L M W ∧ (∀ x, x ∈ L.fp → w.heap.size ≤ x) ∧ Strs wr B cb T ∧ (∀ x, x ∈ blks B → w.heap.size ≤ x ∧ x ∉ L.fp) ∧ Fr [] w wr)
  case atStart => exact ⟨0, L0, [], [], none, 0, [], by omega, rfl, rfl, HA0.out, rfl, rfl, fun i hi => absurd hi (Nat.not_lt_zero _), rfl, HQ0.out, HN0.out, Strs.nil _, by simp [blks], HF2.out⟩
  case round =>
    clear HQ0 HN0 HF1 HF2 HA0
    obtain ⟨k, L, M, W, B, cb, T, hk, rfl, rfl, ha, hM, hW, hi, hT, hq, hn, hB, hbn, hf⟩ := hrel
    subst ha
    have HK := Lib.hid hk
    have HM := Lib.hid hM
    have HW := Lib.hid hW
    have HI := Lib.hid hi
    have HT := Lib.hid hT
    have HQ := Lib.hid hq
    have HN := Lib.hid hn
    have HB := Lib.hid hB
    have HBN := Lib.hid hbn
    have HF := Lib.hid hf
    have HTL : Hid (T.length = k) := by show _ = _; rw [hT, List.length_reverse, List.length_take]; omega
    have hk2 : k ≤ ss.length := by omega
    clear hk hM hW hi hT hq hn hB hbn hf
    by_cases hlt : k < ss.length
    · obtain ⟨b, o, rfl, hb, hx⟩ := HH.out (by omega)
      have cx := (World.cell?_of_block (HF.out.block b hb (by simp))).trans (hx k hlt)
      have hsk : ss[k]? = some ss[k] := List.getElem?_eq_getElem hlt
      obtain ⟨x, hxe⟩ : ∃ x, ss[k] = x := ⟨_, rfl⟩
      rw [hxe] at cx hsk
      have HSK := Lib.hid hsk
      clear hx hxe hsk
      go_wp2_with fail
      refine (queue_put_yes wr L M W HQ.out ⟨0, none, 0, 0, x, k, []⟩ (Cub.bare2 _ _ _ _) (by simp) ?hcond (by rw [HM.out]; omega) (by rw [HW.out]; omega)).mono ?_
      case hcond =>
        by_cases h0 : k = 0
        · exact .inl (by simp [h0])
        · refine .inr ⟨by simp only; omega, ?_⟩
          have h1 : (1 : Int) ≤ k := by omega
          have h2 : (k : Int) ≤ M.length := by rw [HM.out]; omega
          simp only [decide_eq_true h1, decide_eq_true h2, Bool.and_true]
      rintro e w3 ⟨rfl, L3, C3, c3, hq3, hx3, hc3, hf3⟩
      rw [HM.out] at hq3 ⊢
      have hsz := HF.out.size
      have HQ3 := Lib.hid hq3
      have HN3 : Hid (∀ x, x ∈ L3.fp → w.heap.size ≤ x) := fun y hy => (hx3.2 y hy).elim (HN.out y) fun h => Nat.le_trans hsz h
      have HB3 := Lib.hid (HB.out.fr hf3 (fun y hy => (HBN.out y hy).2))
      have HBN3 : Hid (∀ x, x ∈ blks B → w.heap.size ≤ x ∧ x ∉ L3.fp) := fun y hy => ⟨(HBN.out y hy).1, fun hk => by
        rcases hx3.2 y hk with h | h
        · exact (HBN.out y hy).2 h
        · have := HB.out.lt y hy; omega⟩
      have HF3 : Hid (Fr [] w w3) := HF.out.trans hf3 (fun y hy => .inr (HN.out y hy))
      have cx3 := (World.cell?_of_block (HF3.out.block b hb (by simp))).trans ((World.cell?_of_block (HF.out.block b hb (by simp))).symm.trans cx)
      have a3 : L3.a = L.a := hx3.1
      rw [← a3]
      have HA3 := Lib.hid a3
      clear a3 hq3 hx3 hc3 hf3 cx HB HBN
      have hkk : (((k + 1 : Nat) : Int) != ((k : Int) + 1)) = false := by simp
      go_wp2_with (at_builtin; first | (refine wpList_append_str _ rfl _ _ rfl none 0 [] _ rfl rfl (Strs.nil _) w3.heap.size 1 rfl x (At.new _ _ _) (by simp) ?_; intro g2 cap w4 hi2 hf2 hg2 hs2; have HI4 := Lib.hid hi2; have hf24 := ((Fr.refl [] w3).alloc (.cells #[.string x] 9)).trans hf2 (fun y hy => by simp [blks] at hy); have HF4 := Lib.hid hf24; have HG4 := Lib.hid hg2; clear hi2 hf2 hg2 hs2 hf24) | (refine wpList_append_strs _ rfl _ _ rfl (some ⟨g2, 0, none⟩) cap [x] _ rfl rfl HI4.out B cb T k rfl HTL.out.symm (HB3.out.fr HF4.out (by simp)) (by rw [HTL.out]; simp; omega) ?_; intro A5 cap5 w5 hi2 hf2 hg2 hs2; have HI5 := Lib.hid hi2; have HF5 := Lib.hid hf2; have HG5 := Lib.hid hg2; clear hi2 hf2 hg2 hs2))
      rw [Nat.add_comm 1 k]
      have f35 : Fr [] w3 w5 := HF4.out.trans HF5.out (fun y hy => .inr (by
        simp only [blks, Option.map_some, Option.toList_some, List.mem_singleton] at hy
        rcases HG4.out with h | h
        · simp [blks] at h
        · rw [hy, h]; simp))
      have hA5 : ∀ y, y ∈ blks A5 → w3.heap.size ≤ y := fun y hy => by
        rcases HG5.out y hy with h | h
        · simp only [blks, Option.map_some, Option.toList_some, List.mem_singleton] at h
          rcases HG4.out with h1 | h1
          · simp [blks] at h1
          · rw [h, h1]; simp
        · rw [h]; exact HF4.out.size
      obtain ⟨m', hm'⟩ : ∃ m' : Im, m' = ⟨0, C3, 0, c3, x, k, []⟩ := ⟨_, rfl⟩
      have HQ5 : Hid (QAt w5 L3 (M ++ [m']) (W ++ [((k + 1 : Nat) : Int)])) := by rw [hm']; exact HQ3.out.keep f35
      have hii : ∀ i : Nat, i < (M ++ [m']).length → ((M ++ [m'])[i]!).f = i ∧ some ((M ++ [m'])[i]!).s = ss[i]? := by
        intro i hi
        rw [List.length_append, List.length_singleton, HM.out] at hi
        by_cases h : i < k
        · have h2 := HI.out i (by rw [HM.out]; exact h)
          have e : (M ++ [m'])[i]! = M[i]! := by
            have hM := HM.out
            simp [List.getElem!_eq_getElem?_getD, List.getElem?_append_left (show i < M.length by omega)]
          rw [e]; exact h2
        · obtain rfl : i = k := by omega
          have e : (M ++ [m'])[i]! = m' := by
            have hM := HM.out
            simp [hM]
          rw [e, hm']
          exact ⟨rfl, HSK.out.symm⟩
      have hml : (M ++ [m']).length = k + 1 := by rw [List.length_append, List.length_singleton, HM.out]
      obtain ⟨T', hT'⟩ : ∃ T', T' = (ss.take (k + 1)).reverse := ⟨_, rfl⟩
      have hTT : [] ++ [x] ++ T = T' := by
        rw [hT', HT.out, List.take_add_one, HSK.out]
        simp
      have hch : chainL (sf (M ++ [m'])) (((k : Int) + 1).toNat) ((k : Int) + 1) = T' := by
        have := chain_all _ _ hii (k + 1) (by omega)
        rw [← hT'] at this
        have e : ((k : Int) + 1).toNat = k + 1 := by omega
        rw [e, show ((k : Int) + 1) = ((k + 1 : Nat) : Int) by omega]
        exact this
      have hT'l : T'.length = k + 1 := by rw [hT', List.length_reverse, List.length_take]; omega
      have HII := Lib.hid hii
      have HML := Lib.hid hml
      have HCH := Lib.hid hch
      have HTL' := Lib.hid hT'l
      have HT' := Lib.hid hT'
      have HS5 : Hid (Strs w5 A5 cap5 T') := by show Strs _ _ _ _; rw [← hTT]; exact HI5.out
      have HBN5 : Hid (∀ y, y ∈ blks A5 → w.heap.size ≤ y ∧ y ∉ L3.fp) := fun y hy => ⟨Nat.le_trans HF3.out.size (hA5 y hy), fun hk => by have := HQ3.out.lt y hk; have := hA5 y hy; omega⟩
      have HF5' := Lib.hid (HF3.out.then_ f35)
      clear hm' hii hml hch hT'l hT' hTT f35 hA5 HI5 HF5 HG5 HI4 HF4 HG4 HQ3 HB3 HBN3
      refine (queue_chain w5 L3 _ _ HQ5.out (fun i hi => by rw [(HII.out i hi).1]; exact Int.le_refl _) (by rw [HML.out]; omega) _ T' HCH.out (k + 1) HTL'.out).mono ?_
      rintro e w6 ⟨A6, c6, rfl, hs6, -, hf6⟩
      have HS6 := Lib.hid hs6
      have HF6 := Lib.hid hf6
      clear hs6 hf6
      go_wp2_with fail
      refine (texts_same w6 A6 A5 c6 cap5 (k + 1) T' HTL'.out HS6.out.rd (HS5.out.fr HF6.out (by simp)).rd (by omega)).mono ?_
      rintro e w7 ⟨rfl, z, rfl⟩
      go_wp2_with fail
      rw [HA3.out]
      go_roundg (gk - 1)
      case measure => have := HK.out; omega
      case rel =>
        have f57 : Fr [] w5 (w6.drewN z) := HF6.out.drewN z
        exact ⟨k + 1, L3, M ++ [m'], W ++ [((k + 1 : Nat) : Int)], A5, cap5, T', by have := HK.out; omega, by go_num, rfl, HA3.out, HML.out, by rw [List.length_append, List.length_singleton, HW.out], HII.out, HT'.out, HQ5.out.keep f57, HN3.out, HS5.out.fr f57 (by simp), HBN5.out, HF5'.out.then_ f57⟩
    · have hke : k = ss.length := by omega
      have HFI : Hid (∀ i : Nat, i < M.length → (M[i]!).f ≤ i) := fun i hi => by rw [(HI.out i hi).1]; exact Int.le_refl _
      have HML : Hid (M.length ≤ 2097152) := by show _ ≤ _; rw [HM.out]; omega
      have HE : Hid (chainL (sf M) (((ss.length : Int) + 1).toNat) ((ss.length : Int) + 1) = []) := chainL_out _ _ _ (by
        unfold sf
        rw [List.length_map, HM.out]
        omega)
      clear hke
      go_wp2_with fail
      refine (queue_chain wr L M W HQ.out HFI.out HML.out 0 [] rfl 0 rfl).mono ?_
      rintro e w3 ⟨A3, c3, rfl, -, -, hf3⟩
      have HQ3 := Lib.hid (HQ.out.keep hf3)
      have HF3 := Lib.hid (HF.out.then_ hf3)
      clear hf3
      go_wp2_with fail
      refine (queue_chain w3 L M W HQ3.out HFI.out HML.out _ [] HE.out 0 rfl).mono ?_
      rintro e w4 ⟨A4, c4, rfl, -, -, hf4⟩
      have HF4 := Lib.hid (HF3.out.then_ hf4)
      clear hf4
      go_wp2_with fail
      go_ret
      exact ⟨rfl, HF4.out⟩

end Go.Proofs.Ytnbpnpodpnlamaa
