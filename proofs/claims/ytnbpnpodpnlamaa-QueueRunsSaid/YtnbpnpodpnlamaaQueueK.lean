/- The law QueueNobody walked. -/
import Derived.Test.YtnbpnpodpnlamaaQueueJ
import Derived.Laws.AppendOwnNone
namespace Go.Proofs.Ytnbpnpodpnlamaa
open Go.RowKit
set_option linter.unusedVariables false

/-- A queue that nobody made: none at all, or one that is all zero. -/
def Nob (w : World) (p : Option Addr) : Prop := p = none ∨ ∃ a, p = some ⟨a, 0, none⟩ ∧ At w a 83 #[.slice none 0 0, .slice none 0 0, .bool false]
theorem Nob.keep {w w' : World} {p : Option Addr} (h : Nob w p) (hf : Fr [] w w') : Nob w' p := by
  rcases h with h | ⟨a, h1, h2⟩
  · exact .inl h
  · exact .inr ⟨a, h1, hf.at_ h2 (by simp)⟩
theorem nob_put (w : World) (p : Option Addr) (h : Nob w p) (m : Im) :
    Calls Try.prog 23 #[.pointer p, m.val] w fun e w' => e = .returned (.tuple #[.int .i64 0, .bool false]) ∧ Fr [] w w' := by
  rcases h with rfl | ⟨a, rfl, h⟩
  · exact queue_put_nil w m
  · exact queue_put_bare w a h m
theorem nob_take (w : World) (p : Option Addr) (h : Nob w p) :
    Calls Try.prog 44 #[.pointer p] w fun e w' => e = .returned (.tuple #[Im.zero.val, .int .i64 0, .bool false]) ∧ Fr [] w w' := by
  rcases h with rfl | ⟨a, rfl, h⟩
  · exact queue_take_nil w
  · exact queue_take_none w a 0 none (h.cell 1) h.lt
theorem not_in0 (id : Int) : (decide (1 ≤ id) && decide (id ≤ ((0 : Nat) : Int))) = false := by
  by_cases h : 1 ≤ id
  · rw [decide_eq_false (show ¬ id ≤ ((0 : Nat) : Int) by omega), Bool.and_false]
  · rw [decide_eq_false h, Bool.false_and]
theorem nob_item (w : World) (p : Option Addr) (h : Nob w p) (id : Int) :
    Calls Try.prog 47 #[.pointer p, .int .i64 id] w fun e w' => e = .returned (.tuple #[Im.zero.val, .bool false]) ∧ Fr [] w w' := by
  rcases h with rfl | ⟨a, rfl, h⟩
  · exact queue_item_nil w id
  · exact queue_item_none w a 0 0 none (h.cell 0) h.lt (by decide) id (not_in0 id)
theorem nob_again (w : World) (p : Option Addr) (h : Nob w p) (id l : Int) :
    Calls Try.prog 46 #[.pointer p, .int .i64 id, .int .i64 l] w fun e w' => e = .returned (.bool false) ∧ w = w' := by
  rcases h with rfl | ⟨a, rfl, h⟩
  · exact queue_again_nil w id l
  · exact queue_again_none w a 0 0 none (h.cell 0) (by decide) id l (not_in0 id)
theorem nob_len (w : World) (p : Option Addr) (h : Nob w p) :
    Calls Try.prog 48 #[.pointer p] w fun e w' => e = .returned (.int .i64 0) ∧ w = w' := by
  rcases h with rfl | ⟨a, rfl, h⟩
  · exact queue_len_nil w
  · exact queue_len w a 0 0 none (h.cell 1)
theorem nob_chain (w : World) (p : Option Addr) (h : Nob w p) (id : Int) :
    Calls Try.prog 25 #[.pointer p, .int .i64 id] w fun e w' => e = .returned (.slice none 0 0) ∧ w = w' := by
  rcases h with rfl | ⟨a, rfl, h⟩
  · exact queue_chain_nil w id
  · exact queue_chain_none w a 0 0 none (h.cell 0) (by decide) id (not_in0 id)

/-- All of a cube, behind what there is. -/
theorem wpList_append_cube (w : World) {ops : Array Oper} {rest : List Oper} {o : Oper} {a : Act} {Q : Exit → Act → World → Prop} (hgd : o.guard = none) (s x : Operand)
    (ho : o.op = .call { callee := .builtin .append, args := #[s, x], argTypes := #[22, 22] }) (A : Option Addr) (c : Nat) (xs : List Int) (n : Nat) (hs : a.eval s = .slice A n c) (hn : n = xs.length) (hown : Ints w A c xs)
    (m : Im) (hc : Cub w m) (hx : a.eval x = .slice m.C m.n m.c) (hlen : xs.length + m.xs.length ≤ 17592186044416)
    (h : ∀ A' cap w', Ints w' A' cap (xs ++ m.xs) → Fr (blks A) w w' → (∀ k, k ∈ blks A' → k ∈ blks A ∨ k = w.heap.size) → w.heap.size ≤ w'.heap.size → wpList Try.prog ops Q rest (a.put o.dst (.slice A' (n + m.n) cap)) w') :
    wpList Try.prog ops Q (o :: rest) a w := by
  obtain ⟨l, C, n2, c2, s2, f, ys⟩ := m
  obtain ⟨h1, h2, h3, h4, h6⟩ := hc
  simp only at h1 h2 h3 h4 h6 hx hlen h
  subst h1 hn
  cases C with
  | none =>
    obtain ⟨e0, rfl⟩ := h4 rfl
    obtain rfl := List.eq_nil_of_length_eq_zero e0
    obtain ⟨i0, hi, _⟩ := info_parts infoInt
    refine wpList_append_own_none hgd s x 22 ho 0 3 i0 1 Try.underlying22 hi (.slice A xs.length c) xs.length (xs.map (Value.int .i64)) hs hown hx ?_
    have := h A c w (by simpa using hown) (Fr.refl _ _) (fun k hk => .inl hk) (Nat.le_refl _)
    simpa using this
  | some ad =>
    refine wpList_append_row w hgd s x 22 ho 3 (.int .i64 0) 1 8 Try.underlying22 infoInt rfl (by decide) A c xs.length hs (xs.map (Value.int .i64)) hown ad ys.length c2 hx (ys.map (Value.int .i64)) (by simp) (fun j u hu => ?_) (by simp [Value.oneCell']) (by unfold maxLen; omega) (by omega)
      fun A' cap w' q1 q2 q3 q4 q5 q6 => h A' cap w' ?_ q2 q3 q4
    · simp only [List.getElem?_map, Option.map_eq_some_iff] at hu
      obtain ⟨y, hy, rfl⟩ := hu
      have hj := (List.getElem?_eq_some_iff.1 hy).1
      obtain ⟨b2, o3, hbo, hc⟩ := h2 (by omega)
      cases hbo
      have := hc j hj
      rw [List.getElem!_eq_getElem?_getD, hy] at this
      rw [adr_add]
      exact this
    · unfold Ints
      rw [List.length_append, List.map_append]
      exact q1

theorem Ints.cube {w : World} {A : Option Addr} {c : Nat} {xs : List Int} (h : Ints w A c xs) (l f : Int) (n : Nat) (s : ByteArray) (hn : n = xs.length) (hs : xs.length ≤ 17592186044416) : Cube w ⟨l, A, n, c, s, f, xs⟩ := by
  refine ⟨hn, h.rd, h.lt, fun hA => ?_, fun a ha => ?_, hs⟩
  · rcases h.form with ⟨_, h2, h3⟩ | ⟨g, h2, _⟩
    · simp only
      exact ⟨by rw [hn, h3]; rfl, h2⟩
    · simp only at hA
      rw [hA] at h2; cases h2
  · rcases h.form with ⟨h2, _⟩ | ⟨g, h2, _⟩
    · simp only at ha
      rw [h2] at ha; cases ha
    · simp only at ha
      rw [h2] at ha; cases ha; rfl

set_option maxRecDepth 100000 in
set_option maxHeartbeats 4000000 in
theorem queue_nobody (w : World) (m : Im) (hm : Cub w m) (id : Int) :
    Calls Try.prog 10 #[m.val, .int .i64 id] w fun e w' => e = .returned (.bool true) ∧ Fr [] w w' := by
  obtain ⟨l, C, n, c, s, f, xs⟩ := m
  simp only [Im.val]
  obtain ⟨W0, hW0⟩ : ∃ W0, W0 = w.alloc (.cells #[.int .i64 l, .slice C n c, .string s, .int .i64 f] 38) := ⟨_, rfl⟩
  have hf0 : Fr [] w W0 := by rw [hW0]; exact (Fr.refl [] w).alloc _
  have hX0 : At W0 w.heap.size 38 #[.int .i64 l, .slice C n c, .string s, .int .i64 f] := by rw [hW0]; exact At.new w _ _
  have HF0 := Lib.hid hf0
  have HX0 := Lib.hid hX0
  have HC0 := Lib.hid (hm.keep hf0)
  clear hf0 hX0 hm
  go_enter Try.func10, Try.ntmps10
  go_upto_region 1 with fail
  rw [← hW0]
  clear hW0
  obtain ⟨bx, hbx⟩ : ∃ bx, w.heap.size = bx := ⟨_, rfl⟩
  rw [hbx] at HX0 ⊢
  clear hbx
  go_wp2_with fail
  refine (queue_alive W0).mono ?_
  rintro e w1 ⟨rfl, hf1⟩
  have HF1 := Lib.hid (HF0.out.then_ hf1)
  have HX1 := Lib.hid (hf1.at_ HX0.out (by simp))
  have HC1 := Lib.hid (HC0.out.keep hf1)
  clear hf1
  go_upto_region 5 with fail
  obtain ⟨V, hV⟩ : ∃ V, V = (w1.alloc (.cells #[.slice none 0 0, .slice none 0 0, .bool false] 83)).alloc (.cells #[.pointer none, .pointer (some ⟨w1.heap.size, 0, none⟩)] 33) := ⟨_, rfl⟩
  rw [← hV]
  have hf : Fr [] w1 V := by rw [hV]; exact ((Fr.refl [] w1).alloc _).alloc _
  have hN1 : Nob V (some ⟨w1.heap.size, 0, none⟩) := .inr ⟨_, rfl, by rw [hV]; exact (At.new w1 _ _).alloc _⟩
  have hSL : At V (w1.heap.size + 1) 33 #[.pointer none, .pointer (some ⟨w1.heap.size, 0, none⟩)] := by
    rw [hV]
    have := At.new (w1.alloc (.cells #[.slice none 0 0, .slice none 0 0, .bool false] 83)) 33 #[.pointer none, .pointer (some ⟨w1.heap.size, 0, none⟩)]
    simpa using this
  have HFV := Lib.hid (HF1.out.then_ hf)
  have HXV := Lib.hid (hf.at_ HX1.out (by simp))
  have HCV := Lib.hid (HC1.out.keep hf)
  have HN1 := Lib.hid hN1
  have HSL := Lib.hid hSL
  clear hV hf hN1 hSL HF1 HX1 HC1
  generalize w1.heap.size = q0 at HN1 HSL ⊢
  go_wp2_with fail
  go_loopg [7] 2 (fun gk i wr => ∃ k : Nat, k + gk = 2 ∧ i = .int .i64 k ∧ Fr [] V wr)
  case atStart => exact ⟨0, rfl, rfl, Fr.refl _ _⟩
  case round =>
    obtain ⟨k, hk, rfl, hf⟩ := hrel
    have HK := Lib.hid hk
    have HFR := Lib.hid hf
    have hk2 : k ≤ 2 := by omega
    clear hk hf
    by_cases hlt : k < 2
    · obtain ⟨p, hp, hnb⟩ : ∃ p, V.cell? ⟨q0 + 1, k, none⟩ = some (.pointer p) ∧ Nob V p := by
        rcases Nat.lt_or_ge k 1 with h | h
        · obtain rfl : k = 0 := by omega
          exact ⟨none, HSL.out.cell 0, .inl rfl⟩
        · obtain rfl : k = 1 := by omega
          exact ⟨_, HSL.out.cell 1, HN1.out⟩
      have HP : Hid (∀ w', Fr [] V w' → w'.cell? ⟨q0 + 1, k, none⟩ = some (.pointer p)) := fun w' h => (World.cell?_of_block (h.block _ HSL.out.lt (by simp))).trans hp
      have HNB := Lib.hid hnb
      have sk := HP.out _ HFR.out
      have hB := HFR.out.at_ HXV.out (by simp)
      have b0 := hB.cell 0
      have b1 := hB.cell 1
      have b2 := hB.cell 2
      have b3 := hB.cell 3
      simp at b0 b1 b2 b3
      clear hp hnb hB
      go_upto_region 8 with fail
      go_cut [8, 9] (fun s8 s9 wx => s8 = .int .i64 0 ∧ s9 = .bool false ∧ Fr [] V wx)
      case first =>
        go_region_with (go_at_call 23; refine (nob_put _ p (HNB.out.keep (HFR.out.drewN _)) ⟨l, C, n, c, s, f, xs⟩).mono ?_; rintro e w3 ⟨rfl, hf3⟩; have HF3 := Lib.hid ((HFR.out.drewN _).then_ hf3); clear hf3)
        all_goals (go_wp2_with fail; go_meet; exact ⟨rfl, rfl, HF3.out⟩)
      case rest =>
      obtain ⟨rfl, rfl, hf3⟩ := hcut
      have HF3 := Lib.hid hf3
      clear hf3 b0 b1 b2 b3
      have sk := HP.out _ HF3.out
      go_wp2_with fail
      refine (nob_take _ p (HNB.out.keep HF3.out)).mono ?_
      rintro e w4 ⟨rfl, hf4⟩
      have HF4 := Lib.hid (HF3.out.then_ hf4)
      have sk := HP.out _ HF4.out
      simp only [Im.zero, Im.val]
      clear hf4
      go_upto_region 10 with fail
      obtain ⟨X4, hX4⟩ : ∃ X4, X4 = w4.alloc (.cells #[.int .i64 0, .slice none 0 0, .string ⟨#[]⟩, .int .i64 0] 38) := ⟨_, rfl⟩
      rw [← hX4]
      have HFX4 : Hid (Fr [] V X4) := by rw [hX4]; exact HF4.out.alloc _
      have sk := HP.out _ HFX4.out
      clear hX4
      go_wp2_with fail
      refine (nob_item _ p (HNB.out.keep HFX4.out) id).mono ?_
      rintro e w5 ⟨rfl, hf5⟩
      have HF5 := Lib.hid (HFX4.out.then_ hf5)
      have sk := HP.out _ HF5.out
      simp only [Im.zero, Im.val]
      clear hf5
      go_upto_region 11 with fail
      obtain ⟨X5, hX5⟩ : ∃ X5, X5 = w5.alloc (.cells #[.int .i64 0, .slice none 0 0, .string ⟨#[]⟩, .int .i64 0] 38) := ⟨_, rfl⟩
      rw [← hX5]
      have HFX5 : Hid (Fr [] V X5) := by rw [hX5]; exact HF5.out.alloc _
      have sk := HP.out _ HFX5.out
      clear hX5
      go_wp2_with fail
      refine (nob_again _ p (HNB.out.keep HFX5.out) id 1).mono ?_
      rintro e w6 ⟨rfl, rfl⟩
      go_wp2_with fail
      refine (nob_len _ p (HNB.out.keep HFX5.out)).mono ?_
      rintro e w6 ⟨rfl, rfl⟩
      go_wp2_with fail
      refine (nob_chain _ p (HNB.out.keep HFX5.out) id).mono ?_
      rintro e w6 ⟨rfl, rfl⟩
      go_wp2_with fail
      go_roundg (gk - 1)
      case measure => have := HK.out; omega
      case rel => exact ⟨k + 1, by have := HK.out; omega, by go_num, HFX5.out⟩
    · have hke : k = 2 := by omega
      subst hke
      clear hlt hk2
      go_wp2_with fail
      refine (queue_new _).mono ?_
      rintro e w3 ⟨L, rfl, hq, hn, hf⟩
      have HQ := Lib.hid hq
      have HN := Lib.hid hn
      have HF3 := Lib.hid (HFR.out.then_ hf)
      clear hq hn hf
      have hB := HF3.out.at_ HXV.out (by simp)
      have b1 := hB.cell 1
      simp at b1
      have hbl := hB.lt
      have b1' := ((HF3.out.alloc (.cells #[] 3)).at_ HXV.out (by simp)).cell 1
      simp at b1'
      clear hB
      go_wp2_with (at_builtin; refine wpList_append_cube _ rfl _ _ rfl (some ⟨w3.heap.size, 0, none⟩) 0 [] 0 rfl rfl (World.ownsRow_lit w3 #[] 0 (Nat.zero_le _) (by simp [maxLen]) (by simp)) ⟨l, C, n, c, s, f, xs⟩ ((HCV.out.keep HF3.out).keep ((Fr.refl [] w3).alloc _)) rfl (by have := HCV.out.small; simpa using this) ?_; intro A2 cap w4 hi2 hf2 hg2 hs2; have HI := Lib.hid hi2; have HF4 := Lib.hid hf2; have HG2 := Lib.hid hg2; clear hi2 hf2 hg2 hs2)
      have hI : Ints w4 A2 cap xs := by simpa using HI.out
      have hn : n = xs.length := HCV.out.n
      have hsm : xs.length ≤ 17592186044416 := HCV.out.small
      have f4 : Fr [] w3 w4 := ((Fr.refl [] w3).alloc _).trans HF4.out (fun k hk => .inr (by simp [blks] at hk; omega))
      have hA2 : ∀ k, k ∈ blks A2 → w3.heap.size ≤ k := fun k hk => by
        rcases HG2.out k hk with h | h
        · simp [blks] at h; omega
        · simp at h; omega
      obtain ⟨Wp, hWp⟩ : ∃ Wp, Wp = w4.alloc (.cells #[.int .i64 1, .slice A2 n cap, .string ⟨#[]⟩, .int .i64 0] 38) := ⟨_, rfl⟩
      rw [← hWp]
      have hfp : Fr [] w4 Wp := by rw [hWp]; exact (Fr.refl [] w4).alloc _
      have hIp : Ints Wp A2 cap xs := hI.fr hfp (by simp)
      have hOW : At Wp w4.heap.size 38 #[.int .i64 1, .slice A2 n cap, .string ⟨#[]⟩, .int .i64 0] := by rw [hWp]; exact At.new _ _ _
      have hqp : QAt Wp L [] [] := HQ.out.keep (f4.then_ hfp)
      have hows : ∀ k, k ∈ blks A2 → k < w4.heap.size := hI.lt
      have hlp : ∀ k, k ∈ L.fp → k < w3.heap.size := HQ.out.lt
      have fvp : Fr [] V Wp := HF3.out.then_ (f4.then_ hfp)
      have hsp : w4.heap.size < Wp.heap.size := hOW.lt
      refine (queue_put_yes Wp L [] [] hqp ⟨1, A2, n, cap, ⟨#[]⟩, 0, xs⟩ (hIp.cube 1 0 n _ hn hsm).cub (by simp) (.inl rfl) (by simp) (by simp)).mono ?_
      rintro e w5 ⟨rfl, L2, C', c', hq5, hx5, hc5, hf5⟩
      have hI5 : Ints w5 A2 cap xs := hIp.fr hf5 (fun k hk hk' => by have := hA2 k hk; have := hlp k hk'; omega)
      have hOW5 := hf5.at_ hOW (fun hk => by have h1 := hlp _ hk; have h2 := f4.size; omega)
      have hL2 : ∀ k, k ∈ L2.fp → k ∉ blks A2 := fun k hk hk' => by
        rcases hx5.2 k hk with h | h
        · have := hlp k h; have := hA2 k hk'; omega
        · have := hows k hk'; omega
      have hC' : ∀ k, k ∈ blks C' → k ∉ blks A2 := fun k hk hk' => by
        have := hc5 k hk; have := hows k hk'; omega
      have fv5 : Fr [] V w5 := fvp.trans hf5 (fun k hk => .inr (Nat.le_trans HFR.out.size (HN.out k hk)))
      have HQ5 : Hid (QAt w5 L2 [⟨1, C', n, c', ⟨#[]⟩, 0, xs⟩] [1]) := by
        show QAt _ _ _ _
        simpa using hq5
      have HI5 := Lib.hid hI5
      have HOW5 := Lib.hid hOW5
      have HL2 := Lib.hid hL2
      have HC' := Lib.hid hC'
      have HFV5 := Lib.hid fv5
      have HNO : Hid (w4.heap.size ∉ blks A2) := fun hk => by have := hows _ hk; omega
      have HA2 : Hid (∀ k, k ∈ blks A2 → V.heap.size ≤ k) := fun k hk => Nat.le_trans HF3.out.size (hA2 k hk)
      have a2 : L2.a = L.a := hx5.1
      have HNX := Lib.hid hn
      have hnb : n ≤ 17592186044416 := by omega
      rw [← a2]
      clear a2 hI hn f4 hA2 hWp hfp hIp hOW hqp hows hlp fvp hsp hq5 hx5 hc5 hf5 hI5 hOW5 hL2 hC' fv5 HQ HN b1 b1' hbl
      obtain ⟨ow, how⟩ : ∃ ow, w4.heap.size = ow := ⟨_, rfl⟩
      rw [how] at HOW5 HNO ⊢
      clear how
      go_wp2_with fail
      go_loopg [17] n (fun gk i wr => ∃ (k : Nat) (ys : List Int), k + gk = n ∧ i = .int .i64 k ∧ ys.length = n ∧ Ints wr A2 cap ys ∧ Fr (blks A2) w5 wr)
      case atStart => exact ⟨0, xs, by omega, rfl, HNX.out.symm, HI5.out, Fr.refl _ _⟩
      case round =>
        obtain ⟨k, ys, hk, rfl, hy, hI, hf⟩ := hrel
        have HK := Lib.hid hk
        have HY := Lib.hid hy
        have HI6 := Lib.hid hI
        have HF6 := Lib.hid hf
        have hk2 : k ≤ n := by omega
        have hO6 := hf.at_ HOW5.out HNO.out
        have o1 := hO6.cell 1
        simp at o1
        clear hk hy hI hf hO6
        by_cases hlt : k < n
        · obtain ⟨g, rfl, hgl⟩ := HI6.out.pos (i := k) (by rw [HY.out]; exact hlt)
          have ck := HI6.out.cell (i := k) (by rw [HY.out]; exact hlt)
          have fk := HI6.out.frozen k
          obtain ⟨y, hy⟩ : ∃ y, ys[k]! = y := ⟨_, rfl⟩
          rw [hy] at ck
          clear hy
          go_wp2_with fail
          go_roundg (n - (k + 1))
          case measure => have := HK.out; omega
          case rel => exact ⟨k + 1, ys.set k 77, by omega, by go_num, by rw [List.length_set]; exact HY.out, HI6.out.set_ k 77, HF6.out.setCell (.inl (by simp [blks])) _⟩
        · have hq6 := HQ5.out.fr HF6.out HL2.out (fun m hm => by
            simp only [List.mem_singleton] at hm
            subst hm
            exact HC'.out)
          have f6 : Fr [] V wr := HFV5.out.trans HF6.out (fun k hk => .inr (HA2.out k hk))
          have HQ6 := Lib.hid hq6
          have HFV6 := Lib.hid f6
          clear hq6 f6
          go_wp2_with fail
          refine (queue_item_yes wr L2 _ _ HQ6.out 1 0 rfl (by simp) ⟨1, C', n, c', ⟨#[]⟩, 0, xs⟩ rfl).mono ?_
          rintro e w7 ⟨C2, c2, rfl, hc7, hn7, hf7⟩
          simp only [Im.val] at hc7 ⊢
          go_upto_region 21 with fail
          obtain ⟨X, hX⟩ : ∃ X, X = w7.alloc (.cells #[.int .i64 1, .slice C2 n c2, .string ⟨#[]⟩, .int .i64 0] 38) := ⟨_, rfl⟩
          rw [← hX]
          have hfx : Fr [] w7 X := by rw [hX]; exact (Fr.refl [] w7).alloc _
          have hO : At X w7.heap.size 38 #[.int .i64 1, .slice C2 n c2, .string ⟨#[]⟩, .int .i64 0] := by rw [hX]; exact At.new _ _ _
          have y1 := hO.cell 1
          have hfv : Fr [] V X := HFV6.out.then_ (hf7.then_ hfx)
          have x1 := (hfv.at_ HXV.out (by simp)).cell 1
          simp at y1 x1
          have HCX := Lib.hid (HCV.out.keep hfv)
          have HCY := Lib.hid (hc7.keep hfx)
          have HFX := Lib.hid (HFV.out.then_ hfv)
          clear hX hfx hO hfv hc7 hn7 hf7
          go_wp2_with fail
          refine (sameInts_is X C2 C c2 c n xs HCX.out.n.symm HCY.out.rd HCX.out.rd (by have := HCX.out.small; have := HCX.out.n; simp only at *; omega)).mono ?_
          rintro e w8 ⟨rfl, z, rfl⟩
          go_wp2_with fail
          go_ret
          exact ⟨rfl, HFX.out.drewN z⟩

end Go.Proofs.Ytnbpnpodpnlamaa
