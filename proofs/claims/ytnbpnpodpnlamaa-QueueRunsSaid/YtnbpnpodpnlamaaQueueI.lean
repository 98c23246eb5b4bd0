/- Rows of texts; the queue's Chain, and Texts and SameInts, walked. -/
import Derived.Test.YtnbpnpodpnlamaaQueueH
namespace Go.Proofs.Ytnbpnpodpnlamaa
open Go.RowKit
set_option linter.unusedVariables false

instance : Inhabited ByteArray := ⟨⟨#[]⟩⟩
theorem infoString : (Try.prog.info? 9).map (fun i => (i.zero, i.size, i.bytes)) = some (some (.string ⟨#[]⟩), 1, 16) := by kernel_rfl

/-- The slice value '.slice A n c' of texts holds ss, in a row of its own. -/
def Strs (w : World) (A : Option Addr) (c : Nat) (ss : List ByteArray) : Prop := w.ownsRow 0 9 1 (.slice A ss.length c) ss.length (ss.map Value.string)
/-- The slice value '.slice A n c' of texts reads as ss. -/
def RdS (w : World) (A : Option Addr) (ss : List ByteArray) : Prop := 0 < ss.length → ∃ b o, A = some ⟨b, o, none⟩ ∧ b < w.heap.size ∧ ∀ j : Nat, (hj : j < ss.length) → w.cell? ⟨b, o + j, none⟩ = some (.string ss[j])

namespace Strs
variable {w w' : World} {A : Option Addr} {c : Nat} {ss : List ByteArray}
theorem form (h : Strs w A c ss) : (A = none ∧ c = 0 ∧ ss = []) ∨ ∃ g, A = some ⟨g, 0, none⟩ ∧ g < w.heap.size ∧ ss.length ≤ c ∧ c ≤ maxLen := by
  rcases h.2 with ⟨h1, h2⟩ | ⟨g, cap, cur, hv, _, hg, hn, hm, _⟩
  · simp only [Value.slice.injEq] at h1
    exact .inl ⟨h1.1, h1.2.2, List.eq_nil_of_length_eq_zero h2⟩
  · simp only [Value.slice.injEq, true_and] at hv
    obtain ⟨rfl, rfl⟩ := hv
    exact .inr ⟨g, rfl, At.lt (t := 9) hg, hn, hm⟩
theorem pos {i : Nat} (h : Strs w A c ss) (hi : i < ss.length) : ∃ g, A = some ⟨g, 0, none⟩ ∧ g < w.heap.size := by
  rcases h.form with ⟨_, _, rfl⟩ | ⟨g, h1, h2, _⟩
  · simp at hi
  · exact ⟨g, h1, h2⟩
theorem cell {g : Nat} (h : Strs w (some ⟨g, 0, none⟩) c ss) {i : Nat} (hi : i < ss.length) : w.cell? ⟨g, i, none⟩ = some (.string ss[i]) := by
  rw [World.ownsRow.cellAt h _ (by omega)]
  simp [hi]
theorem own_blk : ∀ k, (Value.slice A ss.length c).ownBlock = some k → k ∈ blks A := fun k hk => (blks_own k).1 hk
theorem fr {S : List Nat} (h : Strs w A c ss) (hf : Fr S w w') (hd : ∀ k, k ∈ blks A → k ∉ S) : Strs w' A c ss := hf.own h (fun k hk => hd k (own_blk k hk))
theorem drewN (h : Strs w A c ss) (n : Nat) : Strs (w.drewN n) A c ss := h
theorem alloc (h : Strs w A c ss) (o : Obj) : Strs (w.alloc o) A c ss := World.ownsRow.alloc h o
theorem nil (w : World) : Strs w none 0 [] := World.ownsRow_nil w 0 _ 1
theorem lt (h : Strs w A c ss) : ∀ k, k ∈ blks A → k < w.heap.size := by
  rcases h.form with ⟨rfl, _⟩ | ⟨g, rfl, h1, _⟩
  · simp [blks]
  · simpa [blks] using h1
theorem rd (h : Strs w A c ss) : RdS w A ss := by
  intro h0
  obtain ⟨g, rfl, hg⟩ := h.pos (i := 0) h0
  exact ⟨g, 0, rfl, hg, fun j hj => by rw [Nat.zero_add]; exact h.cell hj⟩
end Strs
theorem RdS.keep {w w' : World} {A : Option Addr} {ss : List ByteArray} (h : RdS w A ss) (hf : Fr [] w w') : RdS w' A ss := by
  intro h0
  obtain ⟨b, o, hA, hb, hx⟩ := h h0
  exact ⟨b, o, hA, Nat.lt_of_lt_of_le hb hf.size, fun j hj => (World.cell?_of_block (hf.block b hb (by simp))).trans (hx j hj)⟩

/-- One text more. -/
theorem wpList_append_str (w : World) {ops : Array Oper} {rest : List Oper} {o : Oper} {a : Act} {Q : Exit → Act → World → Prop} (hgd : o.guard = none) (s x : Operand)
    (ho : o.op = .call { callee := .builtin .append, args := #[s, x], argTypes := #[32, 32] }) (A : Option Addr) (c : Nat) (ss : List ByteArray) (n : Nat) (hs : a.eval s = .slice A n c) (hn : n = ss.length) (hown : Strs w A c ss)
    (g0 : Nat) (c' : Nat) (hx : a.eval x = .slice (some ⟨g0, 0, none⟩) 1 c') (y : ByteArray) (hy : At w g0 9 #[.string y]) (hlen : ss.length ≤ 2097152)
    (h : ∀ g cap w', Strs w' (some ⟨g, 0, none⟩) cap (ss ++ [y]) → Fr (blks A) w w' → (g ∈ blks A ∨ g = w.heap.size) → w.heap.size ≤ w'.heap.size → wpList Try.prog ops Q rest (a.put o.dst (.slice (some ⟨g, 0, none⟩) (n + 1) cap)) w') :
    wpList Try.prog ops Q (o :: rest) a w := by
  subst hn
  refine wpList_append_one w hgd s x 32 ho 9 (.string ⟨#[]⟩) 1 16 Try.underlying32 infoString rfl (by decide) A c ss.length hs (ss.map Value.string) hown ⟨g0, 0, none⟩ c' hx [.string y] rfl (fun j u hu => by
    match j, hu with
    | 0, hu => (simp at hu; subst hu; simpa [Addr.add] using hy.cell 0)
    | (_ + 1), hu => (simp at hu)) (fun u hu => by
      simp only [List.mem_cons, List.not_mem_nil, or_false] at hu
      subst hu; rfl) (by unfold maxLen; omega) (by omega) fun g cap w' h2 h3 h4 h5 => h g cap w' ?_ h3 h4 h5
  unfold Strs
  rw [List.length_append, List.map_append]
  exact h2

set_option maxRecDepth 100000 in
set_option maxHeartbeats 1000000 in
theorem texts_same (w : World) (A B : Option Addr) (c d n : Nat) (ss : List ByteArray) (hn : ss.length = n) (h : RdS w A ss) (k : RdS w B ss) (hl : n ≤ 9223372036854775807) :
    Calls Try.prog 24 #[.slice A n c, .slice B n d] w fun e w' => e = .returned (.bool true) ∧ ∃ n, w.drewN n = w' := by
  have H := Lib.hid h
  have K := Lib.hid k
  have HN := Lib.hid hn
  clear h k hn
  go_enter Try.func24, Try.ntmps24
  go_wp2_with fail
  go_loopg [5] n (fun g i wr => ∃ k m : Nat, k + g = n ∧ i = .int .i64 k ∧ w.drewN m = wr)
  case atStart => exact ⟨0, 0, by omega, rfl, rfl⟩
  case round =>
    obtain ⟨k, m, hk, rfl, rfl⟩ := hrel
    have HK := Lib.hid hk
    have hk2 : k ≤ n := by omega
    clear hk
    by_cases hlt : k < n
    · obtain ⟨b, o, rfl, _, hx⟩ := H.out (by rw [HN.out]; omega)
      obtain ⟨b2, o2, rfl, _, hx2⟩ := K.out (by rw [HN.out]; omega)
      have cx := hx k (by rw [HN.out]; omega)
      have cy := hx2 k (by rw [HN.out]; omega)
      clear hx hx2
      generalize ss[k]'(by rw [HN.out]; omega) = x at cx cy
      go_wp2_with fail
      go_quiet (fail)
      go_wp2_with fail
      go_roundg (gk - 1)
      case measure => have := HK.out; omega
      case rel => exact ⟨k + 1, _, by have := HK.out; omega, by go_num, rfl⟩
    · go_wp2_with fail
      go_ret
      exact ⟨rfl, m, rfl⟩

set_option maxRecDepth 100000 in
set_option maxHeartbeats 1000000 in
theorem sameInts_is (w : World) (A B : Option Addr) (c d n : Nat) (xs : List Int) (hn : xs.length = n) (h : Rd w A xs) (k : Rd w B xs) (hl : n ≤ 9223372036854775807) :
    Calls Try.prog 50 #[.slice A n c, .slice B n d] w fun e w' => e = .returned (.bool true) ∧ ∃ n, w.drewN n = w' := by
  have H := Lib.hid h
  have K := Lib.hid k
  have HN := Lib.hid hn
  clear h k hn
  go_enter Try.func50, Try.ntmps50
  go_wp2_with fail
  go_loopg [5] n (fun g i wr => ∃ k m : Nat, k + g = n ∧ i = .int .i64 k ∧ w.drewN m = wr)
  case atStart => exact ⟨0, 0, by omega, rfl, rfl⟩
  case round =>
    obtain ⟨k, m, hk, rfl, rfl⟩ := hrel
    have HK := Lib.hid hk
    have hk2 : k ≤ n := by omega
    clear hk
    by_cases hlt : k < n
    · obtain ⟨b, o, rfl, hx⟩ := H.out (by rw [HN.out]; omega)
      obtain ⟨b2, o2, rfl, hx2⟩ := K.out (by rw [HN.out]; omega)
      have cx := hx k (by rw [HN.out]; omega)
      have cy := hx2 k (by rw [HN.out]; omega)
      clear hx hx2
      obtain ⟨x, hx⟩ : ∃ x, xs[k]! = x := ⟨_, rfl⟩
      rw [hx] at cx cy
      clear hx
      go_wp2_with fail
      go_quiet (fail)
      go_wp2_with fail
      go_roundg (gk - 1)
      case measure => have := HK.out; omega
      case rel => exact ⟨k + 1, _, by have := HK.out; omega, by go_num, rfl⟩
    · go_wp2_with fail
      go_ret
      exact ⟨rfl, m, rfl⟩

/-- The texts from an item on, each from the one before; at most so many. -/
def chainL (S : List (ByteArray × Int)) : Nat → Int → List ByteArray
  | 0, _ => []
  | g + 1, id => if 1 ≤ id ∧ id ≤ S.length then (S[(id - 1).toNat]!).1 :: chainL S g (S[(id - 1).toNat]!).2 else []
def sf (M : List Im) : List (ByteArray × Int) := M.map fun m => (m.s, m.f)
theorem chainL_out (S : List (ByteArray × Int)) (g : Nat) (id : Int) (h : ¬ (1 ≤ id ∧ id ≤ S.length)) : chainL S g id = [] := by
  cases g with
  | zero => rfl
  | succ g => rw [chainL, if_neg h]
theorem chainL_in (M : List Im) (g : Nat) (i : Nat) (hi : i < M.length) (hg : 0 < g) (id : Int) (hid : id = i + 1) : chainL (sf M) g id = (M[i]!).s :: chainL (sf M) (g - 1) (M[i]!).f := by
  subst hid
  obtain ⟨g, rfl⟩ : ∃ k, g = k + 1 := ⟨g - 1, by omega⟩
  have e : ((i : Int) + 1 - 1).toNat = i := by omega
  rw [chainL, if_pos (by unfold sf; rw [List.length_map]; omega), e]
  simp [sf, hi]

theorem queue_chain_none (w : World) (a n c : Nat) (A : Option Addr) (h : w.cell? ⟨a, 0, none⟩ = some (.slice A n c)) (hn : n ≤ 9223372036854775807) (id : Int) (hb : (decide (1 ≤ id) && decide (id ≤ n)) = false) :
    Calls Try.prog 25 #[.pointer (some ⟨a, 0, none⟩), .int .i64 id] w fun e w' => e = .returned (.slice none 0 0) ∧ w = w' := by
  have HB := Lib.hid hb
  clear hb
  go_enter Try.func25, Try.ntmps25
  go_wp2_with fail
  go_loopg [1, 5] 0 (fun g i s wr => i = .int .i64 id ∧ s = .slice none 0 0 ∧ w = wr)
  case atStart => exact ⟨rfl, rfl, rfl⟩
  case round =>
    obtain ⟨rfl, rfl, rfl⟩ := hrel
    go_wp2_with fail
    refine (queue_is w a n c A h hn id false HB.out).mono ?_
    rintro e w' ⟨rfl, rfl⟩
    go_wp2_with fail
    go_ret
    exact ⟨rfl, rfl⟩
theorem queue_chain_nil (w : World) (id : Int) :
    Calls Try.prog 25 #[.pointer none, .int .i64 id] w fun e w' => e = .returned (.slice none 0 0) ∧ w = w' := by
  go_enter Try.func25, Try.ntmps25
  go_wp2_with fail
  go_loopg [1, 5] 0 (fun g i s wr => i = .int .i64 id ∧ s = .slice none 0 0 ∧ w = wr)
  case atStart => exact ⟨rfl, rfl, rfl⟩
  case round =>
    obtain ⟨rfl, rfl, rfl⟩ := hrel
    go_wp2_with fail
    refine (queue_is_nil w id).mono ?_
    rintro e w' ⟨rfl, rfl⟩
    go_wp2_with fail
    go_ret
    exact ⟨rfl, rfl⟩

set_option maxRecDepth 100000 in
set_option maxHeartbeats 2000000 in
theorem queue_chain (w : World) (L : Ql) (M : List Im) (W : List Int) (h : QAt w L M W) (hf : ∀ i : Nat, i < M.length → (M[i]!).f ≤ i) (hlen : M.length ≤ 2097152) (id : Int) (T : List ByteArray) (hT : chainL (sf M) id.toNat id = T) (n : Nat) (hn : T.length = n) :
    Calls Try.prog 25 #[.pointer (some ⟨L.a, 0, none⟩), .int .i64 id] w fun e w' => ∃ A c, e = .returned (.slice A n c) ∧ Strs w' A c T ∧ (∀ k, k ∈ blks A → w.heap.size ≤ k) ∧ Fr [] w w' := by
  have HH := Lib.hid h
  have HFF := Lib.hid hf
  have HT := Lib.hid hT
  have HN := Lib.hid hn
  have hs := h.small
  clear h hf hT hn
  go_enter Try.func25, Try.ntmps25
  go_wp2_with fail
  go_loopg [1, 5] id.toNat (fun gk i s wr => ∃ (id : Int) (P : List ByteArray) (A : Option Addr) (c : Nat), i = .int .i64 id ∧ s = .slice A P.length c ∧ id ≤ gk ∧ P ++ chainL (sf M) gk id = T ∧ (id ≤ M.length → P.length + id ≤ M.length ∨ id < 1) ∧
    Strs wr A c P ∧ (∀ k, k ∈ blks A → w.heap.size ≤ k) ∧ Fr [] w wr)
  case atStart => exact ⟨id, [], none, 0, rfl, rfl, by omega, HT.out, fun h => .inl (by simpa using h), Strs.nil _, by simp [blks], Fr.refl _ _⟩
  case round =>
    obtain ⟨id, P, A, c, rfl, rfl, hg, hP, hPl, hS, hnew, hF⟩ := hrel
    have HP := Lib.hid hP
    have HPL := Lib.hid hPl
    have HS := Lib.hid hS
    have HNW := Lib.hid hnew
    have HF := Lib.hid hF
    have HQ := Lib.hid (HH.out.keep hF)
    clear hP hPl hS hnew hF
    by_cases hin : 1 ≤ id ∧ id ≤ M.length
    · obtain ⟨i, hi⟩ : ∃ i : Nat, id = i + 1 := ⟨(id - 1).toNat, by omega⟩
      have hil : i < M.length := by omega
      have HI := Lib.hid hi
      have hb : (decide (1 ≤ id) && decide (id ≤ M.length)) = true := by simp [hin]
      have HB := Lib.hid hb
      have hpl : P.length + id ≤ M.length := (HPL.out hin.2).resolve_right (by omega)
      have hgpos : 0 < gk := by omega
      have hchain := chainL_in M gk i hil hgpos id hi
      obtain ⟨gA, hgA, -⟩ := HQ.out.its.pos hil
      have o0 := HQ.out.o0
      have hits := HQ.out.its
      rw [hgA] at o0 hits
      obtain ⟨-, -, c2, c3⟩ := hits.cell hil
      have hfi := HFF.out i hil
      obtain ⟨s, hs⟩ : ∃ s, (M[i]!).s = s := ⟨_, rfl⟩
      obtain ⟨f, hf⟩ : ∃ f, (M[i]!).f = f := ⟨_, rfl⟩
      rw [hs] at c2 hchain
      rw [hf] at c3 hchain hfi
      have hgl : gA < w.heap.size := HH.out.lt gA (by simp [Ql.fp, hgA, blks])
      have HGB : Hid (gA ∉ blks A) := fun hk => by have := HNW.out gA hk; omega
      have hglr : gA < wr.heap.size := Nat.lt_of_lt_of_le hgl HF.out.size
      have HCH := Lib.hid hchain
      have HO0 := Lib.hid o0
      clear hi hb hchain hits hs hf hgA o0
      go_wp2_with fail
      refine (queue_is wr L.a _ L.c L.A HQ.out.o0 (by omega) id true HB.out).mono ?_
      rintro e w' ⟨rfl, rfl⟩
      go_wp2_with fail
      refine (row_at wr L.a _ L.c gA HO0.out (by omega) id i HI.out hil).mono ?_
      rintro e w' ⟨rfl, rfl⟩
      go_wp2_with (at_builtin; refine wpList_append_str _ rfl _ _ rfl A c P _ rfl rfl (HS.out.alloc _) wr.heap.size 1 rfl s (At.new _ _ _) (by omega) ?_; intro g2 cap w4 hi2 hf2 hg2 hs2; have c3' := (World.cell?_of_block (hf2.block gA (by simp; omega) HGB.out)).trans ((World.cell?_of_block (Below.heap_alloc wr (.cells #[.string s] 9) gA hglr)).trans c3); have HI4 := Lib.hid hi2; have HF4 := Lib.hid hf2; have HG4 := Lib.hid hg2; clear hi2 hf2 hg2 hs2)
      go_roundg (gk - 1)
      case measure => omega
      case rel =>
        refine ⟨f, P ++ [s], some ⟨g2, 0, none⟩, cap, rfl, by simp, by have := HI.out; omega, ?_, fun _ => .inl (by rw [List.length_append, List.length_singleton]; have := HI.out; omega), HI4.out, fun k hk => ?_, ?_⟩
        · have := HP.out
          rw [HCH.out] at this
          rw [← this, List.append_assoc]
          rfl
        · simp only [blks, Option.map_some, Option.toList_some, List.mem_singleton] at hk
          subst hk
          rcases HG4.out with h1 | h1
          · exact HNW.out _ h1
          · have := HF.out.size
            simp at h1
            omega
        · exact (HF.out.alloc _).trans HF4.out (fun k hk => .inr (HNW.out k hk))
    · have hb : (decide (1 ≤ id) && decide (id ≤ M.length)) = false := by
        by_cases h1 : 1 ≤ id
        · have h2 : ¬ id ≤ M.length := fun h => hin ⟨h1, h⟩
          simp [h2]
        · rw [decide_eq_false h1]; rfl
      have HB := Lib.hid hb
      have HIN := Lib.hid hin
      clear hb hin
      go_wp2_with fail
      refine (queue_is wr L.a _ L.c L.A HQ.out.o0 (by omega) id false HB.out).mono ?_
      rintro e w' ⟨rfl, rfl⟩
      go_wp2_with fail
      go_ret
      have hPT : P = T := by
        have := HP.out
        rwa [chainL_out _ _ _ (by unfold sf; rw [List.length_map]; exact HIN.out), List.append_nil] at this
      refine ⟨A, c, by rw [← HN.out, ← hPT]; rfl, hPT ▸ HS.out, HNW.out, HF.out⟩

end Go.Proofs.Ytnbpnpodpnlamaa
