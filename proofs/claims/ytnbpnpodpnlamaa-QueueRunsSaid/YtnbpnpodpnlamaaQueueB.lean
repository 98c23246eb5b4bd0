/- The queue in memory; is, at, level, Len, Index and Contains walked. -/
import Derived.Test.YtnbpnpodpnlamaaQueueA
namespace Go.Proofs.Ytnbpnpodpnlamaa
open Go.RowKit
set_option linter.unusedVariables false

structure Ql where
  a : Nat
  A : Option Addr
  c : Nat
  B : Option Addr
  d : Nat
def Ql.fp (L : Ql) : List Nat := L.a :: (blks L.A ++ blks L.B)

/-- The queue lies in memory: its items M, the numbers W of those that wait. -/
structure QAt (w : World) (L : Ql) (M : List Im) (W : List Int) : Prop where
  obj : At w L.a 83 #[.slice L.A M.length L.c, .slice L.B W.length L.d, .bool true]
  its : Its w L.A L.c M
  waits : Ints w L.B L.d W
  nd : L.fp.Nodup
  cubes : ∀ m, m ∈ M → Cube w m ∧ ∀ k, k ∈ blks m.C → k ∉ L.fp

namespace QAt
variable {w w' : World} {L : Ql} {M : List Im} {W : List Int}
theorem lt (h : QAt w L M W) : ∀ k, k ∈ L.fp → k < w.heap.size := by
  intro k hk
  unfold Ql.fp at hk
  rcases List.mem_cons.1 hk with rfl | hk
  · exact h.obj.lt
  · rcases List.mem_append.1 hk with hk | hk
    · exact h.its.lt k hk
    · exact h.waits.lt k hk
theorem fr {S : List Nat} (h : QAt w L M W) (hf : Fr S w w') (hd : ∀ k, k ∈ L.fp → k ∉ S) (hc : ∀ m, m ∈ M → ∀ k, k ∈ blks m.C → k ∉ S) : QAt w' L M W :=
  ⟨hf.at_ h.obj (hd _ (by simp [Ql.fp])), h.its.fr hf (fun k hk => hd k (by simp [Ql.fp, hk])), h.waits.fr hf (fun k hk => hd k (by simp [Ql.fp, hk])), h.nd,
    fun m hm => ⟨(h.cubes m hm).1.fr hf (hc m hm), (h.cubes m hm).2⟩⟩
theorem keep (h : QAt w L M W) (hf : Fr [] w w') : QAt w' L M W := h.fr hf (fun _ _ => by simp) (fun _ _ _ _ => by simp)
theorem drewN (h : QAt w L M W) (n : Nat) : QAt (w.drewN n) L M W := h.keep ((Fr.refl [] w).drewN n)
theorem alloc (h : QAt w L M W) (o : Obj) : QAt (w.alloc o) L M W := h.keep ((Fr.refl [] w).alloc o)
theorem o0 (h : QAt w L M W) : w.cell? ⟨L.a, 0, none⟩ = some (.slice L.A M.length L.c) := h.obj.cell 0
theorem o1 (h : QAt w L M W) : w.cell? ⟨L.a, 1, none⟩ = some (.slice L.B W.length L.d) := h.obj.cell 1
theorem o2 (h : QAt w L M W) : w.cell? ⟨L.a, 2, none⟩ = some (.bool true) := h.obj.cell 2
end QAt

theorem row_is (w : World) (a n c : Nat) (A : Option Addr) (h : w.cell? ⟨a, 0, none⟩ = some (.slice A n c)) (hn : n ≤ 9223372036854775807) (id : Int) (b : Bool) (hb : (decide (1 ≤ id) && decide (id ≤ n)) = b) :
    Calls Try.prog 68 #[.pointer (some ⟨a, 0, none⟩), .int .i64 id] w fun e w' => e = .returned (.bool b) ∧ w = w' := by
  subst hb
  by_cases h1 : 1 ≤ id
  · by_cases h2 : id ≤ n
    · go_enter Try.func68, Try.ntmps68
      go_wp2_with fail
      go_ret
      exact ⟨by simp [h1, h2], rfl⟩
    · go_enter Try.func68, Try.ntmps68
      go_wp2_with fail
      go_ret
      exact ⟨by simp [h2], rfl⟩
  · go_enter Try.func68, Try.ntmps68
    go_wp2_with fail
    go_ret
    exact ⟨by rw [decide_eq_false (show ¬ 1 ≤ id by omega)]; rfl, rfl⟩

theorem row_at (w : World) (a n c g : Nat) (h : w.cell? ⟨a, 0, none⟩ = some (.slice (some ⟨g, 0, none⟩) n c)) (hn : n ≤ 9223372036854775807) (id : Int) (i : Nat) (hid : id = i + 1) (hi : i < n) :
    Calls Try.prog 56 #[.pointer (some ⟨a, 0, none⟩), .int .i64 id] w fun e w' => e = .returned (.pointer (some ⟨g, i * 4, none⟩)) ∧ w = w' := by
  subst hid
  go_enter Try.func56, Try.ntmps56
  go_wp2_with fail
  go_ret
  exact ⟨by simp, rfl⟩

theorem queue_is_nil (w : World) (id : Int) :
    Calls Try.prog 53 #[.pointer none, .int .i64 id] w fun e w' => e = .returned (.bool false) ∧ w = w' := by
  go_enter Try.func53, Try.ntmps53
  go_wp2_with fail
  go_ret
  exact ⟨rfl, rfl⟩

theorem queue_is (w : World) (a n c : Nat) (A : Option Addr) (h : w.cell? ⟨a, 0, none⟩ = some (.slice A n c)) (hn : n ≤ 9223372036854775807) (id : Int) (b : Bool) (hb : (decide (1 ≤ id) && decide (id ≤ n)) = b) :
    Calls Try.prog 53 #[.pointer (some ⟨a, 0, none⟩), .int .i64 id] w fun e w' => e = .returned (.bool b) ∧ w = w' := by
  go_enter Try.func53, Try.ntmps53
  go_wp2_with fail
  refine (row_is w a n c A h hn id b hb).mono ?_
  rintro e w' ⟨rfl, rfl⟩
  go_wp2_with fail
  go_ret
  exact ⟨rfl, rfl⟩

theorem queue_len_nil (w : World) :
    Calls Try.prog 48 #[.pointer none] w fun e w' => e = .returned (.int .i64 0) ∧ w = w' := by
  go_enter Try.func48, Try.ntmps48
  go_wp2_with fail
  go_ret
  exact ⟨rfl, rfl⟩

theorem queue_len (w : World) (a n c : Nat) (B : Option Addr) (h : w.cell? ⟨a, 1, none⟩ = some (.slice B n c)) :
    Calls Try.prog 48 #[.pointer (some ⟨a, 0, none⟩)] w fun e w' => e = .returned (.int .i64 n) ∧ w = w' := by
  go_enter Try.func48, Try.ntmps48
  go_wp2_with fail
  go_ret
  exact ⟨rfl, rfl⟩

set_option maxHeartbeats 1000000 in
theorem queue_level (w : World) (L : Ql) (M : List Im) (W : List Int) (h : QAt w L M W) (id : Int) (i : Nat) (hid : id = i + 1) (hi : i < M.length) (l : Int) (hl : (M[i]!).l = l) :
    Calls Try.prog 64 #[.pointer (some ⟨L.a, 0, none⟩), .int .i64 id] w fun e w' => e = .returned (.int .i64 l) ∧ w = w' := by
  obtain ⟨g, hg, hgl⟩ := h.its.pos hi
  have hits := h.its
  have h0 := h.o0
  rw [hg] at hits h0
  obtain ⟨c0, -, -, -⟩ := hits.cell hi
  have hlen : M.length ≤ 9223372036854775807 := by
    rcases h.its.form with ⟨_, _, rfl⟩ | ⟨_, _, _, h1, h2⟩
    · simp
    · unfold maxLen at h2; omega
  rw [hl] at c0
  obtain ⟨a, A, c, B, d⟩ := L
  simp only at h0 ⊢
  have HID := Lib.hid hid
  clear h hits hg hl hgl hid
  go_enter Try.func64, Try.ntmps64
  go_wp2_with fail
  refine (row_at w a M.length c g h0 hlen id i HID.out hi).mono ?_
  rintro e w' ⟨rfl, rfl⟩
  go_wp2_with fail
  go_ret
  exact ⟨rfl, rfl⟩

set_option maxRecDepth 100000 in
set_option maxHeartbeats 1000000 in
/-- Index: the first place of a number. -/
theorem index_is (w : World) (A : Option Addr) (c : Nat) (xs : List Int) (x : Int) (h : Rd w A xs) (hl : xs.length ≤ 9223372036854775807) (v : Int)
    (hv : (∃ k : Nat, k < xs.length ∧ xs[k]! = x ∧ (∀ j : Nat, j < k → xs[j]! ≠ x) ∧ v = k) ∨ ((∀ j : Nat, j < xs.length → xs[j]! ≠ x) ∧ v = -1)) :
    Calls Try.prog 65 #[.slice A xs.length c, .int .i64 x] w fun e w' => e = .returned (.int .i64 v) ∧ w = w' := by
  have HH := Lib.hid h
  have HV := Lib.hid hv
  clear h hv
  go_enter Try.func65, Try.ntmps65
  go_wp2_with fail
  go_loopg [8] xs.length (fun g i wr => ∃ k : Nat, k + g = xs.length ∧ i = .int .i64 k ∧ w = wr ∧ Hid (∀ j : Nat, j < k → xs[j]! ≠ x))
  case atStart => exact ⟨0, by omega, rfl, rfl, fun j hj => by omega⟩
  case round =>
    obtain ⟨k, hk, rfl, rfl, hn⟩ := hrel
    have HK := Lib.hid hk
    have hk2 : k ≤ xs.length := by omega
    clear hk
    by_cases hlt : k < xs.length
    · obtain ⟨b, o, rfl, hx⟩ := HH.out (by omega)
      have cx := hx k hlt
      clear hx
      obtain ⟨y, hy⟩ : ∃ y, xs[k]! = y := ⟨_, rfl⟩
      rw [hy] at cx
      have HY := Lib.hid hy
      clear hy
      by_cases he : x = y
      · subst he
        have hvk : v = k := by
          rcases HV.out with ⟨m, h1, h2, h3, h4⟩ | ⟨h1, _⟩
          · have e1 : m = k := by
              rcases Nat.lt_trichotomy m k with h5 | h5 | h5
              · exact absurd h2 (hn.out m h5)
              · exact h5
              · exact absurd HY.out (h3 k h5)
            rw [h4, e1]
          · exact absurd HY.out (h1 k hlt)
        subst hvk
        go_wp2_with fail
        go_ret
        exact ⟨rfl, rfl⟩
      · have hne : (x == y) = false := beq_eq_false_iff_ne.2 he
        have HE := Lib.hid he
        clear he
        go_wp2_with fail
        go_roundg (gk - 1)
        case measure => have := HK.out; omega
        case rel => exact ⟨k + 1, by have := HK.out; omega, by go_num, rfl, fun j hj => by
          by_cases e : j = k
          · subst e; rw [HY.out]; exact fun h => HE.out h.symm
          · exact hn.out j (by omega)⟩
    · have hvk : v = -1 := by
        rcases HV.out with ⟨m, h1, h2, h3, h4⟩ | ⟨_, h1⟩
        · exact absurd h2 (hn.out m (by omega))
        · exact h1
      subst hvk
      go_wp2_with fail
      go_ret
      exact ⟨rfl, rfl⟩

theorem contains_is (w : World) (A : Option Addr) (c : Nat) (xs : List Int) (x : Int) (h : Rd w A xs) (hl : xs.length ≤ 9223372036854775807) (b : Bool) (hb : decide (x ∈ xs) = b) :
    Calls Try.prog 67 #[.slice A xs.length c, .int .i64 x] w fun e w' => e = .returned (.bool b) ∧ w = w' := by
  have hv : ∃ v : Int, ((∃ k : Nat, k < xs.length ∧ xs[k]! = x ∧ (∀ j : Nat, j < k → xs[j]! ≠ x) ∧ v = k) ∨ ((∀ j : Nat, j < xs.length → xs[j]! ≠ x) ∧ v = -1)) ∧ decide (v ≥ 0) = b := by
    by_cases hm : x ∈ xs
    · have key : ∀ n : Nat, (∃ k : Nat, k < n ∧ k < xs.length ∧ xs[k]! = x) → ∃ k : Nat, k < xs.length ∧ xs[k]! = x ∧ ∀ j : Nat, j < k → xs[j]! ≠ x := by
        intro n
        induction n with
        | zero => rintro ⟨k, hk, _⟩; omega
        | succ n ih =>
          rintro ⟨k, h1, h2, h3⟩
          by_cases hs : ∃ j : Nat, j < n ∧ j < xs.length ∧ xs[j]! = x
          · exact ih hs
          · exact ⟨k, h2, h3, fun j hj hx => hs ⟨j, by omega, by omega, hx⟩⟩
      obtain ⟨k, hk, hx⟩ := List.mem_iff_getElem.1 hm
      obtain ⟨k', h1, h2, h3⟩ := key (k + 1) ⟨k, by omega, hk, by rw [← hx]; simp [hk]⟩
      refine ⟨k', .inl ⟨k', h1, h2, h3, rfl⟩, ?_⟩
      rw [← hb]
      simp [hm]
    · refine ⟨-1, .inr ⟨fun j hj hx => hm ?_, rfl⟩, ?_⟩
      · rw [← hx]
        simp [hj]
      · rw [← hb]
        simp [hm]
  obtain ⟨v, hv, hd⟩ := hv
  subst hd
  have HH := Lib.hid h
  have HV := Lib.hid hv
  clear h hv hb
  go_enter Try.func67, Try.ntmps67
  go_wp2_with fail
  refine (index_is w A c xs x HH.out hl v HV.out).mono ?_
  rintro e w' ⟨rfl, rfl⟩
  go_wp2_with fail
  go_ret
  exact ⟨rfl, rfl⟩

end Go.Proofs.Ytnbpnpodpnlamaa
