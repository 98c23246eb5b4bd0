/- The queue and the law's own lists beside it, behind an anchor: a world, and the blocks of it that may turn; the law's chained walked. -/
import Derived.Test.YtnbpnpodpnlamaaQueueL
namespace Go.Proofs.Ytnbpnpodpnlamaa
open Go.RowKit
set_option linter.unusedVariables false

/-- The queue, the law's items, the law's numbers. -/
structure QR (F : List Nat) (w : World) (a0 : Nat) (wr : World) (L : Ql) (M : List Im) (W : List Int) (A : Option Addr) (c : Nat) (N : List Im) (B : Option Addr) (d : Nat) (V : List Int) : Prop where
  a : L.a = a0
  q : QAt wr L M W
  its : Its wr A c N
  ws : Ints wr B d V
  newL : ∀ k, k ∈ L.fp → k ∈ F ∨ w.heap.size ≤ k
  newA : ∀ k, k ∈ blks A → k ∈ F ∨ w.heap.size ≤ k
  newB : ∀ k, k ∈ blks B → k ∈ F ∨ w.heap.size ≤ k
  apL : ∀ k, k ∈ L.fp → k ∉ blks A ∧ k ∉ blks B
  apB : ∀ k, k ∈ blks B → k ∉ blks A
  apM : ∀ m, m ∈ M → ∀ k, k ∈ blks m.C → k ∉ blks A ∧ k ∉ blks B
  fr : Fr F w wr

namespace QR
variable {F : List Nat} {w wr w' : World} {a0 : Nat} {L L' : Ql} {M M' : List Im} {W W' : List Int} {A A' : Option Addr} {c c' : Nat} {N N' : List Im} {B B' : Option Addr} {d d' : Nat} {V V' : List Int}

def all (L : Ql) (A B : Option Addr) : List Nat := L.fp ++ (blks A ++ blks B)
theorem keep (h : QR F w a0 wr L M W A c N B d V) (hf : Fr [] wr w') : QR F w a0 w' L M W A c N B d V :=
  ⟨h.a, h.q.keep hf, h.its.fr hf (fun _ _ => by simp), h.ws.fr hf (fun _ _ => by simp), h.newL, h.newA, h.newB, h.apL, h.apB, h.apM, h.fr.trans hf (fun k hk => by cases hk)⟩
theorem drewN (h : QR F w a0 wr L M W A c N B d V) (n : Nat) : QR F w a0 (wr.drewN n) L M W A c N B d V := h.keep ((Fr.refl [] wr).drewN n)
theorem alloc (h : QR F w a0 wr L M W A c N B d V) (o : Obj) : QR F w a0 (wr.alloc o) L M W A c N B d V := h.keep ((Fr.refl [] wr).alloc o)
/-- The queue turns. -/
theorem queue (h : QR F w a0 wr L M W A c N B d V) (q : QAt w' L' M' W') (hx : L.ext L' wr) (hf : Fr L.fp wr w') (hM : ∀ m, m ∈ M' → (∃ m0, m0 ∈ M ∧ m0.C = m.C) ∨ ∀ k, k ∈ blks m.C → wr.heap.size ≤ k) : QR F w a0 w' L' M' W' A c N B d V := by
  refine ⟨hx.1.trans h.a, q, h.its.fr hf (fun k hk hk' => (h.apL k hk').1 hk), h.ws.fr hf (fun k hk hk' => (h.apL k hk').2 hk), fun k hk => ?_, h.newA, h.newB, fun k hk => ?_, h.apB, fun m hm k hk => ?_, h.fr.trans hf h.newL⟩
  · exact (hx.2 k hk).elim (h.newL k) fun e => .inr (Nat.le_trans h.fr.size e)
  · rcases hx.2 k hk with e | e
    · exact h.apL k e
    · exact ⟨fun hA => by have := h.its.lt k hA; omega, fun hB => by have := h.ws.lt k hB; omega⟩
  · rcases hM m hm with ⟨m0, h0, e⟩ | e
    · rw [← e] at hk; exact h.apM m0 h0 k hk
    · have := e k hk
      exact ⟨fun hA => by have := h.its.lt k hA; omega, fun hB => by have := h.ws.lt k hB; omega⟩
/-- The law's items turn. -/
theorem items (h : QR F w a0 wr L M W A c N B d V) (hi : Its w' A' c' N') (hf : Fr (blks A) wr w') (hn : ∀ k, k ∈ blks A' → k ∈ blks A ∨ wr.heap.size ≤ k) : QR F w a0 w' L M W A' c' N' B d V := by
  refine ⟨h.a, h.q.fr hf (fun k hk => (h.apL k hk).1) (fun m hm k hk => (h.apM m hm k hk).1), hi, h.ws.fr hf h.apB, h.newL, fun k hk => ?_, h.newB, fun k hk => ⟨fun hA => ?_, (h.apL k hk).2⟩, fun k hk hA => ?_, fun m hm k hk => ⟨fun hA => ?_, (h.apM m hm k hk).2⟩, h.fr.trans hf h.newA⟩
  · exact (hn k hk).elim (h.newA k) fun e => .inr (Nat.le_trans h.fr.size e)
  · rcases hn k hA with e | e
    · exact (h.apL k hk).1 e
    · have := h.q.lt k hk; omega
  · rcases hn k hA with e | e
    · exact h.apB k hk e
    · have := h.ws.lt k hk; omega
  · rcases hn k hA with e | e
    · exact (h.apM m hm k hk).1 e
    · have := (h.q.cubes m hm).1.lt k hk; omega
/-- The law's numbers turn. -/
theorem waits (h : QR F w a0 wr L M W A c N B d V) (hi : Ints w' B' d' V') (hf : Fr (blks B) wr w') (hn : ∀ k, k ∈ blks B' → k ∈ blks B ∨ wr.heap.size ≤ k) : QR F w a0 w' L M W A c N B' d' V' := by
  refine ⟨h.a, h.q.fr hf (fun k hk => (h.apL k hk).2) (fun m hm k hk => (h.apM m hm k hk).2), h.its.fr hf (fun k hk hk' => h.apB k hk' hk), hi, h.newL, h.newA, fun k hk => ?_, fun k hk => ⟨(h.apL k hk).1, fun hB => ?_⟩, fun k hB hA => ?_, fun m hm k hk => ⟨(h.apM m hm k hk).1, fun hB => ?_⟩, h.fr.trans hf h.newB⟩
  · exact (hn k hk).elim (h.newB k) fun e => .inr (Nat.le_trans h.fr.size e)
  · rcases hn k hB with e | e
    · exact (h.apL k hk).2 e
    · have := h.q.lt k hk; omega
  · rcases hn k hB with e | e
    · exact h.apB k e hA
    · have := h.its.lt k hA; omega
  · rcases hn k hB with e | e
    · exact (h.apM m hm k hk).2 e
    · have := (h.q.cubes m hm).1.lt k hk; omega
/-- A level of the law's items turns. -/
theorem lev (h : QR F w a0 wr L M W A c N B d V) {g : Nat} (hA : A = some ⟨g, 0, none⟩) {i : Nat} (hi : i < N.length) (l : Int) : QR F w a0 (wr.setCell ⟨g, i * 4, none⟩ (.int .i64 l)) L M W A c (N.set i { N[i]! with l := l }) B d V := by
  have hits := h.its
  rw [hA] at hits
  have := hits.lev hi l
  rw [← hA] at this
  exact h.items this ((Fr.refl (blks A) wr).setCell (.inl (by simp [hA, blks])) _) (fun k hk => .inl hk)
theorem anchor (h : QR F w a0 wr L M W A c N B d V) : QR (all L A B) wr a0 wr L M W A c N B d V :=
  ⟨h.a, h.q, h.its, h.ws, fun k hk => .inl (by simp [all, hk]), fun k hk => .inl (by simp [all, hk]), fun k hk => .inl (by simp [all, hk]), h.apL, h.apB, h.apM, Fr.refl _ _⟩
theorem key (h : QR F w a0 wr L M W A c N B d V) : ∀ x, x ∈ all L A B → x ∈ F ∨ w.heap.size ≤ x := by
  intro x hx
  rcases List.mem_append.1 hx with hx | hx
  · exact h.newL x hx
  · exact (List.mem_append.1 hx).elim (h.newA x) (h.newB x)
theorem lt (h : QR F w a0 wr L M W A c N B d V) : ∀ x, x ∈ all L A B → x < wr.heap.size := by
  intro x hx
  rcases List.mem_append.1 hx with hx | hx
  · exact h.q.lt x hx
  · exact (List.mem_append.1 hx).elim (h.its.lt x) (h.ws.lt x)
theorem back_ (h : QR F w a0 wr L M W A c N B d V) (k : QR (all L A B) wr a0 w' L' M' W' A' c' N' B' d' V') : QR F w a0 w' L' M' W' A' c' N' B' d' V' :=
  ⟨k.a, k.q, k.its, k.ws, fun x hx => (k.newL x hx).elim (h.key x) fun e => .inr (Nat.le_trans h.fr.size e), fun x hx => (k.newA x hx).elim (h.key x) fun e => .inr (Nat.le_trans h.fr.size e),
    fun x hx => (k.newB x hx).elim (h.key x) fun e => .inr (Nat.le_trans h.fr.size e), k.apL, k.apB, k.apM, h.fr.trans k.fr h.key⟩
end QR

theorem sf_get (N : List Im) (i : Nat) (hi : i < N.length) : (sf N)[i]! = ((N[i]!).s, (N[i]!).f) := by simp [sf, hi]

set_option maxRecDepth 100000 in
set_option maxHeartbeats 4000000 in
/-- chained: the queue's chain is the one that the law's items tell. -/
theorem chained_is (w : World) (L : Ql) (M : List Im) (W : List Int) (h : QAt w L M W) (A : Option Addr) (c : Nat) (N : List Im) (hN : Its w A c N) (n : Nat) (hn : N.length = n) (hs : sf M = sf N) (hf : ∀ i : Nat, i < M.length → (M[i]!).f ≤ i) (hlen : n ≤ 2097152) (id : Int) :
    Calls Try.prog 49 #[.pointer (some ⟨L.a, 0, none⟩), .slice A n c, .int .i64 id] w fun e w' => e = .returned (.bool true) ∧ Fr [] w w' := by
  have hML : M.length = n := by
    have := congrArg List.length hs
    unfold sf at this
    rw [List.length_map, List.length_map, hn] at this
    exact this
  have hfN : ∀ i : Nat, i < n → (N[i]!).f ≤ i := fun i hi => by
    have h1 := sf_get M i (by omega)
    have h2 := sf_get N i (by omega)
    rw [hs, h2] at h1
    have := (Prod.mk.inj h1).2
    rw [this]
    exact hf i (by omega)
  obtain ⟨T, hT⟩ : ∃ T, chainL (sf N) id.toNat id = T := ⟨_, rfl⟩
  have HT := Lib.hid hT
  have HTM : Hid (chainL (sf M) id.toNat id = T) := by show _ = _; rw [hs]; exact hT
  have HH := Lib.hid h
  have HN := Lib.hid hN
  have HNL := Lib.hid hn
  have HFN := Lib.hid hfN
  have HFM := Lib.hid hf
  have HML := Lib.hid hML
  clear h hN hn hs hf hfN hT hML
  go_enter Try.func49, Try.ntmps49
  go_wp2_with fail
  go_loopg [7, 8, 9] id.toNat (fun gk s7 s8 s9 wr => ∃ (at_ : Int) (P : List ByteArray) (A3 : Option Addr) (c3 k : Nat), s8 = .int .i64 at_ ∧ s7 = .slice A3 k c3 ∧ s9 = .int .i64 k ∧ P.length = k ∧ k ≤ n ∧ at_ ≤ gk ∧ P ++ chainL (sf N) gk at_ = T ∧ (at_ ≤ n → at_ + k ≤ n ∨ at_ < 1) ∧
    Strs wr A3 c3 P ∧ (∀ x, x ∈ blks A3 → w.heap.size ≤ x) ∧ Fr [] w wr)
  case atStart => exact ⟨id, [], none, 0, 0, rfl, rfl, rfl, rfl, Nat.zero_le _, by omega, HT.out, fun h => .inl (by simpa using h), Strs.nil _, by simp [blks], Fr.refl _ _⟩
  case round =>
    obtain ⟨at_, P, A3, c3, k, rfl, rfl, rfl, hPl, hkn, hg, hP, hb, hS, hnew, hF⟩ := hrel
    have HPL := Lib.hid hPl
    have HP := Lib.hid hP
    have HB := Lib.hid hb
    have HS := Lib.hid hS
    have HNW := Lib.hid hnew
    have HF := Lib.hid hF
    clear hPl hP hb hS hnew hF
    by_cases h1 : 1 ≤ at_
    · by_cases h2 : at_ ≤ n
      · obtain ⟨i, hi⟩ : ∃ i : Nat, at_ = i + 1 := ⟨(at_ - 1).toNat, by omega⟩
        have hil : i < n := by omega
        have hkk : at_ + k ≤ n := (HB.out h2).resolve_right (by omega)
        have hgpos : 0 < gk := by omega
        have hchain := chainL_in N gk i (by rw [HNL.out]; exact hil) hgpos at_ hi
        have hits := HN.out.fr HF.out (fun _ _ => by simp)
        obtain ⟨gA, rfl, hgl⟩ := hits.pos (i := i) (by rw [HNL.out]; exact hil)
        obtain ⟨-, -, c2, c3'⟩ := hits.cell (i := i) (by rw [HNL.out]; exact hil)
        have hfi := HFN.out i hil
        obtain ⟨s, hs⟩ : ∃ s, (N[i]!).s = s := ⟨_, rfl⟩
        obtain ⟨f, hf⟩ : ∃ f, (N[i]!).f = f := ⟨_, rfl⟩
        rw [hs] at c2 hchain
        rw [hf] at c3' hchain hfi
        have HCH := Lib.hid hchain
        have hgw : gA < w.heap.size := HN.out.lt gA (by simp [blks])
        have HGB : Hid (gA ∉ blks A3) := fun hk => by have := HNW.out gA hk; omega
        subst hi
        clear hchain hits hs hf
        go_wp2_with (at_builtin; refine wpList_append_str _ rfl _ _ rfl A3 c3 P k rfl HPL.out.symm (HS.out.alloc _) wr.heap.size 1 rfl s (At.new _ _ _) (by rw [HPL.out]; omega) ?_; intro g2 cap w4 hi2 hf2 hg2 hs2; have c4' := (World.cell?_of_block (hf2.block gA (by simp; omega) HGB.out)).trans ((World.cell?_of_block (Below.heap_alloc wr (.cells #[.string s] 9) gA hgl)).trans c3'); have HI4 := Lib.hid hi2; have HF4 := Lib.hid hf2; have HG4 := Lib.hid hg2; clear hi2 hf2 hg2 hs2)
        go_roundg (gk - 1)
        case measure => omega
        case rel =>
          refine ⟨f, P ++ [s], some ⟨g2, 0, none⟩, cap, k + 1, rfl, rfl, by go_num, by rw [List.length_append, List.length_singleton, HPL.out], by omega, by omega, ?_, fun _ => .inl (by omega), HI4.out, fun x hx => ?_, ?_⟩
          · have := HP.out
            rw [HCH.out] at this
            rw [← this, List.append_assoc]
            rfl
          · simp only [blks, Option.map_some, Option.toList_some, List.mem_singleton] at hx
            subst hx
            rcases HG4.out with h1 | h1
            · exact HNW.out _ h1
            · have := HF.out.size
              simp at h1
              omega
          · exact (HF.out.alloc _).trans HF4.out (fun x hx => .inr (HNW.out x hx))
      · have hPT : P = T := by
          have := HP.out
          rwa [chainL_out _ _ _ (by unfold sf; rw [List.length_map, HNL.out]; omega), List.append_nil] at this
        subst hPT
        go_wp2_with fail
        refine (queue_chain wr L M W (HH.out.keep HF.out) HFM.out (by rw [HML.out]; omega) id P HTM.out k HPL.out).mono ?_
        rintro e w3 ⟨A6, c6, rfl, hs6, -, hf6⟩
        have HS6 := Lib.hid hs6
        have HF6 := Lib.hid hf6
        clear hs6 hf6
        go_wp2_with fail
        refine (texts_same w3 A6 A3 c6 c3 k P HPL.out HS6.out.rd (HS.out.fr HF6.out (by simp)).rd (by omega)).mono ?_
        rintro e w7 ⟨rfl, z, rfl⟩
        go_wp2_with fail
        go_ret
        exact ⟨rfl, (HF.out.then_ HF6.out).drewN z⟩
    · have hPT : P = T := by
        have := HP.out
        rwa [chainL_out _ _ _ (by unfold sf; rw [List.length_map, HNL.out]; omega), List.append_nil] at this
      subst hPT
      go_wp2_with fail
      refine (queue_chain wr L M W (HH.out.keep HF.out) HFM.out (by rw [HML.out]; omega) id P HTM.out k HPL.out).mono ?_
      rintro e w3 ⟨A6, c6, rfl, hs6, -, hf6⟩
      have HS6 := Lib.hid hs6
      have HF6 := Lib.hid hf6
      clear hs6 hf6
      go_wp2_with fail
      refine (texts_same w3 A6 A3 c6 c3 k P HPL.out HS6.out.rd (HS.out.fr HF6.out (by simp)).rd (by omega)).mono ?_
      rintro e w7 ⟨rfl, z, rfl⟩
      go_wp2_with fail
      go_ret
      exact ⟨rfl, (HF.out.then_ HF6.out).drewN z⟩

end Go.Proofs.Ytnbpnpodpnlamaa
