/- The queue's contracts behind the anchor; what holds of the lists. -/
import Derived.Test.YtnbpnpodpnlamaaQueueM
namespace Go.Proofs.Ytnbpnpodpnlamaa
open Go.RowKit
set_option linter.unusedVariables false

def pl (m : Im) : Int × ByteArray × Int × List Int := (m.l, m.s, m.f, m.xs)

/-- What holds of the queue's items M, the law's items N and the numbers W, after so many calls. -/
structure QInv (w : World) (M N : List Im) (W : List Int) (k : Nat) : Prop where
  ok : QOk M W
  f : ∀ i : Nat, i < M.length → (M[i]!).f ≤ i
  same : M.map pl = N.map pl
  old : ∀ m, m ∈ N → Cub w m
  lenM : M.length ≤ k
  lenW : W.length ≤ k

namespace QInv
variable {w : World} {M N : List Im} {W : List Int} {k : Nat}
theorem len (h : QInv w M N W k) : N.length = M.length := by
  have := congrArg List.length h.same
  simpa using this.symm
theorem sf (h : QInv w M N W k) : sf M = sf N := by
  have := congrArg (List.map fun x : Int × ByteArray × Int × List Int => (x.2.1, x.2.2.1)) h.same
  simpa [Go.Proofs.Ytnbpnpodpnlamaa.sf, pl, Function.comp_def] using this
theorem get (h : QInv w M N W k) {i : Nat} (hi : i < M.length) : pl M[i]! = pl N[i]! := by
  have := congrArg (fun x => x[i]?) h.same
  have hN : i < N.length := by rw [h.len]; exact hi
  simp only [List.getElem?_map, List.getElem?_eq_getElem hi, List.getElem?_eq_getElem hN, Option.map_some, Option.some.injEq] at this
  simpa [hi, hN] using this
theorem mono (h : QInv w M N W k) : QInv w M N W (k + 1) := ⟨h.ok, h.f, h.same, h.old, Nat.le_succ_of_le h.lenM, Nat.le_succ_of_le h.lenW⟩
theorem start (w : World) : QInv w [] [] [] 0 := ⟨⟨fun m hm => (by cases hm), fun x hx => (by cases hx)⟩, fun i hi => absurd hi (Nat.not_lt_zero _), rfl, fun m hm => (by cases hm), Nat.le_refl _, Nat.le_refl _⟩
theorem put (h : QInv w M N W k) (m m' : Im) (e : pl m' = pl m) (h0 : 0 ≤ m.l) (h1 : m.l ≤ 9223372036854775807) (hf : m.f ≤ M.length) (hc : Cub w m) : QInv w (M ++ [m']) (N ++ [m]) (W ++ [((M.length + 1 : Nat) : Int)]) (k + 1) := by
  have e1 : m'.l = m.l := (Prod.mk.inj e).1
  have e3 : m'.f = m.f := (Prod.mk.inj (Prod.mk.inj (Prod.mk.inj e).2).2).1
  have hM := h.lenM
  have hW := h.lenW
  refine ⟨⟨fun x hx => ?_, fun x hx => ?_⟩, fun i hi => ?_, ?_, fun x hx => ?_, by rw [List.length_append, List.length_singleton]; omega, by rw [List.length_append, List.length_singleton]; omega⟩
  · rcases List.mem_append.1 hx with hx | hx
    · exact h.ok.lev x hx
    · simp only [List.mem_singleton] at hx
      subst hx
      rw [e1]; exact ⟨h0, h1⟩
  · rw [List.length_append, List.length_singleton]
    rcases List.mem_append.1 hx with hx | hx
    · have := h.ok.ids x hx
      omega
    · simp only [List.mem_singleton] at hx
      omega
  · rw [List.length_append, List.length_singleton] at hi
    by_cases hlt : i < M.length
    · have e : (M ++ [m'])[i]! = M[i]! := by simp [List.getElem!_eq_getElem?_getD, List.getElem?_append_left hlt]
      rw [e]; exact h.f i hlt
    · obtain rfl : i = M.length := by omega
      have e : (M ++ [m'])[M.length]! = m' := by simp
      rw [e, e3]; exact hf
  · rw [List.map_append, List.map_append, h.same]
    simp [e]
  · rcases List.mem_append.1 hx with hx | hx
    · exact h.old x hx
    · simp only [List.mem_singleton] at hx
      subst hx; exact hc
theorem take (h : QInv w M N W k) (p : Nat) : QInv w M N (W.eraseIdx p) (k + 1) :=
  ⟨⟨h.ok.lev, fun x hx => h.ok.ids x (List.mem_of_mem_eraseIdx hx)⟩, h.f, h.same, h.old, Nat.le_succ_of_le h.lenM, Nat.le_succ_of_le (Nat.le_trans (List.length_eraseIdx_le _ _) h.lenW)⟩
theorem again (h : QInv w M N W k) (i : Nat) (hi : i < M.length) (l : Int) (h0 : 0 ≤ l) (h1 : l ≤ 9223372036854775807) (id : Int) (hid : id = i + 1) : QInv w (M.set i { M[i]! with l := l }) (N.set i { N[i]! with l := l }) (W ++ [id]) (k + 1) := by
  have hN : i < N.length := by rw [h.len]; exact hi
  have hg := h.get hi
  have hlW := h.lenW
  refine ⟨⟨fun x hx => ?_, fun x hx => ?_⟩, fun j hj => ?_, ?_, fun x hx => ?_, by rw [List.length_set]; exact Nat.le_succ_of_le h.lenM, by rw [List.length_append, List.length_singleton]; omega⟩
  · rcases List.mem_or_eq_of_mem_set hx with hx | hx
    · exact h.ok.lev x hx
    · subst hx; exact ⟨h0, h1⟩
  · rw [List.length_set]
    rcases List.mem_append.1 hx with hx | hx
    · exact h.ok.ids x hx
    · simp only [List.mem_singleton] at hx
      omega
  · rw [List.length_set] at hj
    by_cases e : j = i
    · subst e
      have e : (M.set j { M[j]! with l := l })[j]! = { M[j]! with l := l } := by simp [hi]
      rw [e]; exact h.f j hi
    · have e : (M.set i { M[i]! with l := l })[j]! = M[j]! := by
        simp [List.getElem!_eq_getElem?_getD, show ¬ i = j from fun h => e h.symm]
      rw [e]; exact h.f j hj
  · rw [List.map_set, List.map_set, h.same]
    congr 1
    have e2 := Prod.mk.inj hg
    have e3 := Prod.mk.inj e2.2
    have e4 := Prod.mk.inj e3.2
    simp only [pl, e3.1, e4.1, e4.2]
  · rcases List.mem_or_eq_of_mem_set hx with hx | hx
    · exact h.old x hx
    · subst hx
      have := h.old N[i]! (by simp [hN])
      exact ⟨this.n, this.rd, this.lt, this.nil_, this.small⟩
end QInv

namespace QR
variable {F : List Nat} {w wr w' : World} {a0 : Nat} {L : Ql} {M : List Im} {W : List Int} {A : Option Addr} {c : Nat} {N : List Im} {B : Option Addr} {d : Nat} {V : List Int}

theorem put_no (h : QR F w a0 wr L M W A c N B d V) (m : Im) (hno : m.l < 0 ∨ (0 ≤ m.l ∧ m.f ≠ 0 ∧ (decide (1 ≤ m.f) && decide (m.f ≤ M.length)) = false)) :
    Calls Try.prog 23 #[.pointer (some ⟨a0, 0, none⟩), m.val] wr fun e w' => e = .returned (.tuple #[.int .i64 0, .bool false]) ∧ QR F w a0 w' L M W A c N B d V := by
  rw [← h.a]
  refine (queue_put_no wr L M W h.q m hno).mono ?_
  rintro e w' ⟨he, hf⟩
  exact ⟨he, h.a ▸ h.keep hf⟩
theorem put_yes (h : QR F w a0 wr L M W A c N B d V) (m : Im) (hm : Cub wr m) (hl : 0 ≤ m.l) (hf : m.f = 0 ∨ (m.f ≠ 0 ∧ (decide (1 ≤ m.f) && decide (m.f ≤ M.length)) = true)) (hlen : M.length ≤ 2097152) (hlw : W.length ≤ 2097152) (n : Nat) (hn : M.length = n) :
    Calls Try.prog 23 #[.pointer (some ⟨a0, 0, none⟩), m.val] wr fun e w' => e = .returned (.tuple #[.int .i64 (n + 1 : Nat), .bool true]) ∧
      ∃ L' C' c', QR F w a0 w' L' (M ++ [{ m with C := C', c := c' }]) (W ++ [((M.length + 1 : Nat) : Int)]) A c N B d V := by
  subst hn
  rw [← h.a]
  refine (queue_put_yes wr L M W h.q m hm hl hf hlen hlw).mono ?_
  rintro e w' ⟨he, L', C', c', hq, hx, hn, hf⟩
  refine ⟨he, L', C', c', h.a ▸ h.queue hq hx hf fun x hx => ?_⟩
  rcases List.mem_append.1 hx with hx | hx
  · exact .inl ⟨x, hx, rfl⟩
  · simp only [List.mem_singleton] at hx
    subst hx
    exact .inr hn
theorem take_none (h : QR F w a0 wr L M [] A c N B d V) :
    Calls Try.prog 44 #[.pointer (some ⟨a0, 0, none⟩)] wr fun e w' => e = .returned (.tuple #[Im.zero.val, .int .i64 0, .bool false]) ∧ QR F w a0 w' L M [] A c N B d V := by
  rw [← h.a]
  refine (queue_take_none wr L.a L.d L.B h.q.o1 h.q.obj.lt).mono ?_
  rintro e w' ⟨he, hf⟩
  exact ⟨he, h.a ▸ h.keep hf⟩
theorem take_some (h : QR F w a0 wr L M W A c N B d V) (ok : QOk M W) (hw : 0 < W.length) (hlw : W.length ≤ 2097152) :
    Calls Try.prog 44 #[.pointer (some ⟨a0, 0, none⟩)] wr fun e w' => ∃ p i C' c', FMin M W W.length p ∧ i < M.length ∧ W[p]! = ((i : Nat) : Int) + 1 ∧
      e = .returned (.tuple #[Im.val { M[i]! with C := C', c := c' }, .int .i64 W[p]!, .bool true]) ∧ Cube w' { M[i]! with C := C', c := c' } ∧ QR F w a0 w' L M (W.eraseIdx p) A c N B d V := by
  rw [← h.a]
  refine (queue_take_some wr L M W h.q ok hw hlw).mono ?_
  rintro e w' ⟨p, i, C', c', hp, hi, hii, he, hc, hn, hq, hf⟩
  exact ⟨p, i, C', c', hp, hi, hii, he, hc, h.a ▸ h.queue hq (L.ext_refl _) hf fun m hm => .inl ⟨m, hm, rfl⟩⟩
theorem again_none (h : QR F w a0 wr L M W A c N B d V) (id l : Int) (hb : (decide (1 ≤ id) && decide (id ≤ M.length)) = false) :
    Calls Try.prog 46 #[.pointer (some ⟨a0, 0, none⟩), .int .i64 id, .int .i64 l] wr fun e w' => e = .returned (.bool false) ∧ wr = w' := by
  rw [← h.a]
  exact queue_again_none wr L.a _ L.c L.A h.q.o0 h.q.small id l hb
theorem again_no (h : QR F w a0 wr L M W A c N B d V) (id l : Int) (hb : (decide (1 ≤ id) && decide (id ≤ M.length)) = true) (hlw : W.length ≤ 2097152) (hno : l < 0 ∨ (0 ≤ l ∧ decide (id ∈ W) = true)) :
    Calls Try.prog 46 #[.pointer (some ⟨a0, 0, none⟩), .int .i64 id, .int .i64 l] wr fun e w' => e = .returned (.bool false) ∧ wr = w' := by
  rw [← h.a]
  exact queue_again_no wr L M W h.q id l hb hlw hno
theorem again_yes (h : QR F w a0 wr L M W A c N B d V) (id l : Int) (i : Nat) (hid : id = i + 1) (hi : i < M.length) (hlw : W.length ≤ 2097152) (hl : 0 ≤ l) (hno : decide (id ∈ W) = false) :
    Calls Try.prog 46 #[.pointer (some ⟨a0, 0, none⟩), .int .i64 id, .int .i64 l] wr fun e w' => e = .returned (.bool true) ∧
      ∃ L', QR F w a0 w' L' (M.set i { M[i]! with l := l }) (W ++ [id]) A c N B d V := by
  rw [← h.a]
  refine (queue_again_yes wr L M W h.q id l i hid hi hlw hl hno).mono ?_
  rintro e w' ⟨he, L', hq, hx, hf⟩
  refine ⟨he, L', h.a ▸ h.queue hq hx hf fun m hm => ?_⟩
  rcases List.mem_or_eq_of_mem_set hm with hm | hm
  · exact .inl ⟨m, hm, rfl⟩
  · subst hm
    exact .inl ⟨M[i]!, by simp [hi], rfl⟩
theorem item_none (h : QR F w a0 wr L M W A c N B d V) (id : Int) (hb : (decide (1 ≤ id) && decide (id ≤ M.length)) = false) :
    Calls Try.prog 47 #[.pointer (some ⟨a0, 0, none⟩), .int .i64 id] wr fun e w' => e = .returned (.tuple #[Im.zero.val, .bool false]) ∧ Fr [] wr w' := by
  rw [← h.a]
  exact queue_item_none wr L.a _ L.c L.A h.q.o0 h.q.obj.lt h.q.small id hb
theorem item_yes (h : QR F w a0 wr L M W A c N B d V) (id : Int) (i : Nat) (hid : id = i + 1) (hi : i < M.length) (m : Im) (hm : M[i]! = m) :
    Calls Try.prog 47 #[.pointer (some ⟨a0, 0, none⟩), .int .i64 id] wr fun e w' => ∃ C' c', e = .returned (.tuple #[Im.val { m with C := C', c := c' }, .bool true]) ∧ Cube w' { m with C := C', c := c' } ∧ Fr [] wr w' := by
  rw [← h.a]
  refine (queue_item_yes wr L M W h.q id i hid hi m hm).mono ?_
  rintro e w' ⟨C', c', he, hc, _, hf⟩
  exact ⟨C', c', he, hc, hf⟩
theorem len (h : QR F w a0 wr L M W A c N B d V) (n : Nat) (hn : W.length = n) :
    Calls Try.prog 48 #[.pointer (some ⟨a0, 0, none⟩)] wr fun e w' => e = .returned (.int .i64 n) ∧ wr = w' := by
  subst hn
  rw [← h.a]
  exact queue_len wr L.a _ L.d L.B h.q.o1
theorem chained (h : QR F w a0 wr L M W A c N B d V) (n : Nat) (hn : N.length = n) (hs : sf M = sf N) (hf : ∀ i : Nat, i < M.length → (M[i]!).f ≤ i) (hlen : n ≤ 2097152) (id : Int) :
    Calls Try.prog 49 #[.pointer (some ⟨a0, 0, none⟩), .slice A n c, .int .i64 id] wr fun e w' => e = .returned (.bool true) ∧ Fr [] wr w' := by
  rw [← h.a]
  exact chained_is wr L M W h.q A c N h.its n hn hs hf hlen id
end QR

theorem qr_new (w w0 : World) (hw : Fr [] w w0) :
    Calls Try.prog 22 #[] w0 fun e w' => ∃ (a0 : Nat) (L : Ql), e = .returned (.pointer (some ⟨a0, 0, none⟩)) ∧ QR [] w a0 w' L [] [] none 0 [] none 0 [] := by
  refine (queue_new w0).mono ?_
  rintro e w' ⟨L, he, hq, hn, hf⟩
  exact ⟨L.a, L, he, rfl, hq, Its.nil _, Ints.nil _, fun k hk => .inr (Nat.le_trans hw.size (hn k hk)), by simp [blks], by simp [blks], by simp [blks], by simp [blks], fun m hm => (by cases hm), hw.trans hf (fun k hk => by cases hk)⟩

/-- An operation of the law's. -/
structure QOp where
  kind : Int
  m : Im
  id : Int
  lev : Int
def RdQops (w : World) (A : Option Addr) (l : List QOp) : Prop := 0 < l.length → ∃ b o, A = some ⟨b, o, none⟩ ∧ b < w.heap.size ∧ ∀ j : Nat, (hj : j < l.length) →
  w.cell? ⟨b, o + j * 7, none⟩ = some (.int .i64 l[j].kind) ∧ w.cell? ⟨b, o + j * 7 + 1, none⟩ = some (.int .i64 l[j].m.l) ∧ w.cell? ⟨b, o + j * 7 + 2, none⟩ = some (.slice l[j].m.C l[j].m.n l[j].m.c) ∧
  w.cell? ⟨b, o + j * 7 + 3, none⟩ = some (.string l[j].m.s) ∧ w.cell? ⟨b, o + j * 7 + 4, none⟩ = some (.int .i64 l[j].m.f) ∧ w.cell? ⟨b, o + j * 7 + 5, none⟩ = some (.int .i64 l[j].id) ∧ w.cell? ⟨b, o + j * 7 + 6, none⟩ = some (.int .i64 l[j].lev)

end Go.Proofs.Ytnbpnpodpnlamaa
