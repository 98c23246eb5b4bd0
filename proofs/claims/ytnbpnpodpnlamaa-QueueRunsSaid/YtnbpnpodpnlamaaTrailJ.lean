/- The trail under the law's hands: contracts in the words of what is set; Abs and Ints walked. -/
import Derived.Test.YtnbpnpodpnlamaaTrailI
import Derived.Test.YtnbpnpodpnlamaaRead
namespace Go.Proofs.Ytnbpnpodpnlamaa
open Go.RowKit
set_option linter.unusedVariables false

theorem abs_is (w : World) (x p : Int) (hp : tv x = p) (hlo : -9223372036854775808 ≤ x) (hhi : x ≤ 9223372036854775807) :
    Calls Try.prog 17 #[.int .i64 x] w fun e w' => e = .returned (.int .i64 p) ∧ w = w' := by
  subst hp
  rcases lit_cases x hlo with ⟨hl, hv⟩ | ⟨hl, hl2, hv⟩ | ⟨hl, hv, hw⟩
  all_goals
    rw [hv]
    clear hv hlo
    go_enter Try.func17, Try.ntmps17
    go_wp2
    go_ret
    exact ⟨rfl, rfl⟩

set_option maxRecDepth 100000 in
set_option maxHeartbeats 1000000 in
theorem ints_same (w : World) (A B : Option Addr) (c d : Nat) (xs : List Int) (h : Rd w A xs) (k : Rd w B xs) (hl : xs.length ≤ 9223372036854775807) :
    Calls Try.prog 19 #[.slice A xs.length c, .slice B xs.length d] w fun e w' => e = .returned (.bool true) ∧ ∃ n, w.drewN n = w' := by
  have H := Lib.hid h
  have K := Lib.hid k
  clear h k
  go_enter Try.func19, Try.ntmps19
  go_wp2_with fail
  go_loopg [4, 5] xs.length (fun g _ i wr => ∃ k n : Nat, k + g = xs.length ∧ i = .int .i64 k ∧ w.drewN n = wr)
  case atStart => exact ⟨0, 0, by omega, rfl, rfl⟩
  case round =>
    obtain ⟨k, n, hk, rfl, rfl⟩ := hrel
    have HK := Lib.hid hk
    have hk2 : k ≤ xs.length := by omega
    clear hk
    by_cases hlt : k < xs.length
    · obtain ⟨b, o, rfl, hx⟩ := H.out (by omega)
      obtain ⟨b2, o2, rfl, hx2⟩ := K.out (by omega)
      have cx := hx k hlt
      have cy := hx2 k hlt
      clear hx hx2
      obtain ⟨x, hx⟩ : ∃ x, xs[k]! = x := ⟨_, rfl⟩
      rw [hx] at cx cy
      clear hx
      go_wp2_with fail
      go_quiet (fail)
      go_wp2_with fail
      go_roundg (gk - 1)
      case measure => have := HK.out; omega
      case rel => exact ⟨k + 1, _, by have := HK.out; omega, by go_num, rfl⟩
    · go_wp2_with fail
      go_ret
      exact ⟨rfl, n, rfl⟩

/-- The trail under the law's hands: made after w, holding S at depth d; and beside it an int slice that was taken of it. -/
structure TB (w wr : World) (a0 : Nat) (T : Tr) (vars : Nat) (S : List St) (d : Nat) (A : Option Addr) (c : Nat) (xs : List Int) (L : TrL) : Prop where
  a : L.a = a0
  at_ : TrAt wr L T
  rep : TRep T vars S d
  new : ∀ k, k ∈ L.fp → w.heap.size ≤ k
  fr : Fr [] w wr
  was : Ints wr A c xs
  wasnew : ∀ k, k ∈ blks A → w.heap.size ≤ k
  apart : ∀ k, k ∈ blks A → k ∉ L.fp

namespace TB
variable {w wr w' : World} {a0 : Nat} {T T' : Tr} {vars vars' : Nat} {S S' : List St} {d d' : Nat} {A : Option Addr} {c : Nat} {xs : List Int} {L L' : TrL}

theorem step (h : TB w wr a0 T vars S d A c xs L) (h1 : TrAt w' L' T') (h2 : TRep T' vars' S' d') (h3 : L.ext L' wr) (h4 : Fr L.fp wr w') : TB w w' a0 T' vars' S' d' A c xs L' := by
  refine ⟨h3.1.trans h.a, h1, h2, fun k hk => ?_, h.fr.trans h4 (fun k hk => .inr (h.new k hk)), h.was.fr h4 h.apart, h.wasnew, fun k hk hk' => ?_⟩
  · exact (h3.2 k hk).elim (h.new k) fun e => Nat.le_trans h.fr.size e
  · rcases h3.2 k hk' with e | e
    · exact h.apart k hk e
    · have := h.was.lt k hk
      omega
theorem keep (h : TB w wr a0 T vars S d A c xs L) (h4 : Fr [] wr w') : TB w w' a0 T vars S d A c xs L :=
  ⟨h.a, h.at_.fr h4 (fun _ _ => by simp), h.rep, h.new, h.fr.then_ h4, h.was.fr h4 (fun _ _ => by simp), h.wasnew, h.apart⟩
theorem drewN (h : TB w wr a0 T vars S d A c xs L) (n : Nat) : TB w (wr.drewN n) a0 T vars S d A c xs L := h.keep ((Fr.refl [] wr).drewN n)
theorem alloc (h : TB w wr a0 T vars S d A c xs L) (o : Obj) : TB w (wr.alloc o) a0 T vars S d A c xs L := h.keep ((Fr.refl [] wr).alloc o)

theorem put (h : TB w wr a0 T vars S d A c xs L) (x r : Int) (hlo : -9223372036854775808 ≤ x) (hhi : x ≤ 9223372036854775807) (hv : vars ≤ 262144) :
    Calls Try.prog 13 #[.pointer (some ⟨a0, 0, none⟩), .int .i64 x, .int .i64 r] wr fun e w' => e = .returned (.bool (T.putB x)) ∧ ∃ T' L', TB w w' a0 T' vars (if T.putB x = true then S ++ [⟨x, d, r⟩] else S) d A c xs L' := by
  rw [← h.a]
  refine (trail_put wr L T h.at_ x r hlo hhi (by rw [h.rep.lits, List.length_map]; have := h.rep.len_le; omega)).mono ?_
  rintro e w' ⟨he, L', h1, h2, h3⟩
  refine ⟨he, _, L', h.a ▸ h.step h1 ?_ h2 h3⟩
  by_cases hb : T.putB x = true
  · rw [if_pos hb, if_pos hb]
    exact h.rep.put x r hb
  · rw [if_neg hb, if_neg hb]
    exact h.rep
theorem deeper (h : TB w wr a0 T vars S d A c xs L) (hd : d < 17592186044416) :
    Calls Try.prog 15 #[.pointer (some ⟨a0, 0, none⟩)] wr fun e w' => e = .returned (.int .i64 (d + 1 : Nat)) ∧ ∃ T' L', TB w w' a0 T' vars S (d + 1) A c xs L' := by
  rw [← h.a]
  refine (trail_deeper wr L T h.at_ (by rw [h.rep.size]; omega) (by rw [h.rep.dep]; exact hd)).mono ?_
  rintro e w' ⟨he, L', h1, h2, h3⟩
  rw [h.rep.dep] at he
  exact ⟨he, _, L', h.a ▸ h.step h1 h.rep.deep h2 h3⟩
theorem back (h : TB w wr a0 T vars S d A c xs L) (level : Int) :
    Calls Try.prog 16 #[.pointer (some ⟨a0, 0, none⟩), .int .i64 level] wr fun e w' => e = .returned (.tuple #[]) ∧
      ∃ T' L', TB w w' a0 T' vars (if level.toNat < d then S.filter (fun e : St => decide (e.l ≤ (level.toNat : Int))) else S) (if level.toNat < d then level.toNat else d) A c xs L' := by
  rw [← h.a]
  refine (trail_back wr L T h.at_ h.rep.inv level).mono ?_
  rintro e w' ⟨he, h1, h3⟩
  refine ⟨he, _, L, h.a ▸ h.step h1 ?_ (L.ext_refl _) h3⟩
  by_cases hb : level.toNat < d
  · rw [if_pos hb, if_pos hb]
    exact h.rep.back _ hb
  · rw [if_neg hb, if_neg hb, h.rep.stay _ (by omega)]
    exact h.rep
theorem grow (h : TB w wr a0 T vars S d A c xs L) (k : Nat) (hk : vars + k ≤ 262144) :
    Calls Try.prog 39 #[.pointer (some ⟨a0, 0, none⟩), .int .i64 k] wr fun e w' => e = .returned (.tuple #[]) ∧ ∃ T' L', TB w w' a0 T' (vars + k) S d A c xs L' := by
  rw [← h.a]
  refine (trail_grow wr L T h.at_ (by rw [h.rep.size]; omega) (by rw [h.rep.size]; omega) k).mono ?_
  rintro e w' ⟨he, L', h1, h2, h3⟩
  exact ⟨he, _, L', h.a ▸ h.step h1 (h.rep.grow k hk) h2 h3⟩
theorem value (h : TB w wr a0 T vars S d A c xs L) (x v : Int) (hv : (match look S (tv x) with | none => 0 | some e => if e.x = x then 1 else -1) = v) (hlo : -9223372036854775808 ≤ x) (hhi : x ≤ 9223372036854775807) :
    Calls Try.prog 18 #[.pointer (some ⟨a0, 0, none⟩), .int .i64 x] wr fun e w' => e = .returned (.int .i64 v) ∧ wr = w' := by
  have e : T.valF x = v := (h.rep.valF x).trans hv
  rw [← h.a, ← e]
  exact trail_value wr L T h.at_ x hlo hhi h.rep.small
theorem level (h : TB w wr a0 T vars S d A c xs L) (x v : Int) (hv : (match look S x with | none => -1 | some e => e.l) = v) :
    Calls Try.prog 41 #[.pointer (some ⟨a0, 0, none⟩), .int .i64 x] wr fun e w' => e = .returned (.int .i64 v) ∧ wr = w' := by
  have e : T.levB x = v := (h.rep.levB x).trans hv
  rw [← h.a, ← e]
  exact trail_level wr L T h.at_ x
theorem reason (h : TB w wr a0 T vars S d A c xs L) (x v : Int) (hv : (match look S x with | none => 0 | some e => e.r) = v) :
    Calls Try.prog 42 #[.pointer (some ⟨a0, 0, none⟩), .int .i64 x] wr fun e w' => e = .returned (.int .i64 v) ∧ wr = w' := by
  have e : T.reaB x = v := (h.rep.reaB x).trans hv
  rw [← h.a, ← e]
  exact trail_reason wr L T h.at_ x
theorem depth (h : TB w wr a0 T vars S d A c xs L) :
    Calls Try.prog 20 #[.pointer (some ⟨a0, 0, none⟩)] wr fun e w' => e = .returned (.int .i64 d) ∧ wr = w' := by
  have := trail_depth wr L T h.at_
  rwa [h.a, h.rep.dep] at this
theorem len (h : TB w wr a0 T vars S d A c xs L) (n : Nat) (hn : S.length = n) :
    Calls Try.prog 43 #[.pointer (some ⟨a0, 0, none⟩)] wr fun e w' => e = .returned (.int .i64 n) ∧ wr = w' := by
  have := trail_len wr L T h.at_
  rwa [h.a, h.rep.lits, List.length_map, hn] at this
theorem at_is (h : TB w wr a0 T vars S d A c xs L) (i v : Int) (hv : (if 0 ≤ i ∧ i < S.length then (S[i.toNat]!).x else 0) = v) :
    Calls Try.prog 40 #[.pointer (some ⟨a0, 0, none⟩), .int .i64 i] wr fun e w' => e = .returned (.int .i64 v) ∧ wr = w' := by
  have h1 := trail_at wr L T h.at_ i
  have e : T.atB i = v := by
    rw [← hv]
    unfold Tr.atB
    rw [h.rep.lits, List.length_map]
    split
    · rename_i hi
      have : i.toNat < S.length := by omega
      simp [this]
    · rfl
  rwa [h.a, e] at h1
theorem lits (h : TB w wr a0 T vars S d A c xs L) (hv : vars ≤ 262144) :
    Calls Try.prog 14 #[.pointer (some ⟨a0, 0, none⟩)] wr fun e w' => ∃ A' c', e = .returned (.slice A' S.length c') ∧ Ints w' A' c' (S.map (·.x)) ∧ (∀ k, k ∈ blks A' → wr.heap.size ≤ k) ∧ Fr [] wr w' ∧ TB w w' a0 T vars S d A c xs L := by
  have h1 := trail_lits wr L T h.at_ (by rw [h.rep.lits, List.length_map]; have := h.rep.len_le; omega)
  rw [h.a, h.rep.lits] at h1
  refine h1.mono ?_
  rintro e w' ⟨A', c', he, h2, h3, h4⟩
  rw [List.length_map] at he
  exact ⟨A', c', he, h2, h3, h4, h.keep h4⟩
/-- The slice that was taken of it takes the place of the one beside it. -/
theorem take (h : TB w wr a0 T vars S d A c xs L) (hf : Fr [] wr w') {B : Option Addr} {cb : Nat} {ys : List Int} (hi : Ints w' B cb ys) (hn : ∀ k, k ∈ blks B → wr.heap.size ≤ k) : TB w w' a0 T vars S d B cb ys L :=
  ⟨h.a, h.at_.fr hf (fun _ _ => by simp), h.rep, h.new, h.fr.then_ hf, hi, fun k hk => Nat.le_trans h.fr.size (hn k hk), fun k hk hk' => by have := h.at_.lt k hk'; have := hn k hk; omega⟩
end TB

theorem tb_new (w w0 : World) (hw : Fr [] w w0) (n : Int) (m : Nat) (hm : (m : Int) = max n 0) (hm2 : m ≤ 262144) :
    Calls Try.prog 12 #[.int .i64 n] w0 fun e w' => ∃ a0 T L, e = .returned (.pointer (some ⟨a0, 0, none⟩)) ∧ TB w w' a0 T m [] 0 none 0 [] L ∧ w.heap.size ≤ a0 := by
  refine (trail_new w0 n).mono ?_
  rintro e w' ⟨L, he, h1, h2, h3⟩
  have hr : TRep (Tr.fresh.growF n) (0 + m) [] 0 := by
    have e : Tr.fresh.growF n = Tr.fresh.growBy m := by
      unfold Tr.growF
      congr 1
      unfold Tr.room
      have : (Tr.fresh.cells.length : Int) = 1 := rfl
      rw [this]; omega
    rw [e]
    exact TRep.fresh.growBy m
  rw [Nat.zero_add] at hr
  have hs : ∀ k, k ∈ L.fp → w.heap.size ≤ k := fun k hk => Nat.le_trans hw.size (h2 k hk)
  exact ⟨L.a, _, L, he, ⟨rfl, h1, hr, hs, hw.then_ h3, Ints.nil _, by simp [blks], by simp [blks]⟩, hs _ (by simp [TrL.fp])⟩

/-- A slice of ints that a caller handed over. -/
def RdA (w : World) (A : Option Addr) (xs : List Int) : Prop := 0 < xs.length → ∃ b o, A = some ⟨b, o, none⟩ ∧ b < w.heap.size ∧ ∀ j : Nat, j < xs.length → w.cell? ⟨b, o + j, none⟩ = some (.int .i64 xs[j]!)
theorem RdA.cell {w wr : World} {A : Option Addr} {xs : List Int} (h : RdA w A xs) (hf : Fr [] w wr) {j : Nat} (hj : j < xs.length) : ∃ b o, A = some ⟨b, o, none⟩ ∧ wr.cell? ⟨b, o + j, none⟩ = some (.int .i64 xs[j]!) := by
  obtain ⟨b, o, hA, hb, hx⟩ := h (by omega)
  exact ⟨b, o, hA, (World.cell?_of_block (hf.block b hb (by simp))).trans (hx j hj)⟩

end Go.Proofs.Ytnbpnpodpnlamaa
