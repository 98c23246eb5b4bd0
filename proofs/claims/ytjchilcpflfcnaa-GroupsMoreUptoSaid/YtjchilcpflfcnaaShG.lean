/-  -/
import Derived.Test.YtjchilcpflfcnaaSgM
set_option linter.unusedVariables false
set_option maxHeartbeats 4000000
set_option maxRecDepth 100000
namespace Go.Proofs.Ytjchilcpflfcnaa
open Go.RowKit
structure OwnX (X : List Nat) (w0 w : World) (L : SvL) (S : Sv) : Prop where
 own : Own w0 w L S
 fx : ∀ k ∈ X, k < w.heap.size ∧ (L.lab k).1 ≠ L.id
def Stay (X : List Nat) (w w' : World) : Prop := ∃ T, Fr T w w' ∧ ∀ k ∈ X, k ∉ T
namespace Stay
variable {X : List Nat} {w w' w2 : World}
theorem of (h : Fr [] w w') : Stay X w w' := ⟨[], h, fun _ _ hm => by cases hm⟩
theorem at_ (h : Stay X w w') {g : Nat} {t : TypeId} {cs : Array Value} (hg : At w g t cs) (hx : g ∈ X) : At w' g t cs := by
 obtain ⟨T, h1, h2⟩ := h
 exact h1.at_ hg (h2 g hx)
theorem ints (h : Stay X w w') {A : Option Addr} {c : Nat} {xs : List Int} (hi : Ints w A c xs) (hx : ∀ k, k ∈ blks A → k ∈ X) : Ints w' A c xs := by
 obtain ⟨T, h1, h2⟩ := h
 exact hi.fr h1 fun k hk => h2 k (hx k hk)
theorem rd (h : Stay X w w') {A : Option Addr} {xs : List Int} (hr : Rd w A xs) (hx : ∀ k, k ∈ blks A → k ∈ X) : Rd w' A xs := by
 obtain ⟨T, h1, h2⟩ := h
 intro h0
 obtain ⟨b, o, rfl, h3⟩ := hr h0
 refine ⟨b, o, rfl, fun j hj => ?_⟩
 have h4 := h3 j hj
 rw [World.cell?_of_block (h1.block b (lt_of_cell h4) (h2 b (hx b (by simp [blks]))))]
 exact h4
theorem then_ (h : Stay X w w') (h' : Stay X w' w2) (hX : ∀ k ∈ X, k < w.heap.size) : Stay X w w2 := by
 obtain ⟨T, h1, h2⟩ := h
 obtain ⟨T', h3, h4⟩ := h'
 refine ⟨T ++ T', ⟨h3.os.trans h1.os, h3.tape.trans h1.tape, h3.output.trans h1.output, Nat.le_trans h1.size h3.size, fun k hk hm => ?_⟩, fun k hk hm => ?_⟩
 ·simp only [List.mem_append, not_or] at hm
  exact (h3.block k (Nat.lt_of_lt_of_le hk h1.size) hm.2).trans (h1.block k hk hm.1)
 ·rcases List.mem_append.1 hm with h5 | h5
  ·exact h2 k hk h5
  ·exact h4 k hk h5
end Stay
def OxP (X : List Nat) (v : Value) (S' : Sv) (a : Nat) (w0 w : World) (e : Ending) (w' : World) : Prop := e = .returned v ∧ ∃ L', L'.a = a ∧ OwnX X w0 w' L' S' ∧ Stay X w w'
namespace OwnX
variable {X : List Nat} {w0 w w' : World} {L L' : SvL} {S S' : Sv}
theorem next (h : OwnX X w0 w L S) (h' : SvAt w' L' S') (he : L.ext L' w) (hf : Fr (L.own w) w w') : OwnX X w0 w' L' S' ∧ Stay X w w' :=
 ⟨⟨h.own.next h' he hf, fun k hk => ⟨Nat.lt_of_lt_of_le (h.fx k hk).1 hf.size, fun e => (h.fx k hk).2 (he.2.2 k (h.fx k hk).1 (e.trans he.2.1))⟩⟩,
  ⟨L.own w, hf, fun k hk hm => (h.fx k hk).2 (SvL.mem_own.1 hm).2⟩⟩
theorem of {v : Value} {e : Ending} (h : OwnX X w0 w L S) (k : SvP v S' L w e w') : OxP X v S' L.a w0 w e w' := by
 obtain ⟨rfl, L', h1, h2, h3⟩ := k
 obtain ⟨h4, h5⟩ := h.next h1 h2 h3
 exact ⟨rfl, L', h2.1, h4, h5⟩
theorem keep (h : OwnX X w0 w L S) (hf : Fr [] w w') : OwnX X w0 w' L S := ⟨h.own.keep hf, fun k hk => ⟨Nat.lt_of_lt_of_le (h.fx k hk).1 hf.size, (h.fx k hk).2⟩⟩
theorem more (h : OwnX X w0 w L S) (hf : Fr [] w w') {Y : List Nat} (hY : ∀ k ∈ Y, w.heap.size ≤ k ∧ k < w'.heap.size) : OwnX (X ++ Y) w0 w' (L.seal w) S :=
 ⟨h.own.seal.keep hf, fun k hk => by
  rcases List.mem_append.1 hk with h1 | h1
  ·exact ⟨Nat.lt_of_lt_of_le (h.fx k h1).1 hf.size, by rw [SvL.seal_old (h.fx k h1).1]; exact (h.fx k h1).2⟩
  ·exact ⟨(hY k h1).2, SvL.seal_new (hY k h1).1⟩⟩
theorem add (h : OwnX X w0 w L S) (ok : S.Ok 0) (A : Option Addr) (c : Nat) (l : List Int) (hrd : Rdx w L A l) (hra : Ra l) (hn : A = none → c = 0) (hr : S.list.length < 1099511627776) (hu : S.used ≤ 1099511627776) :
  Calls Try.prog 13 #[.pointer (some ⟨L.a, 0, none⟩), .slice A l.length c] w (OxP X (.int .i64 (S.addF l).2) (S.addF l).1 L.a w0 w) :=
 (add_calls w L S h.own.sv ok A c l hrd hra hn hr hu).mono fun _ _ k => h.of k
theorem grow (h : OwnX X w0 w L S) (ok : S.Ok 0) (n : Int) :
  Calls Try.prog 11 #[.pointer (some ⟨L.a, 0, none⟩), .int .i64 n] w (OxP X (.tuple #[.int .i64 (S.growP n).2.1, .int .i64 (S.growP n).2.2]) (S.growP n).1 L.a w0 w) :=
 (growP_calls w L S h.own.sv ok n).mono fun _ _ k => h.of k
theorem solve (h : OwnX X w0 w L S) (red : Bool) (KRED : red = true → RedC) (ok : S.Ok 0) (A : Option Addr) (c : Nat) (us : List Int) (hrd : Rdx w L A us) (hra : Ra us) (hcap : us.length ≤ c) (hul : us.length ≤ 1099511627776) (budget : Int) (D C : Nat) (Q : Sv → Int → Prop) (hus : S.used < 4611686018427387904) (hW : S.solveW red budget us D C Q) :
  Calls Try.prog 17 #[.pointer (some ⟨L.a, 0, none⟩), .int .i64 budget, .slice A us.length c] w fun e w' => ∃ (S' : Sv) (r : Int), Q S' r ∧ S'.Ok 0 ∧ OxP X (.int .i64 r) S' L.a w0 w e w' :=
 (solve_calls red KRED w L S h.own.sv ok A c us hrd hra hcap hul budget D C Q hus hW).mono fun _ _ ⟨S', r, hq, ho, k⟩ => ⟨S', r, hq, ho, h.of k⟩
end OwnX
theorem Own.mark {w0 w w' : World} {L : SvL} {S : Sv} (h : Own w0 w L S) (hf : Fr [] w w') {Y : List Nat} (hY : ∀ k ∈ Y, w.heap.size ≤ k ∧ k < w'.heap.size) : OwnX Y w0 w' (L.seal w) S :=
 (OwnX.mk (X := []) h (fun k hk => by cases hk)).more hf hY
structure GsAt (X : List Nat) (w0 w : World) (L : SvL) (S : Sv) (a : Nat) (A : Option Addr) (c : Nat) (sw : List Int) : Prop where
 ox : OwnX X w0 w L S
 ob : At w a 39 #[.pointer (some ⟨L.a, 0, none⟩), .slice A sw.length c]
 row : Ints w A c sw
 ax : a ∈ X
 bx : ∀ k, k ∈ blks A → k ∈ X
 na : w0.heap.size ≤ a
 nb : ∀ k, k ∈ blks A → w0.heap.size ≤ k
 ne : a ∉ blks A
 rg : ∀ j : Nat, j < sw.length → 0 ≤ sw[j]! ∧ sw[j]! ≤ 300000
 ln : 0 < sw.length ∧ sw.length ≤ 8
namespace GsAt
variable {X : List Nat} {w0 w w' : World} {L L' : SvL} {S S' : Sv} {a : Nat} {A : Option Addr} {c : Nat} {sw : List Int}
theorem keep (h : GsAt X w0 w L S a A c sw) (hf : Fr [] w w') : GsAt X w0 w' L S a A c sw :=
 ⟨h.ox.keep hf, h.ob.keep hf, h.row.fr hf (fun k _ hm => by cases hm), h.ax, h.bx, h.na, h.nb, h.ne, h.rg, h.ln⟩
theorem next (h : GsAt X w0 w L S a A c sw) (hx : OwnX X w0 w' L' S') (hs : Stay X w w') (ha : L'.a = L.a) : GsAt X w0 w' L' S' a A c sw :=
 ⟨hx, by rw [ha]; exact hs.at_ h.ob h.ax, hs.ints h.row h.bx, h.ax, h.bx, h.na, h.nb, h.ne, h.rg, h.ln⟩
theorem more (h : GsAt X w0 w L S a A c sw) (hf : Fr [] w w') {Y : List Nat} (hY : ∀ k ∈ Y, w.heap.size ≤ k ∧ k < w'.heap.size) : GsAt (X ++ Y) w0 w' (L.seal w) S a A c sw :=
 ⟨h.ox.more hf hY, h.ob.keep hf, h.row.fr hf (fun k _ hm => by cases hm), List.mem_append_left _ h.ax, fun k hk => List.mem_append_left _ (h.bx k hk), h.na, h.nb, h.ne, h.rg, h.ln⟩
theorem fr (h : GsAt X w0 w L S a A c sw) : Fr [] w0 w := h.ox.own.fr
theorem ra (h : GsAt X w0 w L S a A c sw) : Ra sw := fun j hj => by
 have := h.rg j hj
 exact ⟨by omega, by omega⟩
end GsAt
theorem gmade_calls (w : World) (a : Nat) (p : Value) (A : Option Addr) (c n : Nat) (h : At w a 39 #[p, .slice A n c]) (hn : 0 < n) :
  Calls Try.prog 10 #[.pointer (some ⟨a, 0, none⟩)] w fun e w' => e = .returned (.bool true) ∧ w = w' := by
 have c1 := h.cell 1
 simp at c1
 have hn' : (0 : Int) < (n : Int) := by omega
 clear h
 go_enter Try.func10, Try.ntmps10
 go_wp2_with fail
 go_ret
 exact ⟨rfl, rfl⟩
def glack (sw : List Int) (g : Int) : Bool := decide (g < 0) || decide ((sw.length : Int) ≤ g) || (decide (0 < g) && (sw[g.toNat]! == 0))
theorem glacks_calls (w : World) (a : Nat) (p : Value) (A : Option Addr) (c : Nat) (sw : List Int) (h : At w a 39 #[p, .slice A sw.length c]) (hr : Ints w A c sw) (g : Int) (hg : R64 g) :
  Calls Try.prog 12 #[.pointer (some ⟨a, 0, none⟩), .int .i64 g] w fun e w' => e = .returned (.bool (glack sw g)) ∧ w = w' := by
 have c1 := h.cell 1
 simp at c1
 have HR := Lib.hid hr
 obtain ⟨Y, hY⟩ : ∃ Y, glack sw g = Y := ⟨_, rfl⟩
 rw [hY]
 have HY : Hid (glack sw g = Y) := hY
 clear h hr hY
 by_cases h0 : g < 0
 ·have d0 : decide (g < 0) = true := decide_eq_true h0
  have hf : Y = true := by rw [← HY.out]; unfold glack; rw [d0]; rfl
  subst hf
  go_enter Try.func12, Try.ntmps12
  go_wp2_with fail
  go_ret
  exact ⟨rfl, rfl⟩
 ·have d0 : decide (g < 0) = false := decide_eq_false h0
  by_cases h1 : (sw.length : Int) ≤ g
  ·have d1 : decide ((sw.length : Int) ≤ g) = true := decide_eq_true h1
   have hf : Y = true := by rw [← HY.out]; unfold glack; rw [d0, d1]; rfl
   subst hf
   go_enter Try.func12, Try.ntmps12
   go_wp2_with fail
   go_ret
   exact ⟨rfl, rfl⟩
  ·have d1 : decide ((sw.length : Int) ≤ g) = false := decide_eq_false h1
   by_cases h2 : 0 < g
   ·have d2 : decide (0 < g) = true := decide_eq_true h2
    obtain ⟨k, rfl⟩ : ∃ k : Nat, g = k := ⟨g.toNat, by omega⟩
    have hk : k < sw.length := by omega
    have hk2 : (k : Int) < (sw.length : Int) := by omega
    obtain ⟨b, rfl, hb⟩ := HR.out.pos hk
    have cx := HR.out.cell hk
    obtain ⟨x, hx⟩ : ∃ x, sw[k]! = x := ⟨_, rfl⟩
    rw [hx] at cx
    have hf : Y = (x == 0) := by rw [← HY.out]; unfold glack; rw [d0, d1, d2, Int.toNat_natCast, hx]; rfl
    subst hf
    clear hx
    go_enter Try.func12, Try.ntmps12
    go_wp2_with fail
    go_ret
    exact ⟨rfl, rfl⟩
   ·have d2 : decide (0 < g) = false := decide_eq_false h2
    have hf : Y = false := by rw [← HY.out]; unfold glack; rw [d0, d1, d2]; rfl
    subst hf
    go_enter Try.func12, Try.ntmps12
    go_wp2_with fail
    go_ret
    exact ⟨rfl, rfl⟩
def gown (sw : List Int) (x : Int) : Bool := !(x == 0) && sw.any (tv x == ·)
theorem gowned_calls (w : World) (a : Nat) (p : Value) (A : Option Addr) (c : Nat) (sw : List Int) (h : At w a 39 #[p, .slice A sw.length c]) (hr : Ints w A c sw) (hra : Ra sw) (hl : sw.length ≤ 8) (x : Int) (hx : R64 x) :
  Calls Try.prog 16 #[.pointer (some ⟨a, 0, none⟩), .int .i64 x] w fun e w' => e = .returned (.bool (gown sw x)) ∧ Fr [] w w' := by
 have c1 := h.cell 1
 simp at c1
 by_cases h0 : x = 0
 ·have d0 : (x == 0) = true := by simp [h0]
  have hf : gown sw x = false := by unfold gown; rw [d0]; rfl
  rw [hf]
  clear h hr hra hf
  go_enter Try.func16, Try.ntmps16
  go_wp2_with fail
  go_ret
  exact ⟨rfl, Fr.refl _ _⟩
 ·have d0 : (x == 0) = false := by simp [h0]
  have KC := Lib.hid (scontains_ints w A c sw (tv x) hr.rd hra (by omega))
  obtain ⟨Y, hY⟩ : ∃ Y, sw.any (tv x == ·) = Y := ⟨_, rfl⟩
  rw [hY] at KC
  have hf : gown sw x = Y := by unfold gown; rw [d0, hY]; rfl
  rw [hf]
  have hm : max x (wrap64 (-x)) = tv x := by
   by_cases hl2 : x < wrap64 (-x)
   ·rw [← tv_up hx hl2]; omega
   ·rw [← tv_on hx hl2]; omega
  have HM := Lib.hid hm
  clear h hr hra hf hY hm
  go_enter Try.func16, Try.ntmps16
  go_wp2_with fail
  rw [HM.out]
  refine KC.out.mono ?_
  rintro e w2 ⟨rfl, hf⟩
  have HF := Lib.hid hf
  clear hf
  go_wp2_with fail
  go_ret
  exact ⟨by show Ending.returned (Value.bool (x != 0 && Y)) = _; rw [show (x != (0 : Int)) = true from by simp [h0], Bool.true_and], HF.out⟩
-- A method value asked of each number.
def AsksM (w : World) (g : Nat) (p0 : Value) (p : Int → Bool) (xs : List Int) : Prop := ∀ W, Fr [] w W → ∀ x, x ∈ xs → R64 x →
 Calls Try.prog g #[p0, .int .i64 x] W fun e w' => e = .returned (.bool (p x)) ∧ Fr [] W w'
theorem index_intsM (w : World) (A : Option Addr) (c : Nat) (xs : List Int) (g : Nat) (p0 : Value) (p : Int → Bool) (eg : ∀ args w, (callFunc g args).run Try.prog w = .ok (.enter g args) w) (h : Rd w A xs) (hr : Ra xs) (hl : xs.length ≤ 17592186044416) (hp : AsksM w g p0 p xs) :
  Calls Try.prog 30 #[.slice A xs.length c, .func (.func g) #[p0] #[]] w (IxP (xs.any p) w) := by
 have HH := Lib.hid h
 have HR := Lib.hid hr
 have HP := Lib.hid hp
 have YES : Hid (∀ (n : Nat) W, n ≤ 17592186044416 → xs.any p = true → Fr [] w W → IxP (xs.any p) w (.returned (.int .i64 (n : Int))) W) := fun n W h1 h2 h3 => ⟨n, rfl, by omega, by omega, by rw [h2]; exact decide_eq_true (by omega), h3⟩
 have NO : Hid (∀ W, xs.any p = false → Fr [] w W → IxP (xs.any p) w (.returned (.int .i64 (-1))) W) := fun W h2 h3 => ⟨-1, rfl, by omega, by omega, by rw [h2]; rfl, h3⟩
 clear h hr hp
 go_enter Try.func30, Try.ntmps30
 go_wp2_with fail
 go_loopg [8] xs.length (fun g i wr => ∃ k : Nat, k + g = xs.length ∧ i = .int .i64 k ∧ Fr [] w wr ∧ NoneTo xs p k)
 case atStart => exact ⟨0, by omega, rfl, Fr.refl _ _, NoneTo.zero _ _⟩
 case round =>
  obtain ⟨k, hk, rfl, hx, hn⟩ := hrel
  have HK := Lib.hid hk
  have HX := Lib.hid hx
  have HN := Lib.hid hn
  have hkn : k ≤ xs.length := by omega
  clear hk hx hn
  by_cases hlt : k < xs.length
  ·obtain ⟨b, o, x, hA, he, cx, hx1, hx2⟩ := (HH.out.keep HX.out).one HR.out hlt
   subst hA
   obtain ⟨q, HQ⟩ : ∃ q, Hid (p x = q) := ⟨_, rfl⟩
   have HC := Lib.hid (HP.out wr HX.out x (by rw [← he.out]; exact mem_get hlt) ⟨hx1, hx2⟩)
   go_wp2_with fail
   refine HC.out.mono ?_
   rw [HQ.out]
   rintro e w2 ⟨rfl, hf⟩
   have HF := Lib.hid (HX.out.then_ hf)
   clear hf
   cases q with
   | true =>
    go_wp2_with fail
    go_ret
    exact YES.out k _ (by omega) (any_yes _ _ k hlt (by rw [he.out]; exact HQ.out)) HF.out
   | false =>
    go_wp2_with fail
    go_roundg (gk - 1)
    case measure => have := HK.out; omega
    case rel => exact ⟨k + 1, by have := HK.out; omega, by go_num, HF.out, HN.out.step (by rw [he.out]; exact HQ.out)⟩
  ·have HT := Lib.hid (HN.out.all hlt)
   clear HN HK
   go_wp2_with fail
   go_ret
   exact NO.out _ HT.out HX.out
theorem contains_intsM (w : World) (A : Option Addr) (c : Nat) (xs : List Int) (g : Nat) (p0 : Value) (p : Int → Bool) (eg : ∀ args w, (callFunc g args).run Try.prog w = .ok (.enter g args) w) (h : Rd w A xs) (hr : Ra xs) (hl : xs.length ≤ 17592186044416) (hp : AsksM w g p0 p xs) :
  Calls Try.prog 15 #[.slice A xs.length c, .func (.func g) #[p0] #[]] w fun e w' => e = .returned (.bool (xs.any p)) ∧ Fr [] w w' := by
 have HC := Lib.hid (index_intsM w A c xs g p0 p eg h hr hl hp)
 clear h hr hp
 go_enter Try.func15, Try.ntmps15
 go_wp2_with fail
 refine HC.out.mono ?_
 rintro e w2 ⟨n, rfl, h1, h2, h3, hf⟩
 have H3 := Lib.hid h3
 have HF := Lib.hid hf
 clear h3 hf
 go_wp2_with fail
 go_ret
 exact ⟨by rw [← H3.out]; rfl, HF.out⟩
theorem enters_glacks : ∀ args w, (callFunc 12 args).run Try.prog w = .ok (.enter 12 args) w := enters_of Try.func12 (by kernel_rfl) rfl
theorem enters_gowned : ∀ args w, (callFunc 16 args).run Try.prog w = .ok (.enter 16 args) w := enters_of Try.func16 (by kernel_rfl) rfl
theorem run_append_rd (w : World) (ty : TypeId) (A : Option Addr) (c : Nat) (xs : List Int) (hown : Ints w A c xs) (B : Option Addr) (d : Nat) (ys : List Int) (hB : B = none → ys.length = 0 ∧ d = 0) (hr : Rd w B ys) (hlen : xs.length + ys.length ≤ 17592186044416) :
  ∃ A' cap w', (Builtin.append_ #[24, 24] ty #[.slice A xs.length c, .slice B ys.length d]).run Try.prog w = .ok (.slice A' (xs.length + ys.length) cap) w' ∧ Ints w' A' cap (xs ++ ys) ∧ Fr (blks A) w w' ∧ (∀ k, k ∈ blks A' → k ∈ blks A ∨ k = w.heap.size) ∧ w.heap.size ≤ w'.heap.size := by
 cases B with
 | none =>
  obtain ⟨h0, rfl⟩ := hB rfl
  have hy := List.eq_nil_of_length_eq_zero h0
  subst hy
  obtain ⟨i0, hi, hz0, hz1, hz2⟩ := info_parts infoInt
  have hc : xs.length ≤ c := by
   rcases hown.form with ⟨_, _, rfl⟩ | ⟨_, _, _, h1, _⟩
   ·simp
   ·exact h1
  have hrun : (Builtin.append_ #[24, 24] ty #[.slice A xs.length c, .slice none 0 0]).run Try.prog w = .ok (.slice A xs.length c) w := by
   cases A <;> simp [Builtin.append_, run_underlying Try.underlying24, sizeOf, typeInfo, hi, Builtin.lenOf, hc, Builtin.firstCells, loadCells, storeCells]
  exact ⟨A, c, w, by rw [List.length_nil, Nat.add_zero]; exact hrun, by rw [List.append_nil]; exact hown, Fr.refl _ _, fun k hk => .inl hk, Nat.le_refl _⟩
 | some ad =>
  obtain ⟨A', cap, w', hrun, h2, h3, h4, h5, h6, h7⟩ := run_append_row w 24 ty 3 (.int .i64 0) 1 8 Try.underlying24 infoInt rfl (by decide) A c xs.length (xs.map (Value.int .i64)) hown ad ys.length d (ys.map (Value.int .i64)) (by simp) (fun j u hu => by
   simp only [List.getElem?_map, Option.map_eq_some_iff] at hu
   obtain ⟨y, hy, rfl⟩ := hu
   have hj := (List.getElem?_eq_some_iff.1 hy).1
   obtain ⟨b, o, hbo, hx⟩ := hr (by omega)
   cases hbo
   have := hx j hj
   rw [List.getElem!_eq_getElem?_getD, hy] at this
   rw [addr_add]
   exact this) (by simp [Value.oneCell']) (by unfold maxLen; omega) (by omega)
  refine ⟨A', cap, w', hrun, ?_, h3, h4, h5⟩
  unfold Ints
  rw [List.length_append, List.map_append]
  exact h2
theorem step_append_rd {w : World} {ops : Array Oper} {o : Oper} {a : Act} {K : Act → World → Prop} {Q : Exit → Act → World → Prop} {E : Prop} (hgd : o.guard = none) (s x : Operand)
  (ho : o.op = .call { callee := .builtin .append, args := #[s, x], argTypes := #[24, 24] }) (A : Option Addr) (c : Nat) (xs : List Int) (n : Nat) (hs : a.eval s = .slice A n c) (hn : n = xs.length) (hown : Ints w A c xs)
  (B : Option Addr) (d : Nat) (ys : List Int) (m : Nat) (hx : a.eval x = .slice B m d) (hm : m = ys.length) (hB : B = none → ys.length = 0 ∧ d = 0) (hr : Rd w B ys) (hlen : xs.length + ys.length ≤ 17592186044416)
  (h : ∀ A' cap w', Ints w' A' cap (xs ++ ys) → Fr (blks A) w w' → (∀ k, k ∈ blks A' → k ∈ blks A ∨ k = w.heap.size) → w.heap.size ≤ w'.heap.size → K (a.put o.dst (.slice A' (n + m) cap)) w') :
  if Region.wanted o (yielded ops a.tmps) = true then Oper.wp Try.prog o a w K Q else E := by
 have hw : Region.wanted o (yielded ops a.tmps) = true := by simp [Region.wanted, hgd]
 rw [if_pos hw]
 subst hn hm
 obtain ⟨A', cap, w', hrun, h2, h3, h4, h5⟩ := run_append_rd w o.type A c xs hown B d ys hB hr hlen
 unfold Oper.wp execOp
 simp only [ho, resolve, invoke, builtin, Sem.run_bind, Sem.run_pure, Result.andThen_ok, List.map_toArray, List.map_cons, List.map_nil, hs, hx, hrun]
 exact h A' cap w' h2 h3 h4 h5
-- A write to X's blocks, younger than the old world.
theorem OwnX.fr_ {X : List Nat} {w0 w w' : World} {L : SvL} {S : Sv} (h : OwnX X w0 w L S) {T : List Nat} (hf : Fr T w w') (hT : ∀ k ∈ T, k ∈ X ∧ w0.heap.size ≤ k) : OwnX X w0 w' L S :=
 ⟨⟨h.own.sv.fr hf (fun k hk h1 => (h.fx k (hT k hk).1).2), h.own.nw, h.own.fr.trans hf (fun x hx => .inr (hT x hx).2)⟩, fun k hk => ⟨Nat.lt_of_lt_of_le (h.fx k hk).1 hf.size, (h.fx k hk).2⟩⟩
theorem GsAt.row_ {X : List Nat} {w0 w w' : World} {L : SvL} {S : Sv} {a : Nat} {A : Option Addr} {c : Nat} {sw : List Int} (h : GsAt X w0 w L S a A c sw) {g cap : Nat} {ys : List Int} (hf : Fr (a :: blks A) w w')
  (hob : At w' a 39 #[.pointer (some ⟨L.a, 0, none⟩), .slice (some ⟨g, 0, none⟩) ys.length cap]) (hrow : Ints w' (some ⟨g, 0, none⟩) cap ys) (hg : g ∈ blks A ∨ w.heap.size ≤ g) (hrg : ∀ j : Nat, j < ys.length → 0 ≤ ys[j]! ∧ ys[j]! ≤ 300000) (hl : 0 < ys.length ∧ ys.length ≤ 8) :
  GsAt (X ++ [g]) w0 w' (L.seal w) S a (some ⟨g, 0, none⟩) cap ys := by
 have hT : ∀ k ∈ a :: blks A, k ∈ X ∧ w0.heap.size ≤ k := fun k hk => by
  rcases List.mem_cons.1 hk with rfl | hk
  ·exact ⟨h.ax, h.na⟩
  ·exact ⟨h.bx k hk, h.nb k hk⟩
 have h1 : OwnX X w0 w (L.seal w) S := ⟨h.ox.own.seal, fun k hk => ⟨(h.ox.fx k hk).1, by rw [SvL.seal_old (h.ox.fx k hk).1]; exact (h.ox.fx k hk).2⟩⟩
 have h2 := h1.fr_ hf hT
 have haw : a < w.heap.size := (h.ox.fx a h.ax).1
 have hw0 : w0.heap.size ≤ w.heap.size := h.fr.size
 refine ⟨⟨h2.own, fun k hk => ?_⟩, hob, hrow, List.mem_append_left _ h.ax, fun k hk => ?_, h.na, fun k hk => ?_, fun hk => ?_, hrg, hl⟩
 ·rcases List.mem_append.1 hk with h3 | h3
  ·exact h2.fx k h3
  ·simp at h3
   subst h3
   refine ⟨hrow.lt k (by simp [blks]), ?_⟩
   rcases hg with h4 | h4
   ·exact (h2.fx k (h.bx k h4)).2
   ·exact SvL.seal_new h4
 ·simp [blks] at hk
  subst hk
  simp
 ·simp [blks] at hk
  subst hk
  rcases hg with h4 | h4
  ·exact h.nb k h4
  ·omega
 ·simp [blks] at hk
  subst hk
  rcases hg with h4 | h4
  ·exact h.ne h4
  ·omega
theorem GsAt.made_ {w w1 : World} {L : SvL} {S : Sv} (h : Own w w1 L S) :
  GsAt [(w1.alloc (.cells #[.int .i64 0] 3)).heap.size, w1.heap.size] w ((w1.alloc (.cells #[.int .i64 0] 3)).alloc (.cells #[.pointer (some ⟨L.a, 0, none⟩), .slice (some ⟨w1.heap.size, 0, none⟩) 1 1] 39)) (L.seal w1) S (w1.alloc (.cells #[.int .i64 0] 3)).heap.size (some ⟨w1.heap.size, 0, none⟩) 1 [0] := by
 have hz : (w1.alloc (.cells #[.int .i64 0] 3)).heap.size = w1.heap.size + 1 := by simp
 have hf : Fr [] w1 ((w1.alloc (.cells #[.int .i64 0] 3)).alloc (.cells #[.pointer (some ⟨L.a, 0, none⟩), .slice (some ⟨w1.heap.size, 0, none⟩) 1 1] 39)) := (box_fr' _ _).then_ (box_fr' _ _)
 have hs := h.fr.size
 refine ⟨h.mark hf (fun k hk => ?_), At.new _ _ _, (row_new w1 [0] (by decide)).alloc _, by simp, fun k hk => ?_, by omega, fun k hk => ?_, fun hk => ?_, fun j hj => ?_, by simp⟩
 ·simp only [List.mem_cons, List.not_mem_nil, or_false] at hk
  have : ((w1.alloc (.cells #[.int .i64 0] 3)).alloc (.cells #[.pointer (some ⟨L.a, 0, none⟩), .slice (some ⟨w1.heap.size, 0, none⟩) 1 1] 39)).heap.size = w1.heap.size + 2 := by simp
  omega
 ·simp [blks] at hk
  simp [hk]
 ·simp [blks] at hk
  omega
 ·simp [blks] at hk
 ·simp at hj
  subst hj
  decide
theorem gnew_calls (w : World) (vars : Int) (h0 : -9223372036854775808 ≤ vars) (h1 : vars ≤ 9223372036854775807) :
  Calls Try.prog 5 #[.int .i64 vars] w fun e w' => ∃ (L : SvL) (a b : Nat), e = .returned (.pointer (some ⟨a, 0, none⟩)) ∧ GsAt [a, b] w w' L (Sv.new vars) a (some ⟨b, 0, none⟩) 1 [0] := by
 have KN := Lib.hid (own_new w vars h0 h1)
 go_enter Try.func5, Try.ntmps5
 go_wp2_with fail
 refine KN.out.mono ?_
 clear KN
 rintro e w1 ⟨L, rfl, h1⟩
 have h2 := GsAt.made_ h1
 rw [show (w1.alloc (.cells #[.int .i64 0] 3)).heap.size = w1.heap.size + 1 by simp] at h2
 have H1 := Lib.hid h2
 clear h2
 clear h1
 go_wp2_with fail
 go_ret
 exact ⟨_, _, _, rfl, H1.out⟩
theorem gr_one {S : Sv} (h : S.vars ≤ 200000) : S.growP 1 = (S.fresh0.grow 1, (S.vars : Int), 0) := by
 unfold Sv.growP
 rw [if_neg (by omega)]
 rfl
theorem gopen_calls {X : List Nat} {w0 w : World} {L : SvL} {S : Sv} {a : Nat} {A : Option Addr} {c : Nat} {sw : List Int} (h : GsAt X w0 w L S a A c sw) (ok : S.Ok 0) (hv : S.vars ≤ 200000) (hl : sw.length ≤ 7) :
  Calls Try.prog 6 #[.pointer (some ⟨a, 0, none⟩)] w fun e w' => e = .returned (.tuple #[.int .i64 (sw.length : Int), .int .i64 0]) ∧ ∃ (L' : SvL) (A' : Option Addr) (c' : Nat) (X' : List Nat), (∀ k ∈ X, k ∈ X') ∧ GsAt X' w0 w' L' (S.fresh0.grow 1) a A' c' (sw ++ [(S.vars : Int) + 1]) := by
 have KM := Lib.hid (gmade_calls w a _ A c sw.length h.ob h.ln.1)
 have KG := h.ox.grow ok 1
 rw [gr_one hv] at KG
 have KG := Lib.hid KG
 have c0 := h.ob.cell 0
 simp at c0
 have HH := Lib.hid h
 obtain ⟨V, hV⟩ : ∃ V, S.vars = V := ⟨_, rfl⟩
 obtain ⟨n, hn⟩ : ∃ n, sw.length = n := ⟨_, rfl⟩
 have HN := Lib.hid hn
 rw [hV] at hv KG
 rw [hV, hn]
 rw [hn] at hl
 have hw1 : IntKind.i64.wrap ((V : Int) + 1) = (V : Int) + 1 := IntWalk.i64_in _ (by omega)
 have hw2 : IntKind.i64.wrap (((n + 1 : Nat) : Int) - 1) = (n : Int) := by rw [show ((n + 1 : Nat) : Int) - 1 = (n : Int) by omega]; exact IntWalk.i64_in _ (by omega)
 clear h ok hV hn
 go_enter Try.func6, Try.ntmps6
 go_wp2_with fail
 refine KM.out.mono ?_
 rintro e w1 ⟨rfl, rfl⟩
 go_wp2_with fail
 refine KG.out.mono ?_
 clear KM KG c0
 rintro e w1 ⟨rfl, L1, a1, x1, s1⟩
 have H1 := Lib.hid (HH.out.next x1 s1 a1)
 have d1 := H1.out.ob.cell 1
 simp at d1
 rw [HN.out] at d1
 clear x1 s1 a1
 obtain ⟨wb, hwb⟩ : ∃ W, w1.alloc (.cells #[.int .i64 ((V : Int) + 1)] 3) = W := ⟨_, rfl⟩
 have HFB : Hid (Fr [] w1 wb) := hwb ▸ box_fr' _ _
 have hcell : wb.cell? ⟨w1.heap.size, 0, none⟩ = some (.int .i64 ((V : Int) + 1)) := by
  rw [← hwb]
  exact (At.new w1 3 #[.int .i64 ((V : Int) + 1)]).cell 0
 go_wp2_with (at_builtin; (refine wpList_append_int _ rfl _ _ rfl A c sw n rfl HN.out.symm (H1.out.row.fr HFB.out (fun k _ hm => by cases hm)) ⟨w1.heap.size, 0, none⟩ 1 ((V : Int) + 1) rfl hcell (by rw [HN.out]; omega) ?_; intro g cap w2 hi2 hf2 hg2 hs2; have hob2 := hf2.at_ (H1.out.ob.keep HFB.out) H1.out.ne; have e1 := hob2.cell 1; simp at e1; rw [HN.out] at e1; have fz := hob2.frozen 1; have HI2 := Lib.hid hi2; have HF2 := Lib.hid hf2; have HG2 := Lib.hid hg2; have HOB2 := Lib.hid hob2; clear hi2 hf2 hg2 hs2 hob2 hcell))
 obtain ⟨w3, hw3⟩ : ∃ w3, w2.setCell ⟨a, 1, none⟩ (.slice (some ⟨g, 0, none⟩) (n + 1) cap) = w3 := ⟨_, rfl⟩
 have hf3 : Fr (a :: blks A) w1 w3 := by
  have h1 : Fr (a :: blks A) w1 w2 := (HFB.out.mono (fun k hk => by cases hk)).then_ (HF2.out.mono (fun k hk => .inl (List.mem_cons_of_mem _ hk)))
  exact hw3 ▸ h1.setCell (.inl (by simp)) _
 have hob3 : At w3 a 39 #[.pointer (some ⟨L1.a, 0, none⟩), .slice (some ⟨g, 0, none⟩) (n + 1) cap] := hw3 ▸ HOB2.out.set_ 1 _
 have hag : a ≠ g := fun e => by
  rcases HG2.out with h1 | h1
  ·exact H1.out.ne (e ▸ h1)
  ·have h2 := (H1.out.ox.fx a H1.out.ax).1
   have h3 := HFB.out.size
   omega
 have hrow3 : Ints w3 (some ⟨g, 0, none⟩) cap (sw ++ [(V : Int) + 1]) := hw3 ▸ HI2.out.far (by simp [blks]; exact hag) _
 have hlen3 : (sw ++ [(V : Int) + 1]).length = n + 1 := by rw [List.length_append, HN.out]; rfl
 have H3 : Hid (GsAt (X ++ [g]) w0 w3 (L1.seal w1) (S.fresh0.grow 1) a (some ⟨g, 0, none⟩) cap (sw ++ [(V : Int) + 1])) := H1.out.row_ hf3 (by rw [hlen3]; exact hob3) hrow3 (HG2.out.imp id (fun h => by have := HFB.out.size; omega)) (fun j hj => by
  by_cases e : j < sw.length
  ·rw [List.getElem!_eq_getElem?_getD, List.getElem?_append_left e, ← List.getElem!_eq_getElem?_getD]
   exact H1.out.rg j e
  ·have : j = sw.length := by rw [List.length_append] at hj; simp at hj; omega
   subst this
   simp
   omega) (by rw [hlen3]; omega)
 have e3 := hob3.cell 1
 simp at e3
 rw [hw3]
 clear hf3 hob3 hag hrow3 hlen3 hw3 e1 fz d1
 go_wp2_with fail
 go_ret2
 exact ⟨rfl, _, _, _, _, fun k hk => List.mem_append_left _ hk, H3.out⟩
def GaP (v : Value) (S' : Sv) (X : List Nat) (w0 : World) (la a : Nat) (A : Option Addr) (c : Nat) (sw : List Int) (e : Ending) (w' : World) : Prop := e = .returned v ∧ ∃ L', L'.a = la ∧ GsAt X w0 w' L' S' a A c sw
theorem GsAt.calm {X : List Nat} {w0 w W : World} {L : SvL} {S : Sv} {a : Nat} {A : Option Addr} {c : Nat} {sw : List Int} (h : GsAt X w0 w L S a A c sw) (hW : Fr [] w W) : GsAt X w0 W (L.seal w) S a A c sw := by
 have := h.more hW (Y := []) (fun k hk => by cases hk)
 rwa [List.append_nil] at this
theorem gadd_calls {X : List Nat} {w0 w : World} {L : SvL} {S : Sv} {a : Nat} {A : Option Addr} {c : Nat} {sw : List Int} (h : GsAt X w0 w L S a A c sw) (ok : S.Ok 0) (ys : List Int) (hra : Ra ys) (hr : S.list.length < 1099511627776) (hu : S.used ≤ 1099511627776)
  (W : World) (hW : Fr [] w W) (A3 : Option Addr) (c3 : Nat) (hi : Ints W A3 c3 ys) (hk : ∀ k, k ∈ blks A3 → w.heap.size ≤ k) :
  Calls Try.prog 13 #[.pointer (some ⟨L.a, 0, none⟩), .slice A3 ys.length c3] W (GaP (.int .i64 (S.addF ys).2) (S.addF ys).1 X w0 L.a a A c sw) := by
 have h1 := h.calm hW
 refine (h1.ox.add ok A3 c3 ys ⟨hi.rd, fun _ k hk2 => SvL.seal_new (hk k hk2)⟩ hra (fun e => ?_) hr hu).mono ?_
 ·rcases hi.form with ⟨_, h2, _⟩ | ⟨g, h2, _⟩
  ·exact h2
  ·rw [e] at h2; cases h2
 ·rintro e w' ⟨rfl, L', h2, h3, h4⟩
  exact ⟨rfl, L', h2, h1.next h3 h4 h2⟩
def gputF (sw : List Int) (S : Sv) (g : Nat) (l : List Int) : Sv × Int := if g = 0 then S.addF l else if l.length = 1024 then (S, 5) else S.addF (l ++ [-sw[g]!])
theorem glack_no {sw : List Int} {g : Nat} (hg : g < sw.length) (hs : 0 < g → sw[g]! ≠ 0) : glack sw (g : Int) = false := by
 unfold glack
 rw [Int.toNat_natCast, decide_eq_false (show ¬ (g : Int) < 0 by omega), decide_eq_false (show ¬ (sw.length : Int) ≤ (g : Int) by omega)]
 by_cases h0 : 0 < g
 ·rw [decide_eq_true (show (0 : Int) < (g : Int) by omega), beq_eq_false_iff_ne.2 (hs h0)]
  rfl
 ·rw [decide_eq_false (show ¬ (0 : Int) < (g : Int) by omega)]
  rfl
theorem Ra.snoc {l : List Int} {x : Int} (h : Ra l) (hx : R64 x) : Ra (l ++ [x]) := by
 intro j hj
 by_cases e : j < l.length
 ·rw [List.getElem!_eq_getElem?_getD, List.getElem?_append_left e, ← List.getElem!_eq_getElem?_getD]
  exact h j e
 ·have : j = l.length := by simp at hj; omega
  subst this
  simpa [List.getElem!_eq_getElem?_getD] using hx
theorem gput_calls {X : List Nat} {w0 w : World} {L : SvL} {S : Sv} {a : Nat} {A : Option Addr} {c : Nat} {sw : List Int} (h : GsAt X w0 w L S a A c sw) (ok : S.Ok 0) (g : Nat) (hg : g < sw.length) (hs : 0 < g → sw[g]! ≠ 0)
  (Al : Option Addr) (cl : Nat) (l : List Int) (hrd : Rdx w L Al l) (hra : Ra l) (hn : Al = none → l.length = 0 ∧ cl = 0) (hl : l.length < 17592186044416) (hr : S.list.length < 1099511627776) (hu : S.used ≤ 1099511627776) :
  Calls Try.prog 7 #[.pointer (some ⟨a, 0, none⟩), .int .i64 (g : Int), .slice Al l.length cl] w (GaP (.int .i64 (gputF sw S g l).2) (gputF sw S g l).1 X w0 L.a a A c sw) := by
 have KM := Lib.hid (gmade_calls w a _ A c sw.length h.ob h.ln.1)
 have hln := h.ln.2
 have KL := glacks_calls w a _ A c sw h.ob h.row (g : Int) ⟨by omega, by omega⟩
 rw [glack_no hg hs] at KL
 have KL := Lib.hid KL
 have c0 := h.ob.cell 0
 simp at c0
 have HH := Lib.hid h
 by_cases h0 : g = 0
 ·have d0 : ((g : Int) == (0 : Int)) = true := by rw [beq_iff_eq]; omega
  have hR : gputF sw S g l = S.addF l := if_pos h0
  rw [hR]
  have KA := Lib.hid (h.ox.add ok Al cl l hrd hra (fun e => (hn e).2) hr hu)
  clear h ok hrd hra hn hR h0 hg hs hln
  go_enter Try.func7, Try.ntmps7
  go_wp2_with fail
  refine KM.out.mono ?_
  rintro e w1 ⟨rfl, rfl⟩
  go_wp2_with fail
  refine KL.out.mono ?_
  rintro e w1 ⟨rfl, rfl⟩
  go_wp2_with fail
  refine KA.out.mono ?_
  rintro e w1 ⟨rfl, L1, a1, x1, s1⟩
  have FF := Lib.hid (HH.out.next x1 s1 a1)
  have HA1 := Lib.hid a1
  clear x1 s1 a1
  go_wp2_with fail
  go_ret
  exact ⟨rfl, L1, HA1.out, FF.out⟩
 ·have d0 : ((g : Int) == (0 : Int)) = false := by rw [beq_eq_false_iff_ne]; omega
  by_cases h1 : l.length = 1024
  ·have d1 : ((l.length : Int) == (1024 : Int)) = true := by rw [beq_iff_eq]; omega
   have hR : gputF sw S g l = (S, 5) := by unfold gputF; rw [if_neg h0, if_pos h1]
   rw [hR]
   clear h ok hrd hra hn hR h0 h1 hg hs hln
   go_enter Try.func7, Try.ntmps7
   go_wp2_with fail
   refine KM.out.mono ?_
   rintro e w1 ⟨rfl, rfl⟩
   go_wp2_with fail
   refine KL.out.mono ?_
   rintro e w1 ⟨rfl, rfl⟩
   go_wp2_with fail
   go_ret
   exact ⟨rfl, L, rfl, HH.out⟩
  ·have d1 : ((l.length : Int) == (1024 : Int)) = false := by rw [beq_eq_false_iff_ne]; omega
   have hR : gputF sw S g l = S.addF (l ++ [-sw[g]!]) := by unfold gputF; rw [if_neg h0, if_neg h1]
   rw [hR]
   have hrg := h.rg g hg
   obtain ⟨b, hA, hb⟩ := h.row.pos hg
   have hrow := h.row
   rw [hA] at hrow
   have cx := hrow.cell hg
   have c1 := h.ob.cell 1
   simp at c1
   obtain ⟨x, hx⟩ : ∃ x, sw[g]! = x := ⟨_, rfl⟩
   rw [hx] at cx hrg
   rw [hx]
   have hw1 : IntKind.i64.wrap (-x) = -x := IntWalk.i64_in _ (by omega)
   have hgl : (g : Int) < (sw.length : Int) := by omega
   have HC0 := Lib.hid c0
   have HC1 : Hid (w.cell? ⟨a, 1, none⟩ = some (.slice (some ⟨b, 0, none⟩) sw.length c)) := by rw [← hA]; exact c1
   have HCX := Lib.hid cx
   have hyl : (l ++ [-x]).length = l.length + 1 := by simp
   have KA := fun W hW A3 c3 => gadd_calls h ok (l ++ [-x]) (hra.snoc ⟨by omega, by omega⟩) hr hu W hW A3 c3
   rw [hyl] at KA
   have KA := Lib.hid KA
   have KCL : Hid (∀ W, Fr [] w W → Calls Try.prog 14 #[.slice Al l.length cl] W fun e w' => ∃ A' c', e = .returned (.slice A' l.length c') ∧ Ints w' A' c' l ∧ (∀ k, k ∈ blks A' → w.heap.size ≤ k) ∧ Fr [] w w' ∧ Fr [] W w') := fun W hW => (clone_rd W Al cl l (hrd.1.keep hW) (fun e => (hn e).2) hl).mono fun e w' ⟨A', c', h1, h2, h3, h4⟩ => ⟨A', c', h1, h2, fun k hk => Nat.le_trans hW.size (h3 k hk), hW.then_ h4, h4⟩
   clear h ok hrd hra hn hR h0 h1 hs hln cx hrow hyl c0 c1 hx hA hb
   go_enter Try.func7, Try.ntmps7
   go_wp2_with fail
   refine KM.out.mono ?_
   rintro e w1 ⟨rfl, rfl⟩
   go_wp2_with fail
   refine KL.out.mono ?_
   rintro e w1 ⟨rfl, rfl⟩
   go_upto_region 9 with fail
   clear KM KL
   refine wp_region_noPanic ?_
   refine wp_region_C (fun w' : World => Fr [] w w') 16 (by kernel_rfl) ((Fr.refl [] w).drew) (fun hT0 => ?_)
   refine wpAnyC_take0 (i := 0) (oi := ?oir9u1) (v := ?vr9u1) ?hir9u1 (by kernel_rfl) (by kernel_rfl) (by kernel_rfl) (by kernel_rfl) ?hQr9u1 ?hwr9u1 ?hyr9u1 hT0 ?_
   case hir9u1 => (simp only [List.getElem?_toArray, List.getElem?_cons_zero]; rfl)
   case hQr9u1 => exact fun _ _ _ h => h
   case hwr9u1 => rfl
   case hyr9u1 => (intro w; go_simp <;> with_reducible rfl)
   try simp only [Act.put, List.setIfInBounds_toArray, List.set_cons_zero, List.set_cons_succ]
   refine wpAnyC_take0 (i := 1) (oi := ?oir9u2) (v := ?vr9u2) ?hir9u2 (by kernel_rfl) (by kernel_rfl) (by kernel_rfl) (by kernel_rfl) ?hQr9u2 ?hwr9u2 ?hyr9u2 (hT0.more 0) ?_
   case hir9u2 => (simp only [List.getElem?_toArray, List.getElem?_cons_succ, List.getElem?_cons_zero]; rfl)
   case hQr9u2 => exact fun _ _ _ h => h
   case hwr9u2 => rfl
   case hyr9u2 => (intro w; go_simp <;> with_reducible rfl)
   try simp only [Act.put, List.setIfInBounds_toArray, List.set_cons_zero, List.set_cons_succ]
   refine wpAnyC_take0 (i := 2) (oi := ?oir9u3) (v := ?vr9u3) ?hir9u3 (by kernel_rfl) (by kernel_rfl) (by kernel_rfl) (by kernel_rfl) ?hQr9u3 ?hwr9u3 ?hyr9u3 ((hT0.more 0).more 1) ?_
   case hir9u3 => (simp only [List.getElem?_toArray, List.getElem?_cons_succ, List.getElem?_cons_zero]; rfl)
   case hQr9u3 => exact fun _ _ _ h => h
   case hwr9u3 => rfl
   case hyr9u3 => (intro w; go_simp <;> with_reducible rfl)
   try simp only [Act.put, List.setIfInBounds_toArray, List.set_cons_zero, List.set_cons_succ]
   refine wpAnyC_take (i := 3) (oi := ?oir9u4) (v := ?vr9u4) [3, 16] ?hir9u4 (by kernel_rfl) (by kernel_rfl) (by kernel_rfl) (by kernel_rfl) ?hQr9u4 (.inl ⟨?hwr9u4, ?hyr9u4⟩) ((((hT0.more 0).more 1).more 2).resolve_left (by decide)) ?_
   case hir9u4 => (simp only [List.getElem?_toArray, List.getElem?_cons_succ, List.getElem?_cons_zero]; rfl)
   case hQr9u4 => exact fun _ _ _ h => h
   case hwr9u4 => rfl
   case hyr9u4 => (intro w hSw; (have s0 := hSw.cellS HC0.out; have s1 := hSw.cellS HC1.out; have s2 := hSw.cellS HCX.out); go_simp <;> with_reducible rfl)
   try simp only [Act.put, List.setIfInBounds_toArray, List.set_cons_zero, List.set_cons_succ]
   refine wpAnyC_take0 (i := 4) (oi := ?oir9u5) (v := ?vr9u5) ?hir9u5 (by kernel_rfl) (by kernel_rfl) (by kernel_rfl) (by kernel_rfl) ?hQr9u5 ?hwr9u5 ?hyr9u5 ((((hT0.more 0).more 1).more 2).more 3) ?_
   case hir9u5 => (simp only [List.getElem?_toArray, List.getElem?_cons_succ, List.getElem?_cons_zero]; rfl)
   case hQr9u5 => exact fun _ _ _ h => h
   case hwr9u5 => rfl
   case hyr9u5 => (intro w; go_simp <;> with_reducible rfl)
   try simp only [Act.put, List.setIfInBounds_toArray, List.set_cons_zero, List.set_cons_succ]
   refine wpAnyC_take0 (i := 6) (oi := ?oir9u6) (v := ?vr9u6) ?hir9u6 (by kernel_rfl) (by kernel_rfl) (by kernel_rfl) (by kernel_rfl) ?hQr9u6 ?hwr9u6 ?hyr9u6 (((((hT0.more 0).more 1).more 2).more 3).more 4) ?_
   case hir9u6 => (simp only [List.getElem?_toArray, List.getElem?_cons_succ, List.getElem?_cons_zero]; rfl)
   case hQr9u6 => exact fun _ _ _ h => h
   case hwr9u6 => rfl
   case hyr9u6 => (intro w; go_simp <;> with_reducible rfl)
   try simp only [Act.put, List.setIfInBounds_toArray, List.set_cons_zero, List.set_cons_succ]
   refine wpAnyC_take0 (i := 7) (oi := ?oir9u7) (v := ?vr9u7) ?hir9u7 (by kernel_rfl) (by kernel_rfl) (by kernel_rfl) (by kernel_rfl) ?hQr9u7 ?hwr9u7 ?hyr9u7 ((((((hT0.more 0).more 1).more 2).more 3).more 4).more 6) ?_
   case hir9u7 => (simp only [List.getElem?_toArray, List.getElem?_cons_succ, List.getElem?_cons_zero]; rfl)
   case hQr9u7 => exact fun _ _ _ h => h
   case hwr9u7 => rfl
   case hyr9u7 => (intro w; go_simp <;> with_reducible rfl)
   try simp only [Act.put, List.setIfInBounds_toArray, List.set_cons_zero, List.set_cons_succ]
   refine wpAnyC_take0 (i := 8) (oi := ?oir9u8) (v := ?vr9u8) ?hir9u8 (by kernel_rfl) (by kernel_rfl) (by kernel_rfl) (by kernel_rfl) ?hQr9u8 ?hwr9u8 ?hyr9u8 (((((((hT0.more 0).more 1).more 2).more 3).more 4).more 6).more 7) ?_
   case hir9u8 => (simp only [List.getElem?_toArray, List.getElem?_cons_succ, List.getElem?_cons_zero]; rfl)
   case hQr9u8 => exact fun _ _ _ h => h
   case hwr9u8 => rfl
   case hyr9u8 => (intro w; go_simp <;> with_reducible rfl)
   try simp only [Act.put, List.setIfInBounds_toArray, List.set_cons_zero, List.set_cons_succ]
   refine wpAnyC_take (i := 9) (oi := ?oir9u9) (v := ?vr9u9) [9, 11, 12, 13, 14, 15, 16] ?hir9u9 (by kernel_rfl) (by kernel_rfl) (by kernel_rfl) (by kernel_rfl) ?hQr9u9 (.inl ⟨?hwr9u9, ?hyr9u9⟩) (((((((((hT0.more 0).more 1).more 2).more 3).more 4).more 6).more 7).more 8).resolve_left (by decide)) ?_
   case hir9u9 => (simp only [List.getElem?_toArray, List.getElem?_cons_succ, List.getElem?_cons_zero]; rfl)
   case hQr9u9 => exact fun _ _ _ h => h
   case hwr9u9 => rfl
   case hyr9u9 => (intro w hSw; (have s0 := hSw.cellS HC0.out; have s1 := hSw.cellS HC1.out; have s2 := hSw.cellS HCX.out); go_simp <;> with_reducible rfl)
   try simp only [Act.put, List.setIfInBounds_toArray, List.set_cons_zero, List.set_cons_succ]
   refine wpAnyC_take0 (i := 10) (oi := ?oir9u10) (v := ?vr9u10) ?hir9u10 (by kernel_rfl) (by kernel_rfl) (by kernel_rfl) (by kernel_rfl) ?hQr9u10 ?hwr9u10 ?hyr9u10 (((((((((hT0.more 0).more 1).more 2).more 3).more 4).more 6).more 7).more 8).more 9) ?_
   case hir9u10 => (simp only [List.getElem?_toArray, List.getElem?_cons_succ, List.getElem?_cons_zero]; rfl)
   case hQr9u10 => exact fun _ _ _ h => h
   case hwr9u10 => rfl
   case hyr9u10 => (intro w; go_simp <;> with_reducible rfl)
   try simp only [Act.put, List.setIfInBounds_toArray, List.set_cons_zero, List.set_cons_succ]
   refine wpAnyC_take0 (i := 11) (oi := ?oir9u11) (v := ?vr9u11) ?hir9u11 (by kernel_rfl) (by kernel_rfl) (by kernel_rfl) (by kernel_rfl) ?hQr9u11 ?hwr9u11 ?hyr9u11 ((((((((((hT0.more 0).more 1).more 2).more 3).more 4).more 6).more 7).more 8).more 9).more 10) ?_
   case hir9u11 => (simp only [List.getElem?_toArray, List.getElem?_cons_succ, List.getElem?_cons_zero]; rfl)
   case hQr9u11 => exact fun _ _ _ h => h
   case hwr9u11 => rfl
   case hyr9u11 => (intro w; go_simp <;> with_reducible rfl)
   try simp only [Act.put, List.setIfInBounds_toArray, List.set_cons_zero, List.set_cons_succ]
   refine wpAnyC_take (i := 12) (oi := ?oir9u12) (v := ?vr9u12) [12, 13, 14, 15, 16] ?hir9u12 (by kernel_rfl) (by kernel_rfl) (by kernel_rfl) (by kernel_rfl) ?hQr9u12 (.inl ⟨?hwr9u12, ?hyr9u12⟩) ((((((((((((hT0.more 0).more 1).more 2).more 3).more 4).more 6).more 7).more 8).more 9).more 10).more 11).resolve_left (by decide)) ?_
   case hir9u12 => (simp only [List.getElem?_toArray, List.getElem?_cons_succ, List.getElem?_cons_zero]; rfl)
   case hQr9u12 => exact fun _ _ _ h => h
   case hwr9u12 => rfl
   case hyr9u12 => (intro w hSw; (have s0 := hSw.cellS HC0.out; have s1 := hSw.cellS HC1.out; have s2 := hSw.cellS HCX.out); go_simp <;> with_reducible rfl)
   try simp only [Act.put, List.setIfInBounds_toArray, List.set_cons_zero, List.set_cons_succ]
   refine wpAnyC_take0 (i := 13) (oi := ?oir9u13) (v := ?vr9u13) ?hir9u13 (by kernel_rfl) (by kernel_rfl) (by kernel_rfl) (by kernel_rfl) ?hQr9u13 ?hwr9u13 ?hyr9u13 ((((((((((((hT0.more 0).more 1).more 2).more 3).more 4).more 6).more 7).more 8).more 9).more 10).more 11).more 12) ?_
   case hir9u13 => (simp only [List.getElem?_toArray, List.getElem?_cons_succ, List.getElem?_cons_zero]; rfl)
   case hQr9u13 => exact fun _ _ _ h => h
   case hwr9u13 => rfl
   case hyr9u13 => (intro w; go_simp <;> with_reducible rfl)
   try simp only [Act.put, List.setIfInBounds_toArray, List.set_cons_zero, List.set_cons_succ]
   have hSx := (((((((((((((hT0.more 0).more 1).more 2).more 3).more 4).more 6).more 7).more 8).more 9).more 10).more 11).more 12).more 13).resolve_left (by decide)
   refine wpAnyC_ready (rs := [5, 14]) (by kernel_rfl) (by simp) ?_
   refine ReadyC.cons (o := ?or9u14) ?hor9u14 ?hstepr9u14 ?_
   case hor9u14 => (simp only [List.getElem?_toArray, List.getElem?_cons_succ, List.getElem?_cons_zero]; rfl)
   case hstepr9u14 =>
    intro K hK
    (go_simp; refine (KCL.out _ hSx).mono ?_; rintro e w2 ⟨A2, c2, rfl, hi2, hk2, hf2, hg2⟩; dsimp only)
    refine hK.out _ _ (.inr ?_) (fun hT14 => ?_)
    ·first | exact hSx.trans hf3 (fun j hj => .inr (hk2 j hj)) | exact hf2 | exact hSx.alloc _ | exact hSx
    clear hK K
    try simp only [Act.put, List.setIfInBounds_toArray, List.set_cons_zero, List.set_cons_succ]
    have hSx := hT14.resolve_left (by decide)
    refine wpAnyC_ready (rs := [14]) (by kernel_rfl) (by simp) ?_
    refine ReadyC.cons (o := ?or9u15) ?hor9u15 ?hstepr9u15 ReadyC.nil
    case hor9u15 => (simp only [List.getElem?_toArray, List.getElem?_cons_succ, List.getElem?_cons_zero]; rfl)
    intro K hK
    go_simp
    refine hK.out _ _ (.inr ?_) (fun hT15 => ?_)
    ·first | exact hSx.trans hf3 (fun j hj => .inr (hk2 j hj)) | exact hf2 | exact hSx.alloc _ | exact hSx
    clear hK K
    try simp only [Act.put, List.setIfInBounds_toArray, List.set_cons_zero, List.set_cons_succ]
    have hSx := hT15.resolve_left (by decide)
    refine wpAnyC_ready (rs := [15]) (by kernel_rfl) (by simp) ?_
    refine ReadyC.cons (o := ?or9u16) ?hor9u16 ?hstepr9u16 ReadyC.nil
    case hor9u16 => (simp only [List.getElem?_toArray, List.getElem?_cons_succ, List.getElem?_cons_zero]; rfl)
    intro K hK
    (refine step_append_int rfl _ _ rfl A2 c2 l _ rfl rfl ?hownr9u16 _ 1 (-x) rfl ?hcellr9u16 hl ?_; (case hownr9u16 => first | exact hi2.alloc _ | exact hi2); (case hcellr9u16 => first | (simp; done) | (refine hg2.cellS ?_; simp)); intro g3 cap3 w3 hi3 hf3 hg3 hs3; have hK3 : ∀ k, k ∈ blks (some (⟨g3, 0, none⟩ : Addr)) → w.heap.size ≤ k := (fun k hk => by simp [blks] at hk; subst hk; rcases hg3 with h | h; exact hk2 k h; rw [h]; exact hSx.size))
    refine hK.out _ _ (.inr ?_) (fun hT16 => ?_)
    ·first | exact hSx.trans hf3 (fun j hj => .inr (hk2 j hj)) | exact hf2 | exact hSx.alloc _ | exact hSx
    clear hK K
    try simp only [Act.put, List.setIfInBounds_toArray, List.set_cons_zero, List.set_cons_succ]
    have hSx := hT16.resolve_left (by decide)
    refine wpAnyC_ready (rs := [16]) (by kernel_rfl) (by simp) ?_
    refine ReadyC.cons (o := ?or9u17) ?hor9u17 ?hstepr9u17 ReadyC.nil
    case hor9u17 => (simp only [List.getElem?_toArray, List.getElem?_cons_succ, List.getElem?_cons_zero]; rfl)
    intro K hK
    (go_simp; refine (KA.out _ hSx _ _ hi3 hK3).mono ?_; rintro e w4 ⟨rfl, L4, a4, h4⟩; dsimp only)
    refine hK.out _ _ (.inl rfl) (fun hT17 => ?_)
    clear hK K
    try simp only [Act.put, List.setIfInBounds_toArray, List.set_cons_zero, List.set_cons_succ]
    refine wpAnyC_ready (rs := [17]) (by kernel_rfl) (by simp) ?_
    refine ReadyC.cons (o := ?or9u18) ?hor9u18 ?hstepr9u18 ReadyC.nil
    case hor9u18 => (simp only [List.getElem?_toArray, List.getElem?_cons_succ, List.getElem?_cons_zero]; rfl)
    intro K hK
    go_simp
    refine hK.out _ _ (.inl rfl) (fun hT18 => ?_)
    clear hK K
    try simp only [Act.put, List.setIfInBounds_toArray, List.set_cons_zero, List.set_cons_succ]
    refine wpAnyC_done (by kernel_rfl) ?_ _
    refine NoPanic.normal ?_
    have FF := Lib.hid h4
    have HA4 := Lib.hid a4
    clear h4 a4
    go_wp2_with fail
    go_ret
    exact ⟨rfl, L4, HA4.out, FF.out⟩
   refine ReadyC.cons (o := ?or9u19) ?hor9u19 ?hstepr9u19 ReadyC.nil
   case hor9u19 => (simp only [List.getElem?_toArray, List.getElem?_cons_succ, List.getElem?_cons_zero]; rfl)
   intro K hK
   go_simp
   refine hK.out _ _ (.inr ?_) (fun hT14 => ?_)
   ·first | exact hSx.trans hf3 (fun j hj => .inr (hk2 j hj)) | exact hf2 | exact hSx.alloc _ | exact hSx
   clear hK K
   try simp only [Act.put, List.setIfInBounds_toArray, List.set_cons_zero, List.set_cons_succ]
   have hSx := hT14.resolve_left (by decide)
   refine wpAnyC_ready (rs := [5]) (by kernel_rfl) (by simp) ?_
   refine ReadyC.cons (o := ?or9u20) ?hor9u20 ?hstepr9u20 ReadyC.nil
   case hor9u20 => (simp only [List.getElem?_toArray, List.getElem?_cons_succ, List.getElem?_cons_zero]; rfl)
   intro K hK
   (go_simp; refine (KCL.out _ hSx).mono ?_; rintro e w2 ⟨A2, c2, rfl, hi2, hk2, hf2, hg2⟩; dsimp only)
   refine hK.out _ _ (.inr ?_) (fun hT15 => ?_)
   ·first | exact hSx.trans hf3 (fun j hj => .inr (hk2 j hj)) | exact hf2 | exact hSx.alloc _ | exact hSx
   clear hK K
   try simp only [Act.put, List.setIfInBounds_toArray, List.set_cons_zero, List.set_cons_succ]
   have hSx := hT15.resolve_left (by decide)
   refine wpAnyC_ready (rs := [15]) (by kernel_rfl) (by simp) ?_
   refine ReadyC.cons (o := ?or9u21) ?hor9u21 ?hstepr9u21 ReadyC.nil
   case hor9u21 => (simp only [List.getElem?_toArray, List.getElem?_cons_succ, List.getElem?_cons_zero]; rfl)
   intro K hK
   (refine step_append_int rfl _ _ rfl A2 c2 l _ rfl rfl ?hownr9u21 _ 1 (-x) rfl ?hcellr9u21 hl ?_; (case hownr9u21 => first | exact hi2.alloc _ | exact hi2); (case hcellr9u21 => first | (simp; done) | (refine hg2.cellS ?_; simp)); intro g3 cap3 w3 hi3 hf3 hg3 hs3; have hK3 : ∀ k, k ∈ blks (some (⟨g3, 0, none⟩ : Addr)) → w.heap.size ≤ k := (fun k hk => by simp [blks] at hk; subst hk; rcases hg3 with h | h; exact hk2 k h; rw [h]; exact hSx.size))
   refine hK.out _ _ (.inr ?_) (fun hT16 => ?_)
   ·first | exact hSx.trans hf3 (fun j hj => .inr (hk2 j hj)) | exact hf2 | exact hSx.alloc _ | exact hSx
   clear hK K
   try simp only [Act.put, List.setIfInBounds_toArray, List.set_cons_zero, List.set_cons_succ]
   have hSx := hT16.resolve_left (by decide)
   refine wpAnyC_ready (rs := [16]) (by kernel_rfl) (by simp) ?_
   refine ReadyC.cons (o := ?or9u22) ?hor9u22 ?hstepr9u22 ReadyC.nil
   case hor9u22 => (simp only [List.getElem?_toArray, List.getElem?_cons_succ, List.getElem?_cons_zero]; rfl)
   intro K hK
   (go_simp; refine (KA.out _ hSx _ _ hi3 hK3).mono ?_; rintro e w4 ⟨rfl, L4, a4, h4⟩; dsimp only)
   refine hK.out _ _ (.inl rfl) (fun hT17 => ?_)
   clear hK K
   try simp only [Act.put, List.setIfInBounds_toArray, List.set_cons_zero, List.set_cons_succ]
   refine wpAnyC_ready (rs := [17]) (by kernel_rfl) (by simp) ?_
   refine ReadyC.cons (o := ?or9u23) ?hor9u23 ?hstepr9u23 ReadyC.nil
   case hor9u23 => (simp only [List.getElem?_toArray, List.getElem?_cons_succ, List.getElem?_cons_zero]; rfl)
   intro K hK
   go_simp
   refine hK.out _ _ (.inl rfl) (fun hT18 => ?_)
   clear hK K
   try simp only [Act.put, List.setIfInBounds_toArray, List.set_cons_zero, List.set_cons_succ]
   refine wpAnyC_done (by kernel_rfl) ?_ _
   refine NoPanic.normal ?_
   have FF := Lib.hid h4
   have HA4 := Lib.hid a4
   clear h4 a4
   go_wp2_with fail
   go_ret
   exact ⟨rfl, L4, HA4.out, FF.out⟩
def gon (sw gs : List Int) : List Int := (gs.filter (fun g => decide (0 < g))).map (fun g => sw[g.toNat]!)
theorem gon_len (sw gs : List Int) : (gon sw gs).length ≤ gs.length := by
 unfold gon
 rw [List.length_map]
 exact List.length_filter_le _ _
theorem gon_next (sw : List Int) {gs : List Int} {k : Nat} (hk : k < gs.length) : gon sw (gs.take (k + 1)) = gon sw (gs.take k) ++ if 0 < gs[k]! then [sw[(gs[k]!).toNat]!] else [] := by
 unfold gon
 rw [take_get1 hk, List.filter_append, List.map_append]
 congr 1
 obtain ⟨x, hx⟩ : ∃ x, gs[k]! = x := ⟨_, rfl⟩
 rw [hx]
 by_cases h : 0 < x
 ·rw [List.filter_cons, if_pos (decide_eq_true h), if_pos h]
  rfl
 ·rw [List.filter_cons, if_neg (by simpa using h), if_neg h]
  rfl
theorem glack_in {sw : List Int} {g : Int} (h : glack sw g = false) : 0 ≤ g ∧ g < (sw.length : Int) := by
 unfold glack at h
 simp only [Bool.or_eq_false_iff, decide_eq_false_iff_not] at h
 omega
theorem any_gone {p : Int → Bool} {l : List Int} (h : ∀ x ∈ l, p x = false) : l.any p = false := by
 rw [List.any_eq_false]
 intro x hx
 rw [h x hx]
 decide
theorem gsol_calls {X : List Nat} {w0 w : World} {L : SvL} {S : Sv} {a : Nat} {A : Option Addr} {c : Nat} {sw : List Int} (h : GsAt X w0 w L S a A c sw) (red : Bool) (KRED : red = true → RedC) (ok : S.Ok 0) (zs : List Int) (hra : Ra zs) (hzl : zs.length ≤ 1099511627776) (budget : Int) (D C : Nat) (Q : Sv → Int → Prop) (hus : S.used < 4611686018427387904) (hW : S.solveW red budget zs D C Q)
  (W : World) (hf : Fr [] w W) (A3 : Option Addr) (c3 : Nat) (hi : Ints W A3 c3 zs) (hk : ∀ k, k ∈ blks A3 → w.heap.size ≤ k) :
  Calls Try.prog 17 #[.pointer (some ⟨L.a, 0, none⟩), .int .i64 budget, .slice A3 zs.length c3] W fun e w' => ∃ (S' : Sv) (r : Int), Q S' r ∧ S'.Ok 0 ∧ GaP (.int .i64 r) S' X w0 L.a a A c sw e w' ∧ Stay X w w' := by
 have h1 := h.calm hf
 have hcap : zs.length ≤ c3 := by
  rcases hi.form with ⟨_, _, h2⟩ | ⟨g, _, _, h2, _⟩
  ·rw [h2]; simp
  ·exact h2
 refine (h1.ox.solve red KRED ok A3 c3 zs ⟨hi.rd, fun _ k hk2 => SvL.seal_new (hk k hk2)⟩ hra hcap hzl budget D C Q hus hW).mono ?_
 rintro e w' ⟨S', r, hq, ho, rfl, L', h2, h3, h4⟩
 exact ⟨S', r, hq, ho, ⟨rfl, L', h2, h1.next h3 h4 h2⟩, (Stay.of hf).then_ h4 (fun k hk => (h.ox.fx k hk).1)⟩
theorem gsolve_calls {X : List Nat} {w0 w : World} {L : SvL} {S : Sv} {a : Nat} {A : Option Addr} {c : Nat} {sw : List Int} (h : GsAt X w0 w L S a A c sw) (red : Bool) (KRED : red = true → RedC) (ok : S.Ok 0)
  (B : Option Addr) (cb : Nat) (gs : List Int) (hgs : Rd w B gs) (hgra : Ra gs) (hgl : gs.length ≤ 3) (hgk : ∀ g ∈ gs, glack sw g = false)
  (Al : Option Addr) (cl : Nat) (us : List Int) (hu : Rd w Al us) (hra : Ra us) (hn : Al = none → us.length = 0 ∧ cl = 0) (hul : us.length ≤ 549755813888) (hown : us.any (gown sw) = false)
  (budget : Int) (D C : Nat) (Q : Sv → Int → Prop) (hus : S.used < 4611686018427387904) (hW : S.solveW red budget (gon sw gs ++ us) D C Q) :
  Calls Try.prog 8 #[.pointer (some ⟨a, 0, none⟩), .int .i64 budget, .slice B gs.length cb, .slice Al us.length cl] w fun e w' => ∃ (S' : Sv) (r : Int), Q S' r ∧ S'.Ok 0 ∧ GaP (.int .i64 r) S' X w0 L.a a A c sw e w' ∧ Stay X w w' := by
 have KM := Lib.hid (gmade_calls w a _ A c sw.length h.ob h.ln.1)
 have hln := h.ln.2
 have KA := contains_intsM w B cb gs 12 (.pointer (some ⟨a, 0, none⟩)) (glack sw) enters_glacks hgs hgra (by omega) (fun W hW x _ hx => (glacks_calls W a _ A c sw (h.ob.keep hW) (h.keep hW).row x hx).mono fun e w' ⟨h1, h2⟩ => ⟨h1, Fr.same h2⟩)
 rw [any_gone hgk] at KA
 have KA := Lib.hid KA
 have KB := fun W (hW : Fr [] w W) => contains_intsM W Al cl us 16 (.pointer (some ⟨a, 0, none⟩)) (gown sw) enters_gowned (hu.keep hW) hra (by omega) (fun W' hW' x _ hx => gowned_calls W' a _ A c sw ((h.ob.keep hW).keep hW') ((h.keep hW).keep hW').row h.ra hln x hx)
 simp only [hown] at KB
 have KB := Lib.hid KB
 obtain ⟨zs, hzs⟩ : ∃ zs, gon sw gs ++ us = zs := ⟨_, rfl⟩
 rw [hzs] at hW
 have hgo := gon_len sw gs
 have hzr : Ra zs := by
  rw [← hzs]
  refine (mem_idx (p := R64)).2 fun x hx => ?_
  rcases List.mem_append.1 hx with h1 | h1
  ·unfold gon at h1
   obtain ⟨g, h2, rfl⟩ := List.mem_map.1 h1
   obtain ⟨h3, h4⟩ := glack_in (hgk g (List.mem_filter.1 h2).1)
   exact h.ra _ (by omega)
  ·exact (mem_idx (p := R64)).1 hra x h1
 have KS := Lib.hid (gsol_calls h red KRED ok zs hzr (by rw [← hzs, List.length_append]; omega) budget D C Q hus hW)
 have hzl : zs.length = (gon sw gs).length + us.length := by rw [← hzs, List.length_append]
 have HZS := Lib.hid hzs
 have HZL := Lib.hid hzl
 have c0 := h.ob.cell 0
 have c1 := h.ob.cell 1
 simp at c0 c1
 have HC0 := Lib.hid c0
 have HC1 := Lib.hid c1
 have HROW := Lib.hid h.row
 have HGS := Lib.hid hgs
 have HGR := Lib.hid hgra
 have HGK := Lib.hid hgk
 have HU := Lib.hid hu
 have HNN := Lib.hid hn
 clear h ok hgs hgra hgk hu hra hn hown hW hzs hzr hzl hus KRED c0 c1
 go_enter Try.func8, Try.ntmps8
 go_wp2_with fail
 refine KM.out.mono ?_
 rintro e w1 ⟨rfl, rfl⟩
 go_wp2_with fail
 refine KA.out.mono ?_
 rintro e w1 ⟨rfl, hf1⟩
 have HF1 := Lib.hid hf1
 clear hf1
 go_wp2_with fail
 refine (KB.out w1 HF1.out).mono ?_
 rintro e w2 ⟨rfl, hf2⟩
 have HF2 := Lib.hid (HF1.out.then_ hf2)
 clear hf2 HF1 KM KA KB
 go_wp2_with fail
 go_loopg [9, 29] gs.length (fun gk x9 x29 wr => ∃ (k : Nat) (A2 : Option Addr) (c2 : Nat) (ys : List Int), k + gk = gs.length ∧ x9 = .slice A2 ys.length c2 ∧ x29 = .int .i64 k ∧ Hid (Ints wr A2 c2 ys) ∧ Hid (ys = gon sw (gs.take k)) ∧ Hid (∀ j, j ∈ blks A2 → w.heap.size ≤ j) ∧ Hid (Fr [] w wr))
 case atStart => exact ⟨0, none, 0, [], by omega, rfl, rfl, Ints.nil _, by rw [List.take_zero]; rfl, fun j hj => by simp [blks] at hj, HF2.out⟩
 case round =>
  obtain ⟨k, A2, c2, ys, hk, rfl, rfl, HI2, HY2, HK2, HF⟩ := hrel
  have HK := Lib.hid hk
  have hkn : k ≤ gs.length := by omega
  have hyl : ys.length ≤ 3 := by
   rw [HY2.out]
   have := gon_len sw (gs.take k)
   rw [List.length_take] at this
   omega
  clear hk HF2
  by_cases hlt : k < gs.length
  ·obtain ⟨b, o, x, hA, he, cx, hx1, hx2⟩ := (HGS.out.keep HF.out).one HGR.out hlt
   subst hA
   have HNX := Lib.hid (gon_next sw hlt)
   rw [he.out] at HNX
   have hgx := glack_in (HGK.out x (by rw [← he.out]; exact mem_get hlt))
   by_cases h0 : 0 < x
   ·have d0 : decide (0 < x) = true := decide_eq_true h0
    rw [if_pos h0] at HNX
    obtain ⟨m, rfl⟩ : ∃ m : Nat, x = m := ⟨x.toNat, by omega⟩
    rw [Int.toNat_natCast] at HNX
    have hml : m < sw.length := by omega
    have hml2 : (m : Int) < (sw.length : Int) := by omega
    obtain ⟨b2, hA2, hb2⟩ := HROW.out.pos hml
    have hrow := HROW.out
    rw [hA2] at hrow
    have cy := HF.out.cellS (hrow.cell hml)
    have d1 := HF.out.cellS HC1.out
    rw [hA2] at d1
    obtain ⟨y, hy⟩ : ∃ y, sw[m]! = y := ⟨_, rfl⟩
    rw [hy] at cy HNX
    obtain ⟨wb, hwb⟩ : ∃ W, wr.alloc (.cells #[.int .i64 y] 3) = W := ⟨_, rfl⟩
    have HFB : Hid (Fr [] wr wb) := hwb ▸ box_fr' _ _
    have hcell : wb.cell? ⟨wr.heap.size, 0, none⟩ = some (.int .i64 y) := by
     rw [← hwb]
     exact (At.new wr 3 #[.int .i64 y]).cell 0
    clear hrow hy hA2 hb2
    go_wp2_with (at_builtin; (refine wpList_append_int _ rfl _ _ rfl A2 c2 ys ys.length rfl rfl (HI2.out.fr HFB.out (by simp)) ⟨wr.heap.size, 0, none⟩ 1 y rfl hcell (by omega) ?_; intro g cap w3 hrow hfr hg hs3))
    have HR3 := Lib.hid hrow
    have HG3 : Hid (w.heap.size ≤ g) := (by
     rcases hg with h1 | h1
     ·exact HK2.out g h1
     ·have := HF.out.size; have := HFB.out.size; omega : w.heap.size ≤ g)
    have HF3 : Hid (Fr [] w w3) := (HF.out.then_ HFB.out).trans hfr (fun x hx => .inr (HK2.out x hx))
    clear hcell hrow hfr hg hs3 hwb
    go_roundg (gk - 1)
    case measure => have := HK.out; omega
    case rel => exact ⟨k + 1, some ⟨g, 0, none⟩, cap, ys ++ [y], by have := HK.out; omega, by simp, by go_num, HR3.out, by show _ = _; rw [HNX.out, HY2.out], fun j hj => by simp [blks] at hj; subst hj; exact HG3.out, HF3.out⟩
   ·have d0 : decide (0 < x) = false := decide_eq_false h0
    rw [if_neg h0, List.append_nil] at HNX
    go_wp2_with fail
    go_roundg (gk - 1)
    case measure => have := HK.out; omega
    case rel => exact ⟨k + 1, A2, c2, ys, by have := HK.out; omega, rfl, by go_num, HI2.out, (by rw [HNX.out]; exact HY2.out : ys = gon sw (gs.take (k + 1))), HK2.out, HF.out⟩
  ·obtain rfl : k = gs.length := by omega
   have hyz : ys = gon sw gs := by rw [HY2.out, List.take_length]
   have hzl := HZL.out
   rw [← hyz] at hzl
   have hzs := HZS.out
   rw [← hyz] at hzs
   rw [← hzs, List.length_append] at KS
   have HFW := HF
   clear HK HY2 hyz hzl
   go_upto_region 10 with fail
   refine wp_region_noPanic ?_
   refine wp_region_C (fun w' : World => Fr [] w w') 8 (by kernel_rfl) (HFW.out.drew) (fun hT0 => ?_)
   refine wpAnyC_take0 (i := 0) (oi := ?oir10u1) (v := ?vr10u1) ?hir10u1 (by kernel_rfl) (by kernel_rfl) (by kernel_rfl) (by kernel_rfl) ?hQr10u1 ?hwr10u1 ?hyr10u1 hT0 ?_
   case hir10u1 => (simp only [List.getElem?_toArray, List.getElem?_cons_zero]; rfl)
   case hQr10u1 => exact fun _ _ _ h => h
   case hwr10u1 => rfl
   case hyr10u1 => (intro w; go_simp <;> with_reducible rfl)
   try simp only [Act.put, List.setIfInBounds_toArray, List.set_cons_zero, List.set_cons_succ]
   refine wpAnyC_take0 (i := 1) (oi := ?oir10u2) (v := ?vr10u2) ?hir10u2 (by kernel_rfl) (by kernel_rfl) (by kernel_rfl) (by kernel_rfl) ?hQr10u2 ?hwr10u2 ?hyr10u2 (hT0.more 0) ?_
   case hir10u2 => (simp only [List.getElem?_toArray, List.getElem?_cons_succ, List.getElem?_cons_zero]; rfl)
   case hQr10u2 => exact fun _ _ _ h => h
   case hwr10u2 => rfl
   case hyr10u2 => (intro w; go_simp <;> with_reducible rfl)
   try simp only [Act.put, List.setIfInBounds_toArray, List.set_cons_zero, List.set_cons_succ]
   refine wpAnyC_take0 (i := 2) (oi := ?oir10u3) (v := ?vr10u3) ?hir10u3 (by kernel_rfl) (by kernel_rfl) (by kernel_rfl) (by kernel_rfl) ?hQr10u3 ?hwr10u3 ?hyr10u3 ((hT0.more 0).more 1) ?_
   case hir10u3 => (simp only [List.getElem?_toArray, List.getElem?_cons_succ, List.getElem?_cons_zero]; rfl)
   case hQr10u3 => exact fun _ _ _ h => h
   case hwr10u3 => rfl
   case hyr10u3 => (intro w; go_simp <;> with_reducible rfl)
   try simp only [Act.put, List.setIfInBounds_toArray, List.set_cons_zero, List.set_cons_succ]
   refine wpAnyC_take (i := 3) (oi := ?oir10u4) (v := ?vr10u4) [3, 8] ?hir10u4 (by kernel_rfl) (by kernel_rfl) (by kernel_rfl) (by kernel_rfl) ?hQr10u4 (.inl ⟨?hwr10u4, ?hyr10u4⟩) ((((hT0.more 0).more 1).more 2).resolve_left (by decide)) ?_
   case hir10u4 => (simp only [List.getElem?_toArray, List.getElem?_cons_succ, List.getElem?_cons_zero]; rfl)
   case hQr10u4 => exact fun _ _ _ h => h
   case hwr10u4 => rfl
   case hyr10u4 => (intro w hSw; (have s0 := hSw.cellS HC0.out); go_simp <;> with_reducible rfl)
   try simp only [Act.put, List.setIfInBounds_toArray, List.set_cons_zero, List.set_cons_succ]
   refine wpAnyC_take0 (i := 4) (oi := ?oir10u5) (v := ?vr10u5) ?hir10u5 (by kernel_rfl) (by kernel_rfl) (by kernel_rfl) (by kernel_rfl) ?hQr10u5 ?hwr10u5 ?hyr10u5 ((((hT0.more 0).more 1).more 2).more 3) ?_
   case hir10u5 => (simp only [List.getElem?_toArray, List.getElem?_cons_succ, List.getElem?_cons_zero]; rfl)
   case hQr10u5 => exact fun _ _ _ h => h
   case hwr10u5 => rfl
   case hyr10u5 => (intro w; go_simp <;> with_reducible rfl)
   try simp only [Act.put, List.setIfInBounds_toArray, List.set_cons_zero, List.set_cons_succ]
   refine wpAnyC_take0 (i := 5) (oi := ?oir10u6) (v := ?vr10u6) ?hir10u6 (by kernel_rfl) (by kernel_rfl) (by kernel_rfl) (by kernel_rfl) ?hQr10u6 ?hwr10u6 ?hyr10u6 (((((hT0.more 0).more 1).more 2).more 3).more 4) ?_
   case hir10u6 => (simp only [List.getElem?_toArray, List.getElem?_cons_succ, List.getElem?_cons_zero]; rfl)
   case hQr10u6 => exact fun _ _ _ h => h
   case hwr10u6 => rfl
   case hyr10u6 => (intro w; go_simp <;> with_reducible rfl)
   try simp only [Act.put, List.setIfInBounds_toArray, List.set_cons_zero, List.set_cons_succ]
   refine wpAnyC_take0 (i := 6) (oi := ?oir10u7) (v := ?vr10u7) ?hir10u7 (by kernel_rfl) (by kernel_rfl) (by kernel_rfl) (by kernel_rfl) ?hQr10u7 ?hwr10u7 ?hyr10u7 ((((((hT0.more 0).more 1).more 2).more 3).more 4).more 5) ?_
   case hir10u7 => (simp only [List.getElem?_toArray, List.getElem?_cons_succ, List.getElem?_cons_zero]; rfl)
   case hQr10u7 => exact fun _ _ _ h => h
   case hwr10u7 => rfl
   case hyr10u7 => (intro w; go_simp <;> with_reducible rfl)
   try simp only [Act.put, List.setIfInBounds_toArray, List.set_cons_zero, List.set_cons_succ]
   have hSx := (((((((hT0.more 0).more 1).more 2).more 3).more 4).more 5).more 6).resolve_left (by decide)
   refine wpAnyC_ready (rs := [7]) (by kernel_rfl) (by simp) ?_
   refine ReadyC.cons (o := ?or10u8) ?hor10u8 ?hstepr10u8 ReadyC.nil
   case hor10u8 => (simp only [List.getElem?_toArray, List.getElem?_cons_succ, List.getElem?_cons_zero]; rfl)
   intro K hK
   (refine step_append_rd rfl _ _ rfl A2 c2 ys _ rfl rfl ?hownr10u8 Al cl us _ rfl rfl HNN.out ?hrdr10u8 (by omega) ?_; (case hownr10u8 => first | exact HI2.out.drew | exact HI2.out); (case hrdr10u8 => exact HU.out.keep hSx); intro A3 cap3 w3 hi3 hf3 hg3 hs3; have hK3 : ∀ k, k ∈ blks A3 → w.heap.size ≤ k := (fun k hk => by rcases hg3 k hk with h | h; exact HK2.out k h; rw [h]; exact hSx.size))
   refine hK.out _ _ (.inr ?_) (fun hT8 => ?_)
   ·first | exact hSx.trans hf3 (fun j hj => .inr (HK2.out j hj)) | exact hSx
   clear hK K
   try simp only [Act.put, List.setIfInBounds_toArray, List.set_cons_zero, List.set_cons_succ]
   have hSx := hT8.resolve_left (by decide)
   refine wpAnyC_ready (rs := [8]) (by kernel_rfl) (by simp) ?_
   refine ReadyC.cons (o := ?or10u9) ?hor10u9 ?hstepr10u9 ReadyC.nil
   case hor10u9 => (simp only [List.getElem?_toArray, List.getElem?_cons_succ, List.getElem?_cons_zero]; rfl)
   intro K hK
   (go_simp; refine (KS.out _ hSx _ _ (by rw [← hzs] at *; exact hi3) hK3).mono ?_; rintro e w4 ⟨S4, r4, hq4, ho4, ⟨rfl, L4, a4, h4⟩, hs4⟩; dsimp only)
   refine hK.out _ _ (.inl rfl) (fun hT9 => ?_)
   clear hK K
   try simp only [Act.put, List.setIfInBounds_toArray, List.set_cons_zero, List.set_cons_succ]
   refine wpAnyC_ready (rs := [9]) (by kernel_rfl) (by simp) ?_
   refine ReadyC.cons (o := ?or10u10) ?hor10u10 ?hstepr10u10 ReadyC.nil
   case hor10u10 => (simp only [List.getElem?_toArray, List.getElem?_cons_succ, List.getElem?_cons_zero]; rfl)
   intro K hK
   go_simp
   refine hK.out _ _ (.inl rfl) (fun hT10 => ?_)
   clear hK K
   try simp only [Act.put, List.setIfInBounds_toArray, List.set_cons_zero, List.set_cons_succ]
   refine wpAnyC_done (by kernel_rfl) ?_ _
   refine NoPanic.normal ?_
   have HQ4 := Lib.hid hq4
   have HO4 := Lib.hid ho4
   have FF := Lib.hid h4
   have HA4 := Lib.hid a4
   have HS4 := Lib.hid hs4
   clear hq4 ho4 h4 a4 hs4
   go_wp2_with fail
   go_ret
   exact ⟨S4, r4, HQ4.out, HO4.out, ⟨rfl, L4, HA4.out, FF.out⟩, HS4.out⟩
theorem gsolve_owned {X : List Nat} {w0 w : World} {L : SvL} {S : Sv} {a : Nat} {A : Option Addr} {c : Nat} {sw : List Int} (h : GsAt X w0 w L S a A c sw)
  (B : Option Addr) (cb : Nat) (gs : List Int) (hgs : Rd w B gs) (hgra : Ra gs) (hgl : gs.length ≤ 3) (hgk : ∀ g ∈ gs, glack sw g = false)
  (Al : Option Addr) (cl : Nat) (us : List Int) (hu : Rd w Al us) (hra : Ra us) (hul : us.length ≤ 17592186044416) (hown : us.any (gown sw) = true) (budget : Int) :
  Calls Try.prog 8 #[.pointer (some ⟨a, 0, none⟩), .int .i64 budget, .slice B gs.length cb, .slice Al us.length cl] w fun e w' => e = .returned (.int .i64 0) ∧ Fr [] w w' := by
 have KM := Lib.hid (gmade_calls w a _ A c sw.length h.ob h.ln.1)
 have hln := h.ln.2
 have KA := contains_intsM w B cb gs 12 (.pointer (some ⟨a, 0, none⟩)) (glack sw) enters_glacks hgs hgra (by omega) (fun W hW x _ hx => (glacks_calls W a _ A c sw (h.ob.keep hW) (h.keep hW).row x hx).mono fun e w' ⟨h1, h2⟩ => ⟨h1, Fr.same h2⟩)
 rw [any_gone hgk] at KA
 have KA := Lib.hid KA
 have KB := fun W (hW : Fr [] w W) => contains_intsM W Al cl us 16 (.pointer (some ⟨a, 0, none⟩)) (gown sw) enters_gowned (hu.keep hW) hra (by omega) (fun W' hW' x _ hx => gowned_calls W' a _ A c sw ((h.ob.keep hW).keep hW') ((h.keep hW).keep hW').row h.ra hln x hx)
 simp only [hown] at KB
 have KB := Lib.hid KB
 clear h hgs hgra hgk hu hra hown
 go_enter Try.func8, Try.ntmps8
 go_wp2_with fail
 refine KM.out.mono ?_
 rintro e w1 ⟨rfl, rfl⟩
 go_wp2_with fail
 refine KA.out.mono ?_
 rintro e w1 ⟨rfl, hf1⟩
 have HF1 := Lib.hid hf1
 clear hf1
 go_wp2_with fail
 refine (KB.out w1 HF1.out).mono ?_
 rintro e w2 ⟨rfl, hf2⟩
 have HF2 := Lib.hid (HF1.out.then_ hf2)
 clear hf2 HF1 KM KA KB
 go_wp2_with fail
 go_ret
 exact ⟨rfl, HF2.out⟩
def galA : Sv := (Sv.new 1).fresh0.grow 1
def galB : Sv := (galA.addI [-1, -2]).1
def galC : Option (Sv × Int) := galB.solveN 9 [2, 1] 20 20
def galD : Option (Sv × Int) := galC.bind fun q => q.1.solveN 9 [1] 20 20
theorem gal_a : (Sv.new 1).vars = 1 ∧ galA.vars = 2 ∧ galA.list.length = 0 ∧ galA.used = 0 := by decide +kernel
theorem gal_b : (galA.addI [-1, -2]).2 = 0 ∧ galB.used = 0 := by decide +kernel
theorem gal_c : galC.map (fun q => (q.2, decide (q.1.used < 1000))) = some (2, true) := by decide +kernel
theorem gal_d : galD.map (fun q => q.2) = some 1 := by decide +kernel
theorem gal_ok : galA.Ok 0 ∧ galB.Ok 0 := by
 have h1 : galA.Ok 0 := (Sv.Ok.new 1).1.fresh0.grow 1 (by have := gal_a.1; show (Sv.new 1).vars + 1 ≤ _; omega)
 refine ⟨h1, ?_⟩
 have := h1.addF (l := [-1, -2]) (fun j hj => by
  have : j = 0 ∨ j = 1 := by simp at hj; omega
  rcases this with rfl | rfl <;> exact ⟨by decide, by decide⟩) (by rw [gal_a.2.2.1]; decide)
 rw [Sv.addI_eq] at this
 exact this.1
theorem ra1 {x : Int} (h : R64 x) : Ra [x] := fun j hj => by
 have : j = 0 := by simp at hj; omega
 subst this
 exact h
theorem galive_calls (w : World) : Calls Try.prog 4 #[] w fun e w' => e = .returned (.bool true) ∧ Fr [] w w' := by
 have KN := Lib.hid (gnew_calls w 1 (by omega) (by omega))
 go_enter Try.func4, Try.ntmps4
 go_wp2_with fail
 refine KN.out.mono ?_
 clear KN
 rintro e w1 ⟨L1, a, b, rfl, h1⟩
 have KO := gopen_calls h1 (Sv.Ok.new 1).1 (by rw [gal_a.1]; omega) (by decide)
 rw [gal_a.1] at KO
 have KO : Hid (Calls Try.prog 6 #[.pointer (some ⟨a, 0, none⟩)] w1 fun e w' => e = .returned (.tuple #[.int .i64 1, .int .i64 0]) ∧ ∃ (L' : SvL) (A' : Option Addr) (c' : Nat) (X' : List Nat), (∀ k ∈ [a, b], k ∈ X') ∧ GsAt X' w w' L' galA a A' c' [0, 2]) := KO
 clear h1
 go_wp2_with fail
 refine KO.out.mono ?_
 clear KO
 rintro e w2 ⟨rfl, L2, A2, c2, X2, -, h2⟩
 obtain ⟨w3, hw3⟩ : ∃ w3, w2.alloc (.cells #[.int .i64 (-1)] 3) = w3 := ⟨_, rfl⟩
 have h3 := h2.calm (hw3 ▸ box_fr' _ _)
 have r3 : Ints w3 (some ⟨w2.heap.size, 0, none⟩) 1 [-1] := hw3 ▸ row_new w2 [-1] (by decide)
 have KP := gput_calls h3 gal_ok.1 1 (by decide) (by decide) (some ⟨w2.heap.size, 0, none⟩) 1 [-1] ⟨r3.rd, fun _ k hk => SvL.seal_new (by simp [blks] at hk; omega)⟩ (ra1 ⟨by decide, by decide⟩) (fun h => by cases h) (by decide) (by rw [gal_a.2.2.1]; decide) (by rw [gal_a.2.2.2]; decide)
 have hp : gputF [0, 2] galA 1 [-1] = (galB, 0) := by
  have : gputF [0, 2] galA 1 [-1] = galA.addF [-1, -2] := rfl
  rw [this, Sv.addI_eq]
  exact Prod.ext rfl gal_b.1
 rw [hp] at KP
 have KP : Hid (Calls Try.prog 7 #[.pointer (some ⟨a, 0, none⟩), .int .i64 1, .slice (some ⟨w2.heap.size, 0, none⟩) 1 1] w3 (GaP (.int .i64 0) galB X2 w L2.a a A2 c2 [0, 2])) := KP
 clear h2 h3 r3 hp
 go_wp2_with fail
 refine KP.out.mono ?_
 clear KP hw3
 rintro e w4 ⟨rfl, L4, -, h4⟩
 have H4 := Lib.hid h4
 clear h4
 obtain ⟨q2, hq2, hb⟩ := Option.map_eq_some_iff.1 gal_c
 obtain ⟨S2, r2⟩ := q2
 simp only [Prod.mk.injEq, decide_eq_true_eq] at hb
 obtain ⟨rfl, hb1⟩ := hb
 obtain ⟨w5, hw5⟩ : ∃ w5, (w4.alloc (.cells #[.int .i64 1] 3)).alloc (.cells #[.int .i64 1] 3) = w5 := ⟨_, rfl⟩
 have HF5 : Hid (Fr [] w4 w5) := hw5 ▸ ((box_fr' _ _).then_ (box_fr' _ _))
 have R5 : Hid (Ints w5 (some ⟨w4.heap.size, 0, none⟩) 1 [1]) := hw5 ▸ (row_new w4 [1] (by decide)).alloc _
 have R6 : Hid (Ints w5 (some ⟨w4.heap.size + 1, 0, none⟩) 1 [1]) := by
  have := row_new (w4.alloc (.cells #[.int .i64 1] 3)) [1] (by decide)
  rw [show (w4.alloc (.cells #[.int .i64 1] 3)).heap.size = w4.heap.size + 1 by simp] at this
  exact hw5 ▸ this
 have KS := Lib.hid (gsolve_calls (H4.out.keep HF5.out) false (fun h => by cases h) gal_ok.2 (some ⟨w4.heap.size, 0, none⟩) 1 [1] R5.out.rd (ra1 ⟨by decide, by decide⟩) (by decide) (by decide) (some ⟨w4.heap.size + 1, 0, none⟩) 1 [1] R6.out.rd (ra1 ⟨by decide, by decide⟩) (fun h => by cases h) (by decide) (by decide) 9 20 20 _ (by rw [gal_b.2]; decide) (Sv.solveN_W hq2))
 have HB1 := Lib.hid hb1
 obtain ⟨q4, hq4, hc⟩ := Option.map_eq_some_iff.1 gal_d
 obtain ⟨S4, r4⟩ := q4
 simp only at hc
 subst hc
 have hq4' : S2.solveN 9 [1] 20 20 = some (S4, 1) := by
  unfold galD at hq4
  rw [hq2] at hq4
  exact hq4
 have HQ4 := Lib.hid hq4'
 clear hb1 hq2 hq4 hq4'
 go_wp2_with fail
 clear hw5
 refine KS.out.mono ?_
 clear KS
 rintro e w6 ⟨S3, r3, hq3, ho3, ⟨rfl, L6, -, h6⟩, -⟩
 simp only [Prod.mk.injEq] at hq3
 obtain ⟨rfl, rfl⟩ := hq3
 obtain ⟨w7, hw7⟩ : ∃ w7, w6.alloc (.cells #[.int .i64 1] 3) = w7 := ⟨_, rfl⟩
 have HF7 : Hid (Fr [] w6 w7) := hw7 ▸ box_fr' _ _
 have R7 : Hid (Ints w7 (some ⟨w6.heap.size, 0, none⟩) 1 [1]) := hw7 ▸ row_new w6 [1] (by decide)
 have KS := Lib.hid (gsolve_calls (h6.keep HF7.out) false (fun h => by cases h) ho3 none 0 [] (fun h0 => absurd h0 (Nat.not_lt_zero _)) (fun j hj => absurd hj (Nat.not_lt_zero _)) (by decide) (fun g hg => by cases hg) (some ⟨w6.heap.size, 0, none⟩) 1 [1] R7.out.rd (ra1 ⟨by decide, by decide⟩) (fun h => by cases h) (by decide) (by decide) 9 20 20 _ (by have := HB1.out; omega) (Sv.solveN_W HQ4.out))
 clear h6 ho3
 go_wp2_with fail
 refine KS.out.mono ?_
 clear KS hw7
 rintro e w8 ⟨S5, r5, hq5, -, ⟨rfl, L8, -, h8⟩, -⟩
 simp only [Prod.mk.injEq] at hq5
 obtain ⟨rfl, rfl⟩ := hq5
 have HF8 := Lib.hid h8.fr
 clear h8
 go_wp2_with fail
 go_ret
 exact ⟨rfl, HF8.out⟩
end Go.Proofs.Ytjchilcpflfcnaa
