/- The law's own list of what is set: its memory; 'at' walked. -/
import Derived.Test.YtnbpnpodpnlamaaTrailJ
namespace Go.Proofs.Ytnbpnpodpnlamaa
open Go.RowKit
set_option linter.unusedVariables false

def stc (e : St) : Cel := ⟨e.x, e.l, e.r⟩
theorem stc_map (R : List St) (e : St) : R.map stc ++ [stc e] = (R ++ [e]).map stc := by simp
theorem infoSet : (Try.prog.info? 61).map (fun i => (i.zero, i.size, i.bytes)) = some (some (.agg #[.int .i64 0, .int .i64 0, .int .i64 0]), 3, 24) := by kernel_rfl

/-- The slice value '.slice A n c' of sets holds R, in a row of its own. -/
def Sts (w : World) (A : Option Addr) (c : Nat) (R : List St) : Prop := w.ownsRow 0 61 3 (.slice A R.length c) R.length (flat (R.map stc))

namespace Sts
variable {w w' : World} {A : Option Addr} {c : Nat} {R : List St}
theorem form (h : Sts w A c R) : (A = none ∧ c = 0 ∧ R = []) ∨ ∃ g, A = some ⟨g, 0, none⟩ ∧ g < w.heap.size ∧ R.length ≤ c ∧ c ≤ maxLen := by
  rcases h.2 with ⟨h1, h2⟩ | ⟨g, cap, cur, hv, _, hg, hn, hm, _⟩
  · simp only [Value.slice.injEq] at h1
    exact .inl ⟨h1.1, h1.2.2, List.eq_nil_of_length_eq_zero h2⟩
  · simp only [Value.slice.injEq, true_and] at hv
    obtain ⟨rfl, rfl⟩ := hv
    exact .inr ⟨g, rfl, At.lt (t := 61) hg, hn, hm⟩
theorem pos {i : Nat} (h : Sts w A c R) (hi : i < R.length) : ∃ g, A = some ⟨g, 0, none⟩ ∧ g < w.heap.size := by
  rcases h.form with ⟨_, _, rfl⟩ | ⟨g, h1, h2, _⟩
  · simp at hi
  · exact ⟨g, h1, h2⟩
theorem cell {g : Nat} (h : Sts w (some ⟨g, 0, none⟩) c R) {i : Nat} (hi : i < R.length) :
    w.cell? ⟨g, i * 3, none⟩ = some (.int .i64 (R[i]!).x) ∧ w.cell? ⟨g, i * 3 + 1, none⟩ = some (.int .i64 (R[i]!).l) ∧ w.cell? ⟨g, i * 3 + 2, none⟩ = some (.int .i64 (R[i]!).r) := by
  obtain ⟨h1, h2, h3⟩ := flat_get (R.map stc) i (by simpa using hi)
  have e : (R.map stc)[i]! = stc R[i]! := by simp [hi]
  rw [e] at h1 h2 h3
  refine ⟨?_, ?_, ?_⟩
  · rw [World.ownsRow.cellAt h _ (by omega)]; exact h1
  · rw [World.ownsRow.cellAt h _ (by omega)]; exact h2
  · rw [World.ownsRow.cellAt h _ (by omega)]; exact h3
theorem own_blk : ∀ k, (Value.slice A R.length c).ownBlock = some k → k ∈ blks A := fun k hk => (blks_own k).1 hk
theorem fr {S : List Nat} (h : Sts w A c R) (hf : Fr S w w') (hd : ∀ k, k ∈ blks A → k ∉ S) : Sts w' A c R := hf.own h (fun k hk => hd k (own_blk k hk))
theorem drewN (h : Sts w A c R) (n : Nat) : Sts (w.drewN n) A c R := h
theorem alloc (h : Sts w A c R) (o : Obj) : Sts (w.alloc o) A c R := World.ownsRow.alloc h o
theorem nil (w : World) : Sts w none 0 [] := World.ownsRow_nil w 0 _ 3
theorem lt (h : Sts w A c R) : ∀ k, k ∈ blks A → k < w.heap.size := by
  rcases h.form with ⟨rfl, _⟩ | ⟨g, rfl, h1, _⟩
  · simp [blks]
  · simpa [blks] using h1
end Sts

theorem at_results : Try.f38.results = #[.cell 4 61, .tmp 5] := by kernel_rfl

theorem look_take_succ (R : List St) (v : Int) (k : Nat) (hk : k < R.length) (h : tv (R[k]!).x = v) (hn : ∀ j : Nat, j < k → tv (R[j]!).x ≠ v) : look R v = some R[k]! := by
  have e1 : R = R.take k ++ R[k]! :: R.drop (k + 1) := by
    have : R[k]! = R[k] := by simp [hk]
    rw [this, List.getElem_cons_drop, List.take_append_drop]
  have e2 : look (R.take k) v = none := look_none_of fun e he => by
    obtain ⟨j, hj, rfl⟩ := List.mem_iff_getElem.1 he
    have hj2 : j < k := by rw [List.length_take] at hj; omega
    have := hn j hj2
    rw [List.getElem_take]
    rwa [show R[j]! = R[j] from by simp [show j < R.length by omega]] at this
  generalize R[k]! = e at e1 h ⊢
  rw [e1]
  unfold look at e2 ⊢
  rw [List.find?_append, e2, List.find?_cons]
  simp [h]

set_option maxRecDepth 100000 in
set_option maxHeartbeats 1000000 in
theorem at_is15 (w : World) (A : Option Addr) (c : Nat) (R : List St) (v : Int) (h : Sts w A c R) (hl : R.length ≤ 1048576) (hr : ∀ e, e ∈ R → -9223372036854775808 ≤ e.x ∧ e.x ≤ 9223372036854775807)
    (x l r : Int) (b : Bool) (hx : (look R v = some ⟨x, l, r⟩ ∧ b = true) ∨ (look R v = none ∧ b = false ∧ x = 0 ∧ l = 0 ∧ r = 0)) :
    Calls Try.prog 38 #[.slice A R.length c, .int .i64 v] w fun e w' => e = .returned (.tuple #[.agg #[.int .i64 x, .int .i64 l, .int .i64 r], .bool b]) ∧ Fr [] w w' := by
  have hW : Sts (w.alloc (.cells #[.int .i64 0, .int .i64 0, .int .i64 0] 61)) A c R := h.alloc _
  have hO := At.new w 61 #[.int .i64 0, .int .i64 0, .int .i64 0]
  have HF := Lib.hid ((Fr.refl [] w).alloc (.cells #[.int .i64 0, .int .i64 0, .int .i64 0] 61))
  have HX := Lib.hid hx
  have HR := Lib.hid hr
  clear h hx hr
  go_enter Try.func38, Try.ntmps38
  go_wp2_with fail
  obtain ⟨W, hWe⟩ : ∃ W, W = w.alloc (.cells #[.int .i64 0, .int .i64 0, .int .i64 0] 61) := ⟨_, rfl⟩
  have hsz : w.heap.size < W.heap.size := by rw [hWe]; simp
  rw [← hWe] at hW hO HF ⊢
  generalize hob : w.heap.size = ob at hO hsz ⊢
  have HOB : Hid (w.heap.size ≤ ob) := Nat.le_of_eq hob
  have HW := Lib.hid hW
  have o0 := hO.cell 0
  have o1 := hO.cell 1
  have o2 := hO.cell 2
  have q0 := hO.frozen 0
  have q1 := hO.frozen 1
  have q2 := hO.frozen 2
  simp at o0 o1 o2
  clear hW hWe hO hob
  go_loopg [6] R.length (fun gk i wr => ∃ k : Nat, k + gk = R.length ∧ i = .int .i64 k ∧ W = wr ∧ Hid (∀ j : Nat, j < k → tv (R[j]!).x ≠ v))
  case atStart => exact ⟨0, by omega, rfl, rfl, fun j hj => by omega⟩
  case round =>
    obtain ⟨k, hk, rfl, rfl, hn⟩ := hrel
    have HK := Lib.hid hk
    have hk2 : k ≤ R.length := by omega
    clear hk
    by_cases hlt : k < R.length
    · obtain ⟨g, rfl, hgl⟩ := HW.out.pos hlt
      obtain ⟨c0, c1, c2⟩ := HW.out.cell hlt
      obtain ⟨r1, r2⟩ := HR.out R[k]! (by rw [List.getElem!_eq_getElem?_getD, List.getElem?_eq_getElem hlt]; exact List.getElem_mem hlt)
      obtain ⟨e, he⟩ : ∃ e, R[k]! = e := ⟨_, rfl⟩
      rw [he] at c0 c1 c2 r1 r2
      have HE := Lib.hid he
      clear he
      obtain ⟨ex, el, er⟩ := e
      simp only at c0 c1 c2 r1 r2
      obtain ⟨p, hp⟩ : ∃ p, tv ex = p := ⟨_, rfl⟩
      have HP := Lib.hid hp
      clear hp
      by_cases hpv : p = v
      · have hlk : look R v = some ⟨ex, el, er⟩ := by rw [← HE.out]; exact look_take_succ R v k hlt (by rw [HE.out]; exact HP.out.trans hpv) hn.out
        have hb : b = true ∧ x = ex ∧ l = el ∧ r = er := by
          rcases HX.out with ⟨h1, h2⟩ | ⟨h1, _⟩
          · rw [hlk] at h1
            have := Option.some.inj h1
            simp only [St.mk.injEq] at this
            exact ⟨h2, this.1.symm, this.2.1.symm, this.2.2.symm⟩
          · rw [hlk] at h1; cases h1
        obtain ⟨rfl, rfl, rfl, rfl⟩ := hb
        subst hpv
        clear hlk hn
        go_wp2_with fail
        refine (abs_is _ x p HP.out r1 r2).mono ?_
        rintro e w1 ⟨rfl, rfl⟩
        go_wp2_with fail
        (try simp only [Exit.inBlock, Exit.then])
        refine bodyPost_ret (v := .tuple #[.agg #[.int .i64 x, .int .i64 l, .int .i64 r], .bool true]) (by simp only [results, at_results]; go_simp) rfl ?_
        refine ⟨rfl, ((HF.out.setCell (.inr HOB.out) _).setCell (.inr HOB.out) _).setCell (.inr HOB.out) _⟩
      · have hne : (p == v) = false := beq_eq_false_iff_ne.2 hpv
        have hn2 : Hid (∀ j : Nat, j < k + 1 → tv (R[j]!).x ≠ v) := fun j hj => by
          by_cases e : j = k
          · subst e; rw [HE.out]; exact fun h => hpv (HP.out.symm.trans h)
          · exact hn.out j (by omega)
        clear hn hpv
        go_wp2_with fail
        refine (abs_is _ ex p HP.out r1 r2).mono ?_
        rintro e w1 ⟨rfl, rfl⟩
        go_wp2_with fail
        go_roundg (gk - 1)
        case measure => have := HK.out; omega
        case rel => exact ⟨k + 1, by have := HK.out; omega, by go_num, rfl, hn2⟩
    · have hlk : look R v = none := look_none_of fun e he => by
        obtain ⟨j, hj, rfl⟩ := List.mem_iff_getElem.1 he
        have := hn.out j (by omega)
        rwa [show R[j]! = R[j] from by simp [hj]] at this
      have hb : b = false ∧ x = 0 ∧ l = 0 ∧ r = 0 := by
        rcases HX.out with ⟨h1, h2⟩ | ⟨_, h1⟩
        · rw [hlk] at h1; cases h1
        · exact h1
      obtain ⟨rfl, rfl, rfl, rfl⟩ := hb
      clear hlk hn
      go_wp2_with fail
      (try simp only [Exit.inBlock, Exit.then])
      refine bodyPost_ret (v := .tuple #[.agg #[.int .i64 0, .int .i64 0, .int .i64 0], .bool false]) (by simp only [results, at_results]; go_simp) rfl ?_
      refine ⟨rfl, ((HF.out.setCell (.inr HOB.out) _).setCell (.inr HOB.out) _).setCell (.inr HOB.out) _⟩

end Go.Proofs.Ytnbpnpodpnlamaa
