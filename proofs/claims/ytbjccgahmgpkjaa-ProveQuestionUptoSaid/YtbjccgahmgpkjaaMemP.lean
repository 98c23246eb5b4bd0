/- Memory words that name this program's types: append of one int, make of ints. -/
import Derived.Test.YtbjccgahmgpkjaaMem
import Derived.Deep.RegionLaw
namespace Go.Proofs.Ytbjccgahmgpkjaa
open Go.RowKit

theorem infoInt : (Try.prog.info? 3).map (fun i => (i.zero, i.size, i.bytes)) = some (some (.int .i64 0), 1, 8) := by kernel_rfl

theorem blks_own {A : Option Addr} {n c : Nat} : ∀ k, (Value.slice A n c).ownBlock = some k ↔ k ∈ blks A := by
  intro k
  rcases A with _ | ad
  · simp [Value.ownBlock, blks]
  · simp [Value.ownBlock, blks, eq_comm]

theorem run_append_int (w : World) (ty : TypeId) (A : Option Addr) (c : Nat) (xs : List Int) (hown : Ints w A c xs) (ad : Addr) (c' : Nat) (y : Int) (hy : w.cell? ad = some (.int .i64 y)) (hlen : xs.length < 17592186044416) :
    ∃ g cap w', (Builtin.append_ #[22, 22] ty #[.slice A xs.length c, .slice (some ad) 1 c']).run Try.prog w = .ok (.slice (some ⟨g, 0, none⟩) (xs.length + 1) cap) w' ∧
      Ints w' (some ⟨g, 0, none⟩) cap (xs ++ [y]) ∧ Fr (blks A) w w' ∧ (g ∈ blks A ∨ g = w.heap.size) ∧ w.heap.size ≤ w'.heap.size := by
  obtain ⟨i0, hi, hz0, hz1, hz2⟩ := info_parts infoInt
  obtain ⟨v', w', hr, h2, h3, h4, h5⟩ := run_append_own_at (P := Try.prog) w 0 22 ty 3 i0 (.int .i64 0) 1 8 Try.underlying22 hi hz0 hz1 hz2 rfl (by decide) (.slice A xs.length c) xs.length _ hown
    ad 1 c' [.int .i64 y] rfl (by
      intro j u hj
      match j, hj with
      | 0, hj =>
        simp at hj
        subst hj
        simpa [Addr.add] using hy) (by simp [Value.oneCell']) (by unfold maxLen; omega) (by omega) (Nat.zero_le _)
  have hv : ∃ g cap, v' = .slice (some ⟨g, 0, none⟩) (xs.length + 1) cap := by
    rcases h2.2 with ⟨_, h0⟩ | ⟨g, cap, cur, hv, _⟩
    · omega
    · exact ⟨g, cap, hv⟩
  obtain ⟨g, cap, rfl⟩ := hv
  refine ⟨g, cap, w', hr, ?_, ?_, ?_, h3.size⟩
  · unfold Ints
    simpa using h2
  · exact (Fr.refl _ w).grown h3 fun k hk => .inl ((blks_own k).1 hk)
  · rcases h5 with h5 | h5
    · exact .inl ((blks_own g).1 h5.symm)
    · simp only [Value.ownBlock, Option.some.injEq] at h5
      exact .inr h5

theorem wpList_append_int (w : World) {ops : Array Oper} {rest : List Oper} {o : Oper} {a : Act} {Q : Exit → Act → World → Prop} (hgd : o.guard = none) (s x : Operand)
    (ho : o.op = .call { callee := .builtin .append, args := #[s, x], argTypes := #[22, 22] }) (A : Option Addr) (c : Nat) (xs : List Int) (n : Nat) (hs : a.eval s = .slice A n c) (hn : n = xs.length) (hown : Ints w A c xs)
    (ad : Addr) (c' : Nat) (y : Int) (hx : a.eval x = .slice (some ad) 1 c') (hy : w.cell? ad = some (.int .i64 y)) (hlen : xs.length < 17592186044416)
    (h : ∀ g cap w', Ints w' (some ⟨g, 0, none⟩) cap (xs ++ [y]) → Fr (blks A) w w' → (g ∈ blks A ∨ g = w.heap.size) → w.heap.size ≤ w'.heap.size → wpList Try.prog ops Q rest (a.put o.dst (.slice (some ⟨g, 0, none⟩) (n + 1) cap)) w') :
    wpList Try.prog ops Q (o :: rest) a w := by
  subst hn
  refine wpList_plain hgd fun K hK => ?_
  obtain ⟨g, cap, w', hr, h2, h3, h4, h5⟩ := run_append_int w o.type A c xs hown ad c' y hy hlen
  unfold Oper.wp execOp
  simp only [ho, resolve, invoke, builtin, Sem.run_bind, Sem.run_pure, Result.andThen_ok, List.map_toArray, List.map_cons, List.map_nil, hs, hx, hr]
  exact hK _ _ (h g cap w' h2 h3 h4 h5)

theorem step_append_int {w : World} {ops : Array Oper} {o : Oper} {a : Act} {K : Act → World → Prop} {Q : Exit → Act → World → Prop} {E : Prop} (hgd : o.guard = none) (s x : Operand)
    (ho : o.op = .call { callee := .builtin .append, args := #[s, x], argTypes := #[22, 22] }) (A : Option Addr) (c : Nat) (xs : List Int) (n : Nat) (hs : a.eval s = .slice A n c) (hn : n = xs.length) (hown : Ints w A c xs)
    (ad : Addr) (c' : Nat) (y : Int) (hx : a.eval x = .slice (some ad) 1 c') (hy : w.cell? ad = some (.int .i64 y)) (hlen : xs.length < 17592186044416)
    (h : ∀ g cap w', Ints w' (some ⟨g, 0, none⟩) cap (xs ++ [y]) → Fr (blks A) w w' → (g ∈ blks A ∨ g = w.heap.size) → w.heap.size ≤ w'.heap.size → K (a.put o.dst (.slice (some ⟨g, 0, none⟩) (n + 1) cap)) w') :
    if Region.wanted o (yielded ops a.tmps) = true then Oper.wp Try.prog o a w K Q else E := by
  have hw : Region.wanted o (yielded ops a.tmps) = true := by simp [Region.wanted, hgd]
  rw [if_pos hw]
  subst hn
  obtain ⟨g, cap, w', hr, h2, h3, h4, h5⟩ := run_append_int w o.type A c xs hown ad c' y hy hlen
  unfold Oper.wp execOp
  simp only [ho, resolve, invoke, builtin, Sem.run_bind, Sem.run_pure, Result.andThen_ok, List.map_toArray, List.map_cons, List.map_nil, hs, hx, hr]
  exact h g cap w' h2 h3 h4 h5

end Go.Proofs.Ytbjccgahmgpkjaa
