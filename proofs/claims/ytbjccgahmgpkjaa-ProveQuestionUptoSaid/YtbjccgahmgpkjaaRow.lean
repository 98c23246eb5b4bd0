/- Append to a slice that has its row whole, whatever the elements' type; appended is a slice that lies anywhere. -/
import Derived.Test.YtbjccgahmgpkjaaMemP
namespace Go.Proofs.Ytbjccgahmgpkjaa
open Go.RowKit

theorem run_append_row (w : World) (t ty e : TypeId) (z : Value) (size bytes : Nat) (ht : Try.prog.underlying t = some (.slice e)) (hi : (Try.prog.info? e).map (fun i => (i.zero, i.size, i.bytes)) = some (some z, size, bytes)) (hzs : z.cells.size = size) (hsz : 0 < size)
    (A : Option Addr) (c n : Nat) (xs : List Value) (hown : w.ownsRow 0 e size (.slice A n c) n xs) (ad : Addr) (m c' : Nat) (news : List Value) (hl : news.length = m * size)
    (hnews : ∀ j u, news[j]? = some u → w.cell? (ad.add j) = some u) (h1 : ∀ u ∈ news, u.oneCell' = true) (h63 : n + m ≤ maxLen) (hbytes : (n + m) * bytes ≤ 140737488355328) :
    ∃ A' cap w', (Builtin.append_ #[t, t] ty #[.slice A n c, .slice (some ad) m c']).run Try.prog w = .ok (.slice A' (n + m) cap) w' ∧
      w'.ownsRow 0 e size (.slice A' (n + m) cap) (n + m) (xs ++ news) ∧ Fr (blks A) w w' ∧ (∀ k, k ∈ blks A' → k ∈ blks A ∨ k = w.heap.size) ∧ w.heap.size ≤ w'.heap.size ∧ (A' = none → m = 0 ∧ A = none) ∧ (∀ a', A' = some a' → ∃ g, a' = ⟨g, 0, none⟩) := by
  obtain ⟨i0, hi, hz0, hz1, hz2⟩ := info_parts hi
  obtain ⟨v', w', hr, h2, h3, h4, h5⟩ := run_append_own_at (P := Try.prog) w 0 t ty e i0 z size bytes ht hi hz0 hz1 hz2 hzs hsz (.slice A n c) n _ hown ad m c' news hl hnews h1 h63 hbytes (Nat.zero_le _)
  have hv : ∃ A' cap, v' = .slice A' (n + m) cap ∧ ∀ a', A' = some a' → ∃ g, a' = ⟨g, 0, none⟩ := by
    rcases h2.2 with ⟨h, h0⟩ | ⟨g, cap, cur, hv, _⟩
    · exact ⟨none, 0, by rw [h, h0], fun _ h => by cases h⟩
    · exact ⟨_, cap, hv, fun a' h => ⟨g, by cases h; rfl⟩⟩
  obtain ⟨A', cap, rfl, hA'⟩ := hv
  refine ⟨A', cap, w', hr, h2, (Fr.refl _ w).grown h3 fun k hk => .inl ((blks_own k).1 hk), ?_, h3.size, ?_, hA'⟩
  · intro k hk
    have hk' := (blks_own (n := n + m) (c := cap) k).2 hk
    rcases h5 with h5 | h5
    · exact .inl ((blks_own k).1 (h5 ▸ hk'))
    · rw [h5] at hk'
      exact .inr (Option.some.inj hk').symm
  · intro e0
    subst e0
    rcases h2.2 with ⟨h, h0⟩ | ⟨g, cap', cur, hv, _⟩
    · rw [h] at h4
      obtain ⟨h6, h7⟩ := h4.1 rfl
      exact ⟨h7, by cases h6; rfl⟩
    · cases hv

theorem wpList_append_row (w : World) {ops : Array Oper} {rest : List Oper} {o : Oper} {a : Act} {Q : Exit → Act → World → Prop} (hgd : o.guard = none) (s x : Operand) (t : TypeId)
    (ho : o.op = .call { callee := .builtin .append, args := #[s, x], argTypes := #[t, t] }) (e : TypeId) (z : Value) (size bytes : Nat) (ht : Try.prog.underlying t = some (.slice e)) (hi : (Try.prog.info? e).map (fun i => (i.zero, i.size, i.bytes)) = some (some z, size, bytes)) (hzs : z.cells.size = size) (hsz : 0 < size)
    (A : Option Addr) (c n : Nat) (hs : a.eval s = .slice A n c) (xs : List Value) (hown : w.ownsRow 0 e size (.slice A n c) n xs) (ad : Addr) (m c' : Nat) (hx : a.eval x = .slice (some ad) m c') (news : List Value) (hl : news.length = m * size)
    (hnews : ∀ j u, news[j]? = some u → w.cell? (ad.add j) = some u) (h1 : ∀ u ∈ news, u.oneCell' = true) (h63 : n + m ≤ maxLen) (hbytes : (n + m) * bytes ≤ 140737488355328)
    (h : ∀ A' cap w', w'.ownsRow 0 e size (.slice A' (n + m) cap) (n + m) (xs ++ news) → Fr (blks A) w w' → (∀ k, k ∈ blks A' → k ∈ blks A ∨ k = w.heap.size) → w.heap.size ≤ w'.heap.size → (A' = none → m = 0 ∧ A = none) → (∀ a', A' = some a' → ∃ g, a' = ⟨g, 0, none⟩) →
      wpList Try.prog ops Q rest (a.put o.dst (.slice A' (n + m) cap)) w') :
    wpList Try.prog ops Q (o :: rest) a w := by
  refine wpList_plain hgd fun K hK => ?_
  obtain ⟨A', cap, w', hr, h2, h3, h4, h5, h6, h7⟩ := run_append_row w t o.type e z size bytes ht hi hzs hsz A c n xs hown ad m c' news hl hnews h1 h63 hbytes
  unfold Oper.wp execOp
  simp only [ho, resolve, invoke, builtin, Sem.run_bind, Sem.run_pure, Result.andThen_ok, List.map_toArray, List.map_cons, List.map_nil, hs, hx, hr]
  exact hK _ _ (h A' cap w' h2 h3 h4 h5 h6 h7)

/-- One element more: the row's block is named. -/
theorem wpList_append_one (w : World) {ops : Array Oper} {rest : List Oper} {o : Oper} {a : Act} {Q : Exit → Act → World → Prop} (hgd : o.guard = none) (s x : Operand) (t : TypeId)
    (ho : o.op = .call { callee := .builtin .append, args := #[s, x], argTypes := #[t, t] }) (e : TypeId) (z : Value) (size bytes : Nat) (ht : Try.prog.underlying t = some (.slice e)) (hi : (Try.prog.info? e).map (fun i => (i.zero, i.size, i.bytes)) = some (some z, size, bytes)) (hzs : z.cells.size = size) (hsz : 0 < size)
    (A : Option Addr) (c n : Nat) (hs : a.eval s = .slice A n c) (xs : List Value) (hown : w.ownsRow 0 e size (.slice A n c) n xs) (ad : Addr) (c' : Nat) (hx : a.eval x = .slice (some ad) 1 c') (news : List Value) (hl : news.length = size)
    (hnews : ∀ j u, news[j]? = some u → w.cell? (ad.add j) = some u) (h1 : ∀ u ∈ news, u.oneCell' = true) (h63 : n + 1 ≤ maxLen) (hbytes : (n + 1) * bytes ≤ 140737488355328)
    (h : ∀ g cap w', w'.ownsRow 0 e size (.slice (some ⟨g, 0, none⟩) (n + 1) cap) (n + 1) (xs ++ news) → Fr (blks A) w w' → (g ∈ blks A ∨ g = w.heap.size) → w.heap.size ≤ w'.heap.size →
      wpList Try.prog ops Q rest (a.put o.dst (.slice (some ⟨g, 0, none⟩) (n + 1) cap)) w') :
    wpList Try.prog ops Q (o :: rest) a w := by
  refine wpList_append_row w hgd s x t ho e z size bytes ht hi hzs hsz A c n hs xs hown ad 1 c' hx news (by omega) hnews h1 h63 hbytes fun A' cap w' h2 h3 h4 h5 h6 h7 => ?_
  cases A' with
  | none => exact absurd (h6 rfl).1 (by decide)
  | some a' =>
    obtain ⟨g, rfl⟩ := h7 a' rfl
    exact h g cap w' h2 h3 (h4 g (by simp [blks])) h5

end Go.Proofs.Ytbjccgahmgpkjaa
