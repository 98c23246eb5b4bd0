/- An item more, a number more that waits; the row's put walked. -/
import Derived.Test.YtnbpnpodpnlamaaQueueC
import Derived.Deep.RegionHeld3
namespace Go.Proofs.Ytnbpnpodpnlamaa
open Go.RowKit
set_option linter.unusedVariables false

theorem run_append_item (w : World) (ty : TypeId) (A : Option Addr) (c : Nat) (M : List Im) (hown : Its w A c M) (g0 c' : Nat) (m : Im)
    (hy : At w g0 38 #[.int .i64 m.l, .slice m.C m.n m.c, .string m.s, .int .i64 m.f]) (hlen : M.length ≤ 2097152) :
    ∃ g cap w', (Builtin.append_ #[70, 70] ty #[.slice A M.length c, .slice (some ⟨g0, 0, none⟩) 1 c']).run Try.prog w = .ok (.slice (some ⟨g, 0, none⟩) (M.length + 1) cap) w' ∧
      Its w' (some ⟨g, 0, none⟩) cap (M ++ [m]) ∧ Fr (blks A) w w' ∧ (g ∈ blks A ∨ g = w.heap.size) ∧ w.heap.size ≤ w'.heap.size := by
  obtain ⟨A', cap, w', hr, h2, h3, h4, h5, h6, h7⟩ := run_append_row w 70 ty 38 (.agg #[.int .i64 0, .slice none 0 0, .string ⟨#[]⟩, .int .i64 0]) 4 56 Try.underlying70 infoItem rfl (by decide) A c M.length
    (flat4 M) hown ⟨g0, 0, none⟩ 1 c' (flat4 [m]) (by simp [flat4]) (fun j u hu => by
      match j, hu with
      | 0, hu => (simp [flat4] at hu; subst hu; simpa [Addr.add] using hy.cell 0)
      | 1, hu => (simp [flat4] at hu; subst hu; simpa [Addr.add] using hy.cell 1)
      | 2, hu => (simp [flat4] at hu; subst hu; simpa [Addr.add] using hy.cell 2)
      | 3, hu => (simp [flat4] at hu; subst hu; simpa [Addr.add] using hy.cell 3)
      | (_ + 4), hu => (simp [flat4] at hu)) (fun u hu => by
      simp only [flat4, List.mem_cons, List.not_mem_nil, or_false] at hu
      rcases hu with rfl | rfl | rfl | rfl <;> rfl) (by unfold maxLen; omega) (by omega)
  cases A' with
  | none => exact absurd (h6 rfl).1 (by decide)
  | some a' =>
    obtain ⟨g, rfl⟩ := h7 a' rfl
    refine ⟨g, cap, w', hr, ?_, h3, h4 g (by simp [blks]), h5⟩
    unfold Its
    rw [flat4_app, List.length_append]
    exact h2

theorem wpList_append_item (w : World) {ops : Array Oper} {rest : List Oper} {o : Oper} {a : Act} {Q : Exit → Act → World → Prop} (hgd : o.guard = none) (s x : Operand)
    (ho : o.op = .call { callee := .builtin .append, args := #[s, x], argTypes := #[70, 70] }) (A : Option Addr) (c : Nat) (M : List Im) (n : Nat) (hs : a.eval s = .slice A n c) (hn : n = M.length) (hown : Its w A c M)
    (g0 c' : Nat) (hx : a.eval x = .slice (some ⟨g0, 0, none⟩) 1 c') (m : Im) (hy : At w g0 38 #[.int .i64 m.l, .slice m.C m.n m.c, .string m.s, .int .i64 m.f]) (hlen : M.length ≤ 2097152)
    (h : ∀ g cap w', Its w' (some ⟨g, 0, none⟩) cap (M ++ [m]) → Fr (blks A) w w' → (g ∈ blks A ∨ g = w.heap.size) → w.heap.size ≤ w'.heap.size → wpList Try.prog ops Q rest (a.put o.dst (.slice (some ⟨g, 0, none⟩) (n + 1) cap)) w') :
    wpList Try.prog ops Q (o :: rest) a w := by
  subst hn
  refine wpList_plain hgd fun K hK => ?_
  obtain ⟨g, cap, w', hr, h2, h3, h4, h5⟩ := run_append_item w o.type A c M hown g0 c' m hy hlen
  unfold Oper.wp execOp
  simp only [ho, resolve, invoke, builtin, Sem.run_bind, Sem.run_pure, Result.andThen_ok, List.map_toArray, List.map_cons, List.map_nil, hs, hx, hr]
  exact hK _ _ (h g cap w' h2 h3 h4 h5)

theorem step_append_item {w : World} {ops : Array Oper} {o : Oper} {a : Act} {K : Act → World → Prop} {Q : Exit → Act → World → Prop} {E : Prop} (hgd : o.guard = none) (s x : Operand)
    (ho : o.op = .call { callee := .builtin .append, args := #[s, x], argTypes := #[70, 70] }) (A : Option Addr) (c : Nat) (M : List Im) (n : Nat) (hs : a.eval s = .slice A n c) (hn : n = M.length) (hown : Its w A c M)
    (g0 c' : Nat) (hx : a.eval x = .slice (some ⟨g0, 0, none⟩) 1 c') (m : Im) (hy : At w g0 38 #[.int .i64 m.l, .slice m.C m.n m.c, .string m.s, .int .i64 m.f]) (hlen : M.length ≤ 2097152)
    (h : ∀ g cap w', Its w' (some ⟨g, 0, none⟩) cap (M ++ [m]) → Fr (blks A) w w' → (g ∈ blks A ∨ g = w.heap.size) → w.heap.size ≤ w'.heap.size → K (a.put o.dst (.slice (some ⟨g, 0, none⟩) (n + 1) cap)) w') :
    if Region.wanted o (yielded ops a.tmps) = true then Oper.wp Try.prog o a w K Q else E := by
  have hw : Region.wanted o (yielded ops a.tmps) = true := by simp [Region.wanted, hgd]
  rw [if_pos hw]
  subst hn
  obtain ⟨g, cap, w', hr, h2, h3, h4, h5⟩ := run_append_item w o.type A c M hown g0 c' m hy hlen
  unfold Oper.wp execOp
  simp only [ho, resolve, invoke, builtin, Sem.run_bind, Sem.run_pure, Result.andThen_ok, List.map_toArray, List.map_cons, List.map_nil, hs, hx, hr]
  exact h g cap w' h2 h3 h4 h5

def Ql.ext (L L' : Ql) (w : World) : Prop := L'.a = L.a ∧ ∀ k, k ∈ L'.fp → k ∈ L.fp ∨ w.heap.size ≤ k
theorem Ql.ext_refl (L : Ql) (w : World) : L.ext L w := ⟨rfl, fun _ h => .inl h⟩
theorem Ql.ext_trans {L M N : Ql} {w w' : World} {S : List Nat} (h : L.ext M w) (k : M.ext N w') (hf : Fr S w w') : L.ext N w :=
  ⟨k.1.trans h.1, fun x hx => (k.2 x hx).elim (fun hm => h.2 x hm) (fun hm => .inr (Nat.le_trans hf.size hm))⟩

theorem qnodup {a : Nat} {x y : List Nat} (h : (a :: (x ++ y)).Nodup) : (∀ k, k ∈ x → k ≠ a ∧ k ∉ y) ∧ (∀ k, k ∈ y → k ≠ a ∧ k ∉ x) := by
  simp only [List.nodup_cons, List.mem_append, List.nodup_append] at h
  obtain ⟨h1, h2, h3, h4⟩ := h
  refine ⟨fun k hk => ⟨?_, ?_⟩, fun k hk => ⟨?_, ?_⟩⟩
  · rintro rfl; exact h1 (.inl hk)
  · exact fun hy => h4 k hk k hy rfl
  · rintro rfl; exact h1 (.inr hk)
  · exact fun hx => h4 k hx k hk rfl

namespace QAt
variable {w w' : World} {L : Ql} {M : List Im} {W : List Int}
/-- The items in a row that has grown, the struct told of it. -/
theorem newItems (h : QAt w L M W) {g cap : Nat} {m : Im} (hi : Its w' (some ⟨g, 0, none⟩) cap (M ++ [m])) (hf : Fr (blks L.A) w w') (hg : g ∈ blks L.A ∨ w.heap.size ≤ g) (hm : Cube w m) (hma : ∀ k, k ∈ blks m.C → k ∉ L.fp) :
    QAt (w'.setCell ⟨L.a, 0, none⟩ (.slice (some ⟨g, 0, none⟩) (M ++ [m]).length cap)) { L with A := some ⟨g, 0, none⟩, c := cap } (M ++ [m]) W ∧
    L.ext { L with A := some ⟨g, 0, none⟩, c := cap } w ∧ Fr L.fp w (w'.setCell ⟨L.a, 0, none⟩ (.slice (some ⟨g, 0, none⟩) (M ++ [m]).length cap)) := by
  obtain ⟨h1, h2⟩ := qnodup h.nd
  have nG : g ≠ L.a ∧ g ∉ blks L.B := by
    rcases hg with q | q
    · exact h1 g q
    · refine ⟨?_, fun k => ?_⟩
      · have := h.obj.lt; omega
      · have := h.waits.lt _ k; omega
  have bG : blks (some ⟨g, 0, none⟩) = [g] := rfl
  have hF : Fr L.fp w (w'.setCell ⟨L.a, 0, none⟩ (.slice (some ⟨g, 0, none⟩) (M ++ [m]).length cap)) := (hf.mono (T := L.fp) fun k hk => .inl (by simp [Ql.fp, hk])).setCell (.inl (by simp [Ql.fp])) _
  refine ⟨⟨?_, ?_, ?_, ?_, ?_⟩, ⟨rfl, ?_⟩, hF⟩
  · have := (hf.at_ h.obj (fun k => (h1 _ k).1 rfl)).set_ 0 (.slice (some ⟨g, 0, none⟩) (M ++ [m]).length cap)
    simpa using this
  · exact hi.fr ((Fr.refl [L.a] w').setCell (.inl (by simp)) _) (fun k hk => by
      rw [bG] at hk
      simp only [List.mem_singleton] at hk ⊢
      subst hk
      exact nG.1)
  · exact (h.waits.fr hf fun k hk hk' => (h2 k hk).2 hk').far (fun k => (h2 _ k).1 rfl) _
  · have hn := h.nd
    simp only [Ql.fp, List.nodup_cons, List.mem_append, List.nodup_append, bG, List.mem_singleton, List.not_mem_nil, not_false_eq_true, List.nodup_nil, true_and] at hn ⊢
    obtain ⟨n1, n2, n3, n4⟩ := hn
    refine ⟨?_, n3, ?_⟩
    · rintro (hk | hk)
      · exact nG.1 hk.symm
      · exact n1 (.inr hk)
    · intro a ha b hb e
      subst ha
      subst e
      exact nG.2 hb
  · intro x hx
    have key : ∀ x, Cube w x → (∀ k, k ∈ blks x.C → k ∉ L.fp) → Cube (w'.setCell ⟨L.a, 0, none⟩ (.slice (some ⟨g, 0, none⟩) (M ++ [m]).length cap)) x ∧ ∀ k, k ∈ blks x.C → k ∉ Ql.fp { L with A := some ⟨g, 0, none⟩, c := cap } := by
      intro x q1 q2
      refine ⟨q1.fr hF q2, fun k hk hk' => ?_⟩
      have h3 := q2 k hk
      have h4 := q1.lt k hk
      simp only [Ql.fp, bG, List.mem_cons, List.mem_append, List.not_mem_nil, or_false, not_or] at hk' h3
      rcases hk' with hk' | hk' | hk'
      · exact h3.1 hk'
      · subst hk'
        rcases hg with q | q
        · exact h3.2.1 q
        · omega
      · exact h3.2.2 hk'
    rcases List.mem_append.1 hx with hx | hx
    · exact key x (h.cubes x hx).1 (h.cubes x hx).2
    · simp only [List.mem_singleton] at hx
      subst hx
      exact key x hm hma
  · intro k hk
    simp only [Ql.fp, bG, List.mem_cons, List.mem_append, List.not_mem_nil, or_false] at hk ⊢
    rcases hk with hk | hk | hk
    · exact .inl (.inl hk)
    · subst hk; exact hg.imp (fun q => .inr (.inl q)) id
    · exact .inl (.inr (.inr hk))
/-- The numbers that wait in a row that has turned, the struct told of it. -/
theorem newWaits (h : QAt w L M W) {g cap : Nat} {V : List Int} (hi : Ints w' (some ⟨g, 0, none⟩) cap V) (hf : Fr (blks L.B) w w') (hg : g ∈ blks L.B ∨ w.heap.size ≤ g) :
    QAt (w'.setCell ⟨L.a, 1, none⟩ (.slice (some ⟨g, 0, none⟩) V.length cap)) { L with B := some ⟨g, 0, none⟩, d := cap } M V ∧
    L.ext { L with B := some ⟨g, 0, none⟩, d := cap } w ∧ Fr L.fp w (w'.setCell ⟨L.a, 1, none⟩ (.slice (some ⟨g, 0, none⟩) V.length cap)) := by
  obtain ⟨h1, h2⟩ := qnodup h.nd
  have nG : g ≠ L.a ∧ g ∉ blks L.A := by
    rcases hg with q | q
    · exact h2 g q
    · refine ⟨?_, fun k => ?_⟩
      · have := h.obj.lt; omega
      · have := h.its.lt _ k; omega
  have bG : blks (some ⟨g, 0, none⟩) = [g] := rfl
  have hF : Fr L.fp w (w'.setCell ⟨L.a, 1, none⟩ (.slice (some ⟨g, 0, none⟩) V.length cap)) := (hf.mono (T := L.fp) fun k hk => .inl (by simp [Ql.fp, hk])).setCell (.inl (by simp [Ql.fp])) _
  refine ⟨⟨?_, ?_, ?_, ?_, ?_⟩, ⟨rfl, ?_⟩, hF⟩
  · have := (hf.at_ h.obj (fun k => (h2 _ k).1 rfl)).set_ 1 (.slice (some ⟨g, 0, none⟩) V.length cap)
    simpa using this
  · exact (h.its.fr hf fun k hk hk' => (h1 k hk).2 hk').fr ((Fr.refl [L.a] w').setCell (.inl (by simp)) _) (fun k hk => by
      simp only [List.mem_singleton]
      exact (h1 k hk).1)
  · exact hi.far (by rw [bG]; simpa using fun e => nG.1 e.symm) _
  · have hn := h.nd
    simp only [Ql.fp, List.nodup_cons, List.mem_append, List.nodup_append, bG, List.mem_singleton, List.not_mem_nil, not_false_eq_true, List.nodup_nil, and_true] at hn ⊢
    obtain ⟨n1, n2, n3, n4⟩ := hn
    refine ⟨?_, n2, trivial, ?_⟩
    · rintro (hk | hk)
      · exact n1 (.inl hk)
      · exact nG.1 hk.symm
    · intro a ha b hb e
      subst hb
      subst e
      exact nG.2 ha
  · intro x hx
    obtain ⟨q1, q2⟩ := h.cubes x hx
    refine ⟨q1.fr hF q2, fun k hk hk' => ?_⟩
    have h3 := q2 k hk
    have h4 := q1.lt k hk
    simp only [Ql.fp, bG, List.mem_cons, List.mem_append, List.not_mem_nil, or_false, not_or] at hk' h3
    rcases hk' with hk' | hk' | hk'
    · exact h3.1 hk'
    · exact h3.2.1 hk'
    · subst hk'
      rcases hg with q | q
      · exact h3.2.2 q
      · omega
  · intro k hk
    simp only [Ql.fp, bG, List.mem_cons, List.mem_append, List.not_mem_nil, or_false] at hk ⊢
    rcases hk with hk | hk | hk
    · exact .inl (.inl hk)
    · exact .inl (.inr (.inl hk))
    · subst hk; exact hg.imp (fun q => .inr (.inr q)) id
end QAt

theorem Its.drew_ {w : World} {A : Option Addr} {c : Nat} {M : List Im} (h : Its w A c M) : Its w.drew A c M := h
theorem QAt.drew_ {w : World} {L : Ql} {M : List Im} {W : List Int} (h : QAt w L M W) : QAt w.drew L M W := h.keep (Fr.refl [] w).drew

set_option maxRecDepth 100000 in
set_option maxHeartbeats 2000000 in
theorem row_put (w : World) (L : Ql) (M : List Im) (W : List Int) (h : QAt w L M W) (m : Im) (hm : Cube w m) (hma : ∀ k, k ∈ blks m.C → k ∉ L.fp) (hlen : M.length ≤ 2097152) :
    Calls Try.prog 54 #[.pointer (some ⟨L.a, 0, none⟩), m.val] w fun e w' => e = .returned (.int .i64 (M.length + 1 : Nat)) ∧ ∃ L', QAt w' L' (M ++ [m]) W ∧ L.ext L' w ∧ Fr L.fp w w' := by
  obtain ⟨l, C, n, c, s, f, xs⟩ := m
  simp only [Im.val]
  simp only at hma
  obtain ⟨V, hV⟩ : ∃ V, V = w.alloc (.cells #[.int .i64 l, .slice C n c, .string s, .int .i64 f] 38) := ⟨_, rfl⟩
  have HVW : Hid (Fr [] w V) := by rw [hV]; exact (Fr.refl [] w).alloc _
  have HH : Hid (QAt V L M W) := h.keep HVW.out
  have HC := Lib.hid (hm.keep HVW.out)
  have HB : Hid (At V w.heap.size 38 #[.int .i64 l, .slice C n c, .string s, .int .i64 f]) := by rw [hV]; exact At.new w _ _
  have HMA := Lib.hid hma
  have HN : Hid (L.a ∉ blks L.A) := fun hk => ((qnodup h.nd).1 _ hk).1 rfl
  have HBX : Hid (w.heap.size ∉ blks L.A) := fun hk => by have := h.its.lt _ hk; omega
  clear h hm hma
  go_enter Try.func54, Try.ntmps54
  go_upto_region 1 with fail
  rw [← hV]
  clear hV
  have hws : ∃ bx, w.heap.size = bx := ⟨_, rfl⟩
  obtain ⟨bx, hbx⟩ := hws
  rw [hbx] at HB HBX ⊢
  clear hbx
  refine wp_region_noPanic ?_
  refine wp_region_C (fun w' : World => At w' L.a 83 #[.slice L.A M.length L.c, .slice L.B W.length L.d, .bool true] ∧ At w' bx 38 #[.int .i64 l, .slice C n c, .string s, .int .i64 f]) 10 (by kernel_rfl) (⟨HH.out.obj.drew, HB.out.drew⟩) (fun hT0 => ?_)
  refine wpAnyC_take0 (i := 0) (oi := ?oir1u1) (v := ?vr1u1) ?hir1u1 (by kernel_rfl) (by kernel_rfl) (by kernel_rfl) (by kernel_rfl) ?hQr1u1 ?hwr1u1 ?hyr1u1 hT0 ?_
  case hir1u1 => (simp only [List.getElem?_toArray, List.getElem?_cons_zero]; rfl)
  case hQr1u1 => exact fun _ _ _ h => h
  case hwr1u1 => rfl
  case hyr1u1 => (intro w; go_simp <;> with_reducible rfl)
  try simp only [Act.put, List.setIfInBounds_toArray, List.set_cons_zero, List.set_cons_succ]
  refine wpAnyC_take0 (i := 1) (oi := ?oir1u2) (v := ?vr1u2) ?hir1u2 (by kernel_rfl) (by kernel_rfl) (by kernel_rfl) (by kernel_rfl) ?hQr1u2 ?hwr1u2 ?hyr1u2 (hT0.more 0) ?_
  case hir1u2 => (simp only [List.getElem?_toArray, List.getElem?_cons_succ, List.getElem?_cons_zero]; rfl)
  case hQr1u2 => exact fun _ _ _ h => h
  case hwr1u2 => rfl
  case hyr1u2 => (intro w; go_simp <;> with_reducible rfl)
  try simp only [Act.put, List.setIfInBounds_toArray, List.set_cons_zero, List.set_cons_succ]
  refine wpAnyC_take0 (i := 2) (oi := ?oir1u3) (v := ?vr1u3) ?hir1u3 (by kernel_rfl) (by kernel_rfl) (by kernel_rfl) (by kernel_rfl) ?hQr1u3 ?hwr1u3 ?hyr1u3 ((hT0.more 0).more 1) ?_
  case hir1u3 => (simp only [List.getElem?_toArray, List.getElem?_cons_succ, List.getElem?_cons_zero]; rfl)
  case hQr1u3 => exact fun _ _ _ h => h
  case hwr1u3 => rfl
  case hyr1u3 => (intro w; go_simp <;> with_reducible rfl)
  try simp only [Act.put, List.setIfInBounds_toArray, List.set_cons_zero, List.set_cons_succ]
  refine wpAnyC_take0 (i := 3) (oi := ?oir1u4) (v := ?vr1u4) ?hir1u4 (by kernel_rfl) (by kernel_rfl) (by kernel_rfl) (by kernel_rfl) ?hQr1u4 ?hwr1u4 ?hyr1u4 (((hT0.more 0).more 1).more 2) ?_
  case hir1u4 => (simp only [List.getElem?_toArray, List.getElem?_cons_succ, List.getElem?_cons_zero]; rfl)
  case hQr1u4 => exact fun _ _ _ h => h
  case hwr1u4 => rfl
  case hyr1u4 => (intro w; go_simp <;> with_reducible rfl)
  try simp only [Act.put, List.setIfInBounds_toArray, List.set_cons_zero, List.set_cons_succ]
  refine wpAnyC_take (i := 4) (oi := ?oir1u5) (v := ?vr1u5) [4, 10] ?hir1u5 (by kernel_rfl) (by kernel_rfl) (by kernel_rfl) (by kernel_rfl) ?hQr1u5 (.inl ⟨?hwr1u5, ?hyr1u5⟩) (((((hT0.more 0).more 1).more 2).more 3).resolve_left (by decide)) ?_
  case hir1u5 => (simp only [List.getElem?_toArray, List.getElem?_cons_succ, List.getElem?_cons_zero]; rfl)
  case hQr1u5 => exact fun _ _ _ h => h
  case hwr1u5 => rfl
  case hyr1u5 => (intro w hSw; (have s0 := hSw.1.cell 0; have t0 := hSw.2.cell 0; have t1 := hSw.2.cell 1; have t2 := hSw.2.cell 2; have t3 := hSw.2.cell 3; simp at s0 t0 t1 t2 t3); go_simp <;> with_reducible rfl)
  try simp only [Act.put, List.setIfInBounds_toArray, List.set_cons_zero, List.set_cons_succ]
  refine wpAnyC_take (i := 5) (oi := ?oir1u6) (v := ?vr1u6) [5, 10] ?hir1u6 (by kernel_rfl) (by kernel_rfl) (by kernel_rfl) (by kernel_rfl) ?hQr1u6 (.inl ⟨?hwr1u6, ?hyr1u6⟩) ((((((hT0.more 0).more 1).more 2).more 3).more 4).resolve_left (by decide)) ?_
  case hir1u6 => (simp only [List.getElem?_toArray, List.getElem?_cons_succ, List.getElem?_cons_zero]; rfl)
  case hQr1u6 => exact fun _ _ _ h => h
  case hwr1u6 => rfl
  case hyr1u6 => (intro w hSw; (have s0 := hSw.1.cell 0; have t0 := hSw.2.cell 0; have t1 := hSw.2.cell 1; have t2 := hSw.2.cell 2; have t3 := hSw.2.cell 3; simp at s0 t0 t1 t2 t3); go_simp <;> with_reducible rfl)
  try simp only [Act.put, List.setIfInBounds_toArray, List.set_cons_zero, List.set_cons_succ]
  have hSx := ((((((hT0.more 0).more 1).more 2).more 3).more 4).more 5).resolve_left (by decide)
  refine wpAnyC_ready (rs := [6]) (by kernel_rfl) (by simp) ?_
  refine ReadyC.cons (o := ?or1u7) ?hor1u7 ?hstepr1u7 ?_
  case hor1u7 => (simp only [List.getElem?_toArray, List.getElem?_cons_succ, List.getElem?_cons_zero]; rfl)
  case hstepr1u7 =>
    intro K hK
    go_simp
    refine hK.out _ _ (.inr ?_) (fun hHeld => ?_)
    · first | exact ⟨hSx.1.alloc _, hSx.2.alloc _⟩ | exact ⟨hfA.at_ hSx.1 HN.out, hfA.at_ hSx.2 HBX.out⟩
    have hT7 := hHeld
    clear hHeld
    clear hK K
    try simp only [Act.put, List.setIfInBounds_toArray, List.set_cons_zero, List.set_cons_succ]
    have hSx := hT7.resolve_left (by decide)
    refine wpAnyC_ready (rs := [7]) (by kernel_rfl) (by simp) ?_
    refine ReadyC.cons (o := ?or1u8) ?hor1u8 ?hstepr1u8 ?_
    case hor1u8 => (simp only [List.getElem?_toArray, List.getElem?_cons_succ, List.getElem?_cons_zero]; rfl)
    case hstepr1u8 =>
      intro K hK
      (refine step_append_item rfl _ _ rfl L.A L.c M _ rfl rfl ?hownr1u8 _ 1 rfl ⟨l, C, n, c, s, f, xs⟩ ?hcellr1u8 (by omega) ?_; (case hownr1u8 => exact HH.out.its.drew_.alloc _); (case hcellr1u8 => exact At.new _ _ _); intro gA cA wA hiA hfA hgA hsA)
      refine hK.out _ _ (.inr ?_) (fun hHeld => ?_)
      · first | exact ⟨hSx.1.alloc _, hSx.2.alloc _⟩ | exact ⟨hfA.at_ hSx.1 HN.out, hfA.at_ hSx.2 HBX.out⟩
      have hT8 := hHeld
      clear hHeld
      clear hK K
      try simp only [Act.put, List.setIfInBounds_toArray, List.set_cons_zero, List.set_cons_succ]
      refine wpAnyC_take0 (i := 8) (oi := ?oir1u9) (v := ?vr1u9) ?hir1u9 (by kernel_rfl) (by kernel_rfl) (by kernel_rfl) (by kernel_rfl) ?hQr1u9 ?hwr1u9 ?hyr1u9 hT8 ?_
      case hir1u9 => (simp only [List.getElem?_toArray, List.getElem?_cons_succ, List.getElem?_cons_zero]; rfl)
      case hQr1u9 => exact fun _ _ _ h => h
      case hwr1u9 => rfl
      case hyr1u9 => (intro w; go_simp <;> with_reducible rfl)
      try simp only [Act.put, List.setIfInBounds_toArray, List.set_cons_zero, List.set_cons_succ]
      refine wpAnyC_take0 (i := 9) (oi := ?oir1u10) (v := ?vr1u10) ?hir1u10 (by kernel_rfl) (by kernel_rfl) (by kernel_rfl) (by kernel_rfl) ?hQr1u10 ?hwr1u10 ?hyr1u10 (hT8.more 8) ?_
      case hir1u10 => (simp only [List.getElem?_toArray, List.getElem?_cons_succ, List.getElem?_cons_zero]; rfl)
      case hQr1u10 => exact fun _ _ _ h => h
      case hwr1u10 => rfl
      case hyr1u10 => (intro w; go_simp <;> with_reducible rfl)
      try simp only [Act.put, List.setIfInBounds_toArray, List.set_cons_zero, List.set_cons_succ]
      have hSx := ((hT8.more 8).more 9).resolve_left (by decide)
      refine wpAnyC_ready (rs := [10]) (by kernel_rfl) (by simp) ?_
      refine ReadyC.cons (o := ?or1u11) ?hor1u11 ?hstepr1u11 ?_
      case hor1u11 => (simp only [List.getElem?_toArray, List.getElem?_cons_succ, List.getElem?_cons_zero]; rfl)
      case hstepr1u11 =>
        intro K hK
        (have b1 := hSx.1.cell 0; have b3 := hSx.1.frozen 0; simp at b1; go_simp)
        refine hK.out _ _ (.inl rfl) (fun hHeld => ?_)
        have hT11 := hHeld
        clear hHeld
        clear hK K
        try simp only [Act.put, List.setIfInBounds_toArray, List.set_cons_zero, List.set_cons_succ]
        refine wpAnyC_done (by kernel_rfl) ?_ _
        refine NoPanic.normal ?_
        have qA : gA ∈ blks L.A ∨ (V.drew.alloc (.cells #[.int .i64 l, .slice C n c, .string s, .int .i64 f] 38)).heap.size ≤ gA := hgA.imp id (fun e => by rw [e]; exact Nat.le_refl _)
        obtain ⟨r1, r2, r3⟩ := (HH.out.drew_.alloc _).newItems hiA hfA qA ((HC.out.keep ((Fr.refl [] V).drew.alloc _))) HMA.out
        have HI := Lib.hid r1
        have HX := Lib.hid r2
        have HF := Lib.hid r3
        have b1 := r1.o0
        clear r1 r2 r3
        go_wp2_with fail
        go_ret
        refine ⟨by simp, _, by simpa using HI.out, ⟨HX.out.1, fun k hk => (HX.out.2 k hk).imp id (fun h => by simp at h; have := HVW.out.size; omega)⟩, ?_⟩
        have := ((HVW.out.mono (T := L.fp) (fun k hk => by cases hk)).drew.alloc (.cells #[.int .i64 l, .slice C n c, .string s, .int .i64 f] 38)).trans HF.out (fun k hk => .inl hk)
        simpa using this
      exact ReadyC.nil
    exact ReadyC.nil
  exact ReadyC.nil

end Go.Proofs.Ytnbpnpodpnlamaa
