/- Slices of several cells an element: read as a list of cells; appended; the row of the call's own. -/
import Derived.Test.YtbjccgahmgpkjaaRow
import Derived.Laws.AppendOwnNone
import Derived.Test.YtbjccgahmgpkjaaCir
namespace Go.Proofs.Ytbjccgahmgpkjaa
open Go.RowKit
set_option linter.unusedVariables false

theorem adr_add (g o n : Nat) : (Addr.mk g o none).add n = ⟨g, o + n, none⟩ := by unfold Addr.add; split <;> simp_all

def flatT : List T3 → List Value
  | [] => []
  | x :: r => .int .i64 x.a :: .int .i64 x.b :: .int .i64 x.c :: flatT r
def flatM : List Nm → List Value
  | [] => []
  | x :: r => .string x.k :: .int .i64 x.i :: .string x.t :: flatM r
theorem flatT_len (l : List T3) : (flatT l).length = l.length * 3 := by
  induction l with
  | nil => rfl
  | cons x r ih => simp [flatT, ih]; omega
theorem flatM_len (l : List Nm) : (flatM l).length = l.length * 3 := by
  induction l with
  | nil => rfl
  | cons x r ih => simp [flatM, ih]; omega
theorem flatT_app (a b : List T3) : flatT (a ++ b) = flatT a ++ flatT b := by
  induction a with
  | nil => rfl
  | cons x r ih => simp [flatT, ih]
theorem flatM_app (a b : List Nm) : flatM (a ++ b) = flatM a ++ flatM b := by
  induction a with
  | nil => rfl
  | cons x r ih => simp [flatM, ih]
theorem flatT_get : ∀ (l : List T3) (i : Nat), i < l.length → (flatT l)[i * 3]? = some (.int .i64 (l[i]!).a) ∧ (flatT l)[i * 3 + 1]? = some (.int .i64 (l[i]!).b) ∧ (flatT l)[i * 3 + 2]? = some (.int .i64 (l[i]!).c) := by
  intro l
  induction l with
  | nil => intro i h; simp at h
  | cons x r ih =>
    intro i h
    cases i with
    | zero => simp [flatT]
    | succ i =>
      have := ih i (by simpa using h)
      have e : (i + 1) * 3 = i * 3 + 1 + 1 + 1 := by omega
      rw [e]
      simpa [flatT] using this
theorem flatM_get : ∀ (l : List Nm) (i : Nat), i < l.length → (flatM l)[i * 3]? = some (.string (l[i]!).k) ∧ (flatM l)[i * 3 + 1]? = some (.int .i64 (l[i]!).i) ∧ (flatM l)[i * 3 + 2]? = some (.string (l[i]!).t) := by
  intro l
  induction l with
  | nil => intro i h; simp at h
  | cons x r ih =>
    intro i h
    cases i with
    | zero => simp [flatM]
    | succ i =>
      have := ih i (by simpa using h)
      have e : (i + 1) * 3 = i * 3 + 1 + 1 + 1 := by omega
      rw [e]
      simpa [flatM] using this
theorem flatT_one {l : List T3} : ∀ u ∈ flatT l, u.oneCell' = true := by
  induction l with
  | nil => intro u hu; cases hu
  | cons x r ih =>
    intro u hu
    simp only [flatT, List.mem_cons] at hu
    rcases hu with rfl | rfl | rfl | hu
    · rfl
    · rfl
    · rfl
    · exact ih u hu
theorem flatM_one {l : List Nm} : ∀ u ∈ flatM l, u.oneCell' = true := by
  induction l with
  | nil => intro u hu; cases hu
  | cons x r ih =>
    intro u hu
    simp only [flatM, List.mem_cons] at hu
    rcases hu with rfl | rfl | rfl | hu
    · rfl
    · rfl
    · rfl
    · exact ih u hu

/-- The cells behind an address. -/
def Rs (w : World) (A : Option Addr) (vs : List Value) : Prop := 0 < vs.length → ∃ b o, A = some ⟨b, o, none⟩ ∧ ∀ j u, vs[j]? = some u → w.cell? ⟨b, o + j, none⟩ = some u
theorem Rs.keep {w w' : World} {A : Option Addr} {vs : List Value} (h : Rs w A vs) (hf : Fr [] w w') : Rs w' A vs := by
  intro h0
  obtain ⟨b, o, hA, hx⟩ := h h0
  exact ⟨b, o, hA, fun j u hu => hf.cellS (hx j u hu)⟩
theorem Rd.rs {w : World} {A : Option Addr} {l : List Int} (h : Rd w A l) : Rs w A (l.map (Value.int .i64)) := by
  intro h0
  obtain ⟨b, o, hA, hx⟩ := h (by simpa using h0)
  refine ⟨b, o, hA, fun j u hu => ?_⟩
  simp only [List.getElem?_map, Option.map_eq_some_iff] at hu
  obtain ⟨y, hy, rfl⟩ := hu
  have hj := (List.getElem?_eq_some_iff.1 hy).1
  have := hx j hj
  rwa [List.getElem!_eq_getElem?_getD, hy] at this
theorem RdT.rs {w : World} {A : Option Addr} {l : List T3} (h : RdT w A l) : Rs w A (flatT l) := by
  intro h0
  rw [flatT_len] at h0
  obtain ⟨b, o, hA, hx⟩ := h (by omega)
  refine ⟨b, o, hA, fun j u hu => ?_⟩
  have hj := (List.getElem?_eq_some_iff.1 hu).1
  rw [flatT_len] at hj
  have hq : j / 3 < l.length := by omega
  obtain ⟨g0, g1, g2⟩ := flatT_get l (j / 3) hq
  obtain ⟨x0, x1, x2⟩ := hx (j / 3) hq
  have hj3 : j = j / 3 * 3 ∨ j = j / 3 * 3 + 1 ∨ j = j / 3 * 3 + 2 := by omega
  generalize j / 3 = q at *
  rcases hj3 with e | e | e
  · rw [e, g0] at hu; cases hu; rw [e]; exact x0
  · rw [e, g1] at hu; cases hu; rw [e, ← Nat.add_assoc]; exact x1
  · rw [e, g2] at hu; cases hu; rw [e, ← Nat.add_assoc]; exact x2
theorem RdM.rs {w : World} {A : Option Addr} {l : List Nm} (h : RdM w A l) : Rs w A (flatM l) := by
  intro h0
  rw [flatM_len] at h0
  obtain ⟨b, o, hA, hx⟩ := h (by omega)
  refine ⟨b, o, hA, fun j u hu => ?_⟩
  have hj := (List.getElem?_eq_some_iff.1 hu).1
  rw [flatM_len] at hj
  have hq : j / 3 < l.length := by omega
  obtain ⟨g0, g1, g2⟩ := flatM_get l (j / 3) hq
  obtain ⟨x0, x1, x2⟩ := hx (j / 3) hq
  have hj3 : j = j / 3 * 3 ∨ j = j / 3 * 3 + 1 ∨ j = j / 3 * 3 + 2 := by omega
  generalize j / 3 = q at *
  rcases hj3 with e | e | e
  · rw [e, g0] at hu; cases hu; rw [e]; exact x0
  · rw [e, g1] at hu; cases hu; rw [e, ← Nat.add_assoc]; exact x1
  · rw [e, g2] at hu; cases hu; rw [e, ← Nat.add_assoc]; exact x2

/-- A row of the call's own, at a base: the slice value has n elements of type e, their cells vs. -/
def Ow (w : World) (B : Nat) (e : TypeId) (size : Nat) (A : Option Addr) (c n : Nat) (vs : List Value) : Prop := w.ownsRow 0 e size (.slice A n c) n vs ∧ ∀ k, k ∈ blks A → B ≤ k
theorem own_rs {w : World} {e : TypeId} {size n c : Nat} {A : Option Addr} {vs : List Value} (h : w.ownsRow 0 e size (.slice A n c) n vs) (hn : vs.length = n * size) : Rs w A vs := by
  intro h0
  rcases h.2 with ⟨h1, h2⟩ | ⟨g, cap, cur, hv, _, hg, hn', hm, _⟩
  · subst h2; simp at hn; subst hn; simp at h0
  · simp only [Value.slice.injEq, true_and] at hv
    obtain ⟨rfl, rfl⟩ := hv
    refine ⟨g, 0, rfl, fun j u hu => ?_⟩
    rw [Nat.zero_add, World.ownsRow.cellAt h j (by have := (List.getElem?_eq_some_iff.1 hu).1; omega)]
    exact hu
theorem Rs.rd {w : World} {A : Option Addr} {l : List Int} (h : Rs w A (l.map (Value.int .i64))) : Rd w A l := by
  intro h0
  obtain ⟨b, o, hA, hx⟩ := h (by simpa using h0)
  exact ⟨b, o, hA, fun j hj => hx j _ (by simp [hj])⟩
theorem Rs.rdT {w : World} {A : Option Addr} {l : List T3} (h : Rs w A (flatT l)) : RdT w A l := by
  intro h0
  obtain ⟨b, o, hA, hx⟩ := h (by rw [flatT_len]; omega)
  refine ⟨b, o, hA, fun j hj => ?_⟩
  obtain ⟨g0, g1, g2⟩ := flatT_get l j hj
  exact ⟨hx _ _ g0, by rw [Nat.add_assoc]; exact hx _ _ g1, by rw [Nat.add_assoc]; exact hx _ _ g2⟩
theorem Rs.rdM {w : World} {A : Option Addr} {l : List Nm} (h : Rs w A (flatM l)) : RdM w A l := by
  intro h0
  obtain ⟨b, o, hA, hx⟩ := h (by rw [flatM_len]; omega)
  refine ⟨b, o, hA, fun j hj => ?_⟩
  obtain ⟨g0, g1, g2⟩ := flatM_get l j hj
  exact ⟨hx _ _ g0, by rw [Nat.add_assoc]; exact hx _ _ g1, by rw [Nat.add_assoc]; exact hx _ _ g2⟩
theorem own_slot {w : World} {e : TypeId} {size n c : Nat} {A : Option Addr} {vs : List Value} (h : w.ownsRow 0 e size (.slice A n c) n vs) : (A = none ∧ c = 0 ∧ n = 0) ∨ ∃ g, A = some ⟨g, 0, none⟩ ∧ g < w.heap.size ∧ n ≤ c ∧ c ≤ maxLen := by
  rcases h.2 with ⟨h1, h2⟩ | ⟨g, cap, cur, hv, _, hg, hn', hm, _⟩
  · simp only [Value.slice.injEq] at h1
    exact .inl ⟨h1.1, h1.2.2, h2⟩
  · simp only [Value.slice.injEq, true_and] at hv
    obtain ⟨rfl, rfl⟩ := hv
    exact .inr ⟨g, rfl, At.lt (t := e) hg, hn', hm⟩
theorem own_lt {w : World} {e : TypeId} {size n c : Nat} {A : Option Addr} {vs : List Value} (h : w.ownsRow 0 e size (.slice A n c) n vs) : ∀ k, k ∈ blks A → k < w.heap.size := by
  rcases own_slot h with ⟨rfl, _⟩ | ⟨g, rfl, h1, _⟩
  · simp [blks]
  · simpa [blks] using h1

/-- Append of all of a slice that lies anywhere, nil too, to a row of the call's own. -/
theorem wpList_append_rs (w : World) {ops : Array Oper} {rest : List Oper} {o : Oper} {a : Act} {Q : Exit → Act → World → Prop} (hgd : o.guard = none) (s x : Operand) (t : TypeId)
    (ho : o.op = .call { callee := .builtin .append, args := #[s, x], argTypes := #[t, t] }) (e : TypeId) (z : Value) (size bytes : Nat) (ht : Try.prog.underlying t = some (.slice e)) (hi : (Try.prog.info? e).map (fun i => (i.zero, i.size, i.bytes)) = some (some z, size, bytes)) (hzs : z.cells.size = size) (hsz : 0 < size)
    (A : Option Addr) (c n : Nat) (hs : a.eval s = .slice A n c) (xs : List Value) (hown : w.ownsRow 0 e size (.slice A n c) n xs)
    (A2 : Option Addr) (m c2 : Nat) (hx : a.eval x = .slice A2 m c2) (news : List Value) (hl : news.length = m * size) (hnil : A2 = none → m = 0 ∧ c2 = 0) (hrs : Rs w A2 news)
    (h1 : ∀ u ∈ news, u.oneCell' = true) (h63 : n + m ≤ maxLen) (hbytes : (n + m) * bytes ≤ 140737488355328)
    (h : ∀ A' cap w', w'.ownsRow 0 e size (.slice A' (n + m) cap) (n + m) (xs ++ news) → Fr (blks A) w w' → (∀ k, k ∈ blks A' → k ∈ blks A ∨ k = w.heap.size) → w.heap.size ≤ w'.heap.size → (A' = none → A2 = none ∨ m = 0) → wpList Try.prog ops Q rest (a.put o.dst (.slice A' (n + m) cap)) w') :
    wpList Try.prog ops Q (o :: rest) a w := by
  cases A2 with
  | none =>
    obtain ⟨rfl, rfl⟩ := hnil rfl
    obtain rfl := List.eq_nil_of_length_eq_zero (by simpa using hl)
    obtain ⟨i0, hi, _⟩ := info_parts hi
    refine wpList_append_own_none hgd s x t ho 0 e i0 size ht hi (.slice A n c) n xs hs hown hx ?_
    have := h A c w (by simpa using hown) (Fr.refl _ _) (fun k hk => .inl hk) (Nat.le_refl _) (fun _ => .inl rfl)
    simpa using this
  | some ad =>
    have hnews : ∀ j u, news[j]? = some u → w.cell? (ad.add j) = some u := fun j u hu => by
      have hj := (List.getElem?_eq_some_iff.1 hu).1
      obtain ⟨b, o, hbo, hc⟩ := hrs (by omega)
      cases hbo
      rw [adr_add]
      exact hc j u hu
    exact wpList_append_row w hgd s x t ho e z size bytes ht hi hzs hsz A c n hs xs hown ad m c2 hx news hl hnews h1 h63 hbytes
      fun A' cap w' q1 q2 q3 q4 q5 q6 => h A' cap w' q1 q2 q3 q4 (fun h => .inr (q5 h).1)

end Go.Proofs.Ytbjccgahmgpkjaa
