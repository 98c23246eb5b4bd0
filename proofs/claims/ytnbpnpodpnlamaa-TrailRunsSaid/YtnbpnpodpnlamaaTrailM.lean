/- The trail and the law's own list beside it, behind an anchor: a world, and the blocks of it that may turn. -/
import Derived.Test.YtnbpnpodpnlamaaTrailL
import Derived.Test.YtnbpnpodpnlamaaRow
namespace Go.Proofs.Ytnbpnpodpnlamaa
open Go.RowKit
set_option linter.unusedVariables false

theorem TRep.rng {T : Tr} {vars : Nat} {S : List St} {d : Nat} (h : TRep T vars S d) : ∀ e, e ∈ S → -9223372036854775808 ≤ e.x ∧ e.x ≤ 9223372036854775807 ∨ vars > 9223372036854775807 := by
  intro e he
  obtain ⟨_, _, q1, q2⟩ := h.bound e he
  unfold tv at q1 q2
  split at q1
  · omega
  · split at q1 <;> simp_all <;> omega

structure TR (F : List Nat) (w wr : World) (a0 : Nat) (T : Tr) (vars : Nat) (S : List St) (d : Nat) (L : TrL) (A : Option Addr) (c : Nat) (R : List St) : Prop where
  a : L.a = a0
  at_ : TrAt wr L T
  rep : TRep T vars S d
  new : ∀ k, k ∈ L.fp → k ∈ F ∨ w.heap.size ≤ k
  fr : Fr F w wr
  row : Sts wr A c R
  rnew : ∀ k, k ∈ blks A → k ∈ F ∨ w.heap.size ≤ k
  apart : ∀ k, k ∈ blks A → k ∉ L.fp

namespace TR
variable {F : List Nat} {w wr w' : World} {a0 : Nat} {T T' : Tr} {vars vars' : Nat} {S S' : List St} {d d' : Nat} {A A' : Option Addr} {c c' : Nat} {R R' : List St} {L L' : TrL}

theorem step (h : TR F w wr a0 T vars S d L A c R) (h1 : TrAt w' L' T') (h2 : TRep T' vars' S' d') (h3 : L.ext L' wr) (h4 : Fr L.fp wr w') : TR F w w' a0 T' vars' S' d' L' A c R := by
  refine ⟨h3.1.trans h.a, h1, h2, fun k hk => ?_, h.fr.trans h4 h.new, h.row.fr h4 h.apart, h.rnew, fun k hk hk' => ?_⟩
  · exact (h3.2 k hk).elim (h.new k) fun e => .inr (Nat.le_trans h.fr.size e)
  · rcases h3.2 k hk' with e | e
    · exact h.apart k hk e
    · have := h.row.lt k hk
      omega
theorem keep (h : TR F w wr a0 T vars S d L A c R) (h4 : Fr [] wr w') : TR F w w' a0 T vars S d L A c R :=
  ⟨h.a, h.at_.fr h4 (fun _ _ => by simp), h.rep, h.new, h.fr.trans h4 (fun k hk => by cases hk), h.row.fr h4 (fun _ _ => by simp), h.rnew, h.apart⟩
theorem drewN (h : TR F w wr a0 T vars S d L A c R) (n : Nat) : TR F w (wr.drewN n) a0 T vars S d L A c R := h.keep ((Fr.refl [] wr).drewN n)
theorem alloc (h : TR F w wr a0 T vars S d L A c R) (o : Obj) : TR F w (wr.alloc o) a0 T vars S d L A c R := h.keep ((Fr.refl [] wr).alloc o)
theorem rowNew (h : TR F w wr a0 T vars S d L A c R) (h1 : Sts w' A' c' R') (h4 : Fr (blks A) wr w') (h5 : ∀ k, k ∈ blks A' → k ∈ blks A ∨ wr.heap.size ≤ k) : TR F w w' a0 T vars S d L A' c' R' := by
  refine ⟨h.a, h.at_.fr h4 (fun k hk hk' => h.apart k hk' hk), h.rep, h.new, h.fr.trans h4 h.rnew, h1, fun k hk => ?_, fun k hk hk' => ?_⟩
  · exact (h5 k hk).elim (h.rnew k) fun e => .inr (Nat.le_trans h.fr.size e)
  · rcases h5 k hk with e | e
    · exact h.apart k e hk'
    · have := h.at_.lt k hk'
      omega
theorem anchor (h : TR F w wr a0 T vars S d L A c R) : TR (L.fp ++ blks A) wr wr a0 T vars S d L A c R :=
  ⟨h.a, h.at_, h.rep, fun k hk => .inl (List.mem_append_left _ hk), Fr.refl _ _, h.row, fun k hk => .inl (List.mem_append_right _ hk), h.apart⟩
theorem lt (h : TR F w wr a0 T vars S d L A c R) : ∀ k, k ∈ L.fp ++ blks A → k < wr.heap.size := by
  intro k hk
  rcases List.mem_append.1 hk with hk | hk
  · exact h.at_.lt k hk
  · exact h.row.lt k hk
theorem back_ (h : TR F w wr a0 T vars S d L A c R) (k : TR (L.fp ++ blks A) wr w' a0 T' vars' S' d' L' A' c' R') : TR F w w' a0 T' vars' S' d' L' A' c' R' := by
  have key : ∀ x, x ∈ L.fp ++ blks A → x ∈ F ∨ w.heap.size ≤ x := fun x hx => (List.mem_append.1 hx).elim (h.new x) (h.rnew x)
  exact ⟨k.a, k.at_, k.rep, fun x hx => (k.new x hx).elim (key x) fun e => .inr (Nat.le_trans h.fr.size e), h.fr.trans k.fr key, k.row, fun x hx => (k.rnew x hx).elim (key x) fun e => .inr (Nat.le_trans h.fr.size e), k.apart⟩

theorem put (h : TR F w wr a0 T vars S d L A c R) (x r : Int) (hlo : -9223372036854775808 ≤ x) (hhi : x ≤ 9223372036854775807) (hv : vars ≤ 262144) (b : Bool) (hb : (decide (1 ≤ tv x) && decide (tv x ≤ vars) && (look S (tv x)).isNone) = b) :
    Calls Try.prog 13 #[.pointer (some ⟨a0, 0, none⟩), .int .i64 x, .int .i64 r] wr fun e w' => e = .returned (.bool b) ∧ ∃ T' L', TR F w w' a0 T' vars (if b = true then S ++ [⟨x, d, r⟩] else S) d L' A c R := by
  rw [← h.a]
  have hb' : T.putB x = b := (h.rep.putB x).trans hb
  refine (trail_put wr L T h.at_ x r hlo hhi (by rw [h.rep.lits, List.length_map]; have := h.rep.len_le; omega)).mono ?_
  rintro e w' ⟨he, L', h1, h2, h3⟩
  rw [hb'] at he h1
  refine ⟨he, _, L', h.a ▸ h.step h1 ?_ h2 h3⟩
  by_cases hbt : b = true
  · rw [if_pos hbt, if_pos hbt]
    exact h.rep.put x r (hb'.trans hbt)
  · rw [if_neg hbt, if_neg hbt]
    exact h.rep
theorem deeper (h : TR F w wr a0 T vars S d L A c R) (hd : d < 17592186044416) :
    Calls Try.prog 15 #[.pointer (some ⟨a0, 0, none⟩)] wr fun e w' => e = .returned (.int .i64 (d + 1 : Nat)) ∧ ∃ T' L', TR F w w' a0 T' vars S (d + 1) L' A c R := by
  rw [← h.a]
  refine (trail_deeper wr L T h.at_ (by rw [h.rep.size]; omega) (by rw [h.rep.dep]; exact hd)).mono ?_
  rintro e w' ⟨he, L', h1, h2, h3⟩
  rw [h.rep.dep] at he
  exact ⟨he, _, L', h.a ▸ h.step h1 h.rep.deep h2 h3⟩
theorem back (h : TR F w wr a0 T vars S d L A c R) (level : Int) (m : Nat) (hm : level.toNat = m) :
    Calls Try.prog 16 #[.pointer (some ⟨a0, 0, none⟩), .int .i64 level] wr fun e w' => e = .returned (.tuple #[]) ∧
      ∃ T' L', TR F w w' a0 T' vars (if m < d then S.filter (fun e : St => decide (e.l ≤ (m : Int))) else S) (if m < d then m else d) L' A c R := by
  subst hm
  rw [← h.a]
  refine (trail_back wr L T h.at_ h.rep.inv level).mono ?_
  rintro e w' ⟨he, h1, h3⟩
  refine ⟨he, _, L, h.a ▸ h.step h1 ?_ (L.ext_refl _) h3⟩
  by_cases hb : level.toNat < d
  · rw [if_pos hb, if_pos hb]
    exact h.rep.back _ hb
  · rw [if_neg hb, if_neg hb, h.rep.stay _ (by omega)]
    exact h.rep
theorem grow (h : TR F w wr a0 T vars S d L A c R) (k : Nat) (hk : vars + k ≤ 262144) :
    Calls Try.prog 39 #[.pointer (some ⟨a0, 0, none⟩), .int .i64 k] wr fun e w' => e = .returned (.tuple #[]) ∧ ∃ T' L', TR F w w' a0 T' (vars + k) S d L' A c R := by
  rw [← h.a]
  refine (trail_grow wr L T h.at_ (by rw [h.rep.size]; omega) (by rw [h.rep.size]; omega) k).mono ?_
  rintro e w' ⟨he, L', h1, h2, h3⟩
  exact ⟨he, _, L', h.a ▸ h.step h1 (h.rep.grow k hk) h2 h3⟩
theorem value (h : TR F w wr a0 T vars S d L A c R) (x v : Int) (hv : (match look S (tv x) with | none => 0 | some e => if e.x = x then 1 else -1) = v) (hlo : -9223372036854775808 ≤ x) (hhi : x ≤ 9223372036854775807) :
    Calls Try.prog 18 #[.pointer (some ⟨a0, 0, none⟩), .int .i64 x] wr fun e w' => e = .returned (.int .i64 v) ∧ wr = w' := by
  have e : T.valF x = v := (h.rep.valF x).trans hv
  rw [← h.a, ← e]
  exact trail_value wr L T h.at_ x hlo hhi h.rep.small
theorem level (h : TR F w wr a0 T vars S d L A c R) (x v : Int) (hv : (match look S x with | none => -1 | some e => e.l) = v) :
    Calls Try.prog 41 #[.pointer (some ⟨a0, 0, none⟩), .int .i64 x] wr fun e w' => e = .returned (.int .i64 v) ∧ wr = w' := by
  have e : T.levB x = v := (h.rep.levB x).trans hv
  rw [← h.a, ← e]
  exact trail_level wr L T h.at_ x
theorem reason (h : TR F w wr a0 T vars S d L A c R) (x v : Int) (hv : (match look S x with | none => 0 | some e => e.r) = v) :
    Calls Try.prog 42 #[.pointer (some ⟨a0, 0, none⟩), .int .i64 x] wr fun e w' => e = .returned (.int .i64 v) ∧ wr = w' := by
  have e : T.reaB x = v := (h.rep.reaB x).trans hv
  rw [← h.a, ← e]
  exact trail_reason wr L T h.at_ x
theorem depth (h : TR F w wr a0 T vars S d L A c R) :
    Calls Try.prog 20 #[.pointer (some ⟨a0, 0, none⟩)] wr fun e w' => e = .returned (.int .i64 d) ∧ wr = w' := by
  have := trail_depth wr L T h.at_
  rwa [h.a, h.rep.dep] at this
theorem len (h : TR F w wr a0 T vars S d L A c R) (n : Nat) (hn : S.length = n) :
    Calls Try.prog 43 #[.pointer (some ⟨a0, 0, none⟩)] wr fun e w' => e = .returned (.int .i64 n) ∧ wr = w' := by
  have := trail_len wr L T h.at_
  rwa [h.a, h.rep.lits, List.length_map, hn] at this
theorem at_is (h : TR F w wr a0 T vars S d L A c R) (i v : Int) (hv : (if 0 ≤ i ∧ i < S.length then (S[i.toNat]!).x else 0) = v) :
    Calls Try.prog 40 #[.pointer (some ⟨a0, 0, none⟩), .int .i64 i] wr fun e w' => e = .returned (.int .i64 v) ∧ wr = w' := by
  have h1 := trail_at wr L T h.at_ i
  have e : T.atB i = v := by
    rw [← hv]
    unfold Tr.atB
    rw [h.rep.lits, List.length_map]
    split
    · rename_i hi
      have : i.toNat < S.length := by omega
      simp [this]
    · rfl
  rwa [h.a, e] at h1
theorem lits (h : TR F w wr a0 T vars S d L A c R) (hv : vars ≤ 262144) (n : Nat) (hn : S.length = n) :
    Calls Try.prog 14 #[.pointer (some ⟨a0, 0, none⟩)] wr fun e w' => ∃ A' c', e = .returned (.slice A' n c') ∧ Ints w' A' c' (S.map (·.x)) ∧ Fr [] wr w' := by
  have h1 := trail_lits wr L T h.at_ (by rw [h.rep.lits, List.length_map]; have := h.rep.len_le; omega)
  rw [h.a, h.rep.lits] at h1
  refine h1.mono ?_
  rintro e w' ⟨A', c', he, h2, h3, h4⟩
  rw [List.length_map, hn] at he
  exact ⟨A', c', he, h2, h4⟩
end TR

theorem tr_new (w w0 : World) (hw : Fr [] w w0) (n : Int) (m : Nat) (hm : (m : Int) = max n 0) (hm2 : m ≤ 262144) :
    Calls Try.prog 12 #[.int .i64 n] w0 fun e w' => ∃ a0 T L, e = .returned (.pointer (some ⟨a0, 0, none⟩)) ∧ TR [] w w' a0 T m [] 0 L none 0 [] := by
  refine (tb_new w w0 hw n m hm hm2).mono ?_
  rintro e w' ⟨a0, T, L, he, h, _⟩
  exact ⟨a0, T, L, he, h.a, h.at_, h.rep, fun k hk => .inr (h.new k hk), h.fr, Sts.nil _, by simp [blks], by simp [blks]⟩

/-- An operation of the law's. -/
structure TOp where
  kind : Int
  x : Int
  by_ : Int
def RdTops (w : World) (A : Option Addr) (l : List TOp) : Prop := 0 < l.length → ∃ b o, A = some ⟨b, o, none⟩ ∧ b < w.heap.size ∧ ∀ j : Nat, (hj : j < l.length) →
  w.cell? ⟨b, o + j * 3, none⟩ = some (.int .i64 l[j].kind) ∧ w.cell? ⟨b, o + j * 3 + 1, none⟩ = some (.int .i64 l[j].x) ∧ w.cell? ⟨b, o + j * 3 + 2, none⟩ = some (.int .i64 l[j].by_)

/-- One set more, in the law's own list. -/
theorem wpList_append_set (w : World) {ops : Array Oper} {rest : List Oper} {o : Oper} {a : Act} {Q : Exit → Act → World → Prop} (hgd : o.guard = none) (s x : Operand)
    (ho : o.op = .call { callee := .builtin .append, args := #[s, x], argTypes := #[58, 58] }) (A : Option Addr) (c n : Nat) (R : List St) (hs : a.eval s = .slice A n c) (hn : n = R.length) (hown : Sts w A c R)
    (g0 : Nat) (c' : Nat) (hx : a.eval x = .slice (some ⟨g0, 0, none⟩) 1 c') (e : St) (hy : At w g0 61 #[.int .i64 e.x, .int .i64 e.l, .int .i64 e.r]) (hlen : R.length ≤ 1048576)
    (h : ∀ g cap w', Sts w' (some ⟨g, 0, none⟩) cap (R ++ [e]) → Fr (blks A) w w' → (∀ k, k ∈ blks (some (⟨g, 0, none⟩ : Addr)) → k ∈ blks A ∨ w.heap.size ≤ k) →
      wpList Try.prog ops Q rest (a.put o.dst (.slice (some ⟨g, 0, none⟩) (n + 1) cap)) w') :
    wpList Try.prog ops Q (o :: rest) a w := by
  subst hn
  refine wpList_append_one w hgd s x 58 ho 61 (.agg #[.int .i64 0, .int .i64 0, .int .i64 0]) 3 24 Try.underlying58 infoSet rfl (by decide) A c R.length hs (flat (R.map stc)) hown ⟨g0, 0, none⟩ c' hx (flat [stc e]) rfl ?_ (by simp [flat, Value.oneCell']) (by unfold maxLen; omega) (by omega) fun g cap w' h2 h3 h4 h5 => h g cap w' ?_ h3 ?_
  · intro j u hu
    match j, hu with
    | 0, hu => (simp [flat, stc] at hu; subst hu; simpa [Addr.add] using hy.cell 0)
    | 1, hu => (simp [flat, stc] at hu; subst hu; simpa [Addr.add] using hy.cell 1)
    | 2, hu => (simp [flat, stc] at hu; subst hu; simpa [Addr.add] using hy.cell 2)
    | (_ + 3), hu => (simp [flat] at hu)
  · unfold Sts
    rw [← stc_map, flat_app, List.length_append]
    exact h2
  · intro k hk
    simp only [blks, Option.map_some, Option.toList_some, List.mem_singleton] at hk
    subst hk
    exact h4.imp id fun e => by rw [e]; exact Nat.le_refl _

end Go.Proofs.Ytnbpnpodpnlamaa
