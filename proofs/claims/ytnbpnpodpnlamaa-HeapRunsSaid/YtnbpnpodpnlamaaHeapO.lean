/- The law HeapRuns walked. -/
import Derived.Test.YtnbpnpodpnlamaaHeapN
import Derived.Test.YtnbpnpodpnlamaaHeapM
import Derived.Test.YtnbpnpodpnlamaaMake
import Derived.Deep.DeepCutAuto
import Derived.Deep.Light
import Derived.Deep.CutBlock
namespace Go.Proofs.Ytnbpnpodpnlamaa
open Go.RowKit

/-- An operation of the law. -/
structure HOp where
  kind : Int
  x : Int
  by_ : Int

/-- The slice of operations reads as l. -/
def RdOps (w : World) (A : Option Addr) (l : List HOp) : Prop := 0 < l.length → ∃ b o, A = some ⟨b, o, none⟩ ∧ b < w.heap.size ∧ ∀ j : Nat, (hj : j < l.length) →
  w.cell? ⟨b, o + j * 3, none⟩ = some (.int .i64 l[j].kind) ∧ w.cell? ⟨b, o + j * 3 + 1, none⟩ = some (.int .i64 l[j].x) ∧ w.cell? ⟨b, o + j * 3 + 2, none⟩ = some (.int .i64 l[j].by_)

def small9 (n : Int) : Int := (n.tmod 9 + 9) % 9 - 1

/-- What holds between two rounds: the heap, its scores told by a list, who is in it told by another. -/
structure HRel (w1 wr : World) (L : HpL) (H : Hp) (S : Option Addr) (cs : Nat) (T : Option Addr) (ct : Nat) (ins : List Int) : Prop where
  at_ : HpAt wr L H
  inv : HI H
  made : L.A2.isSome = true
  sc : Ints wr S cs H.score
  ins_ : Ints wr T ct ins
  new : ∀ k, k ∈ L.fp ++ (blks S ++ blks T) → w1.heap.size ≤ k
  nodup : (L.fp ++ (blks S ++ blks T)).Nodup
  fr : Fr [] w1 wr
  nd : ins.Nodup
  mem : ∀ y : Int, y ∈ ins ↔ y ∈ H.items
  len : ins.length = H.items.length

namespace HRel
variable {w1 wr : World} {L : HpL} {H : Hp} {S T : Option Addr} {cs ct : Nat} {ins : List Int}
theorem lt (h : HRel w1 wr L H S cs T ct ins) : ∀ k, k ∈ L.fp ++ (blks S ++ blks T) → k < wr.heap.size := by
  intro k hk
  simp only [List.mem_append] at hk
  rcases hk with hk | hk | hk
  · exact h.at_.lt k hk
  · exact h.sc.lt k hk
  · exact h.ins_.lt k hk
theorem alloc (h : HRel w1 wr L H S cs T ct ins) (o : Obj) : HRel w1 (wr.alloc o) L H S cs T ct ins :=
  ⟨h.at_.alloc o, h.inv, h.made, h.sc.alloc o, h.ins_.alloc o, h.new, h.nodup, h.fr.alloc o, h.nd, h.mem, h.len⟩
theorem drewN (h : HRel w1 wr L H S cs T ct ins) (n : Nat) : HRel w1 (wr.drewN n) L H S cs T ct ins :=
  ⟨h.at_.drewN n, h.inv, h.made, h.sc.drewN n, h.ins_.drewN n, h.new, h.nodup, h.fr.drewN n, h.nd, h.mem, h.len⟩
theorem apart (h : HRel w1 wr L H S cs T ct ins) : (∀ k, k ∈ L.fp → k ∉ blks S ∧ k ∉ blks T) ∧ (∀ k, k ∈ blks S → k ∉ blks T) := by
  have hn := h.nodup
  simp only [List.nodup_append, List.mem_append] at hn
  obtain ⟨_, ⟨_, _, h3⟩, h4⟩ := hn
  exact ⟨fun k hk => ⟨fun hs => h4 k hk k (.inl hs) rfl, fun ht => h4 k hk k (.inr ht) rfl⟩, fun k hk ht => h3 k hk k ht rfl⟩
end HRel

/-- Where all lies within a round: the heap, the scores' row, the row of who is in it, the block of the operation at hand. -/
structure Geo (w1 wr : World) (L : HpL) (H : Hp) (S : Option Addr) (cs : Nat) (sc : List Int) (T : Option Addr) (ct : Nat) (ins : List Int) (ob : Nat) (cells : Array Value) : Prop where
  at_ : HpAt wr L H
  made : L.A2.isSome = true
  sc : Ints wr S cs sc
  ins_ : Ints wr T ct ins
  op : At wr ob 46 cells
  new : ∀ k, k ∈ ob :: (L.fp ++ (blks S ++ blks T)) → w1.heap.size ≤ k
  nodup : (ob :: (L.fp ++ (blks S ++ blks T))).Nodup
  fr : Fr [] w1 wr

namespace Geo
variable {w1 wr w2 : World} {L L' : HpL} {H H' : Hp} {S T S' T' : Option Addr} {cs ct cs' ct' ob : Nat} {sc ins sc' ins' : List Int} {cells : Array Value}
theorem apart (h : Geo w1 wr L H S cs sc T ct ins ob cells) : (∀ k, k ∈ L.fp → k ∉ blks S ∧ k ∉ blks T ∧ k ≠ ob) ∧ (∀ k, k ∈ blks S → k ∉ blks T ∧ k ≠ ob) ∧ (∀ k, k ∈ blks T → k ≠ ob) := by
  have hn := h.nodup
  simp only [List.nodup_cons, List.nodup_append, List.mem_append] at hn
  obtain ⟨h0, _, ⟨_, _, h3⟩, h4⟩ := hn
  refine ⟨fun k hk => ⟨fun hs => h4 k hk k (.inl hs) rfl, fun ht => h4 k hk k (.inr ht) rfl, ?_⟩, fun k hk => ⟨fun ht => h3 k hk k ht rfl, ?_⟩, fun k hk => ?_⟩
  · rintro rfl; exact h0 (.inl hk)
  · rintro rfl; exact h0 (.inr (.inl hk))
  · rintro rfl; exact h0 (.inr (.inr hk))
theorem lt (h : Geo w1 wr L H S cs sc T ct ins ob cells) : ∀ k, k ∈ ob :: (L.fp ++ (blks S ++ blks T)) → k < wr.heap.size := by
  intro k hk
  simp only [List.mem_cons, List.mem_append] at hk
  rcases hk with rfl | hk | hk | hk
  · exact h.op.lt
  · exact h.at_.lt k hk
  · exact h.sc.lt k hk
  · exact h.ins_.lt k hk
theorem mk' (h : Geo w1 wr L H S cs sc T ct ins ob cells) (h1 : HpAt w2 L' H') (h2 : L'.A2.isSome = true) (h3 : Ints w2 S' cs' sc') (h4 : Ints w2 T' ct' ins') (h5 : At w2 ob 46 cells) (hf : Fr [] w1 w2)
    (kL : ∀ k, k ∈ L'.fp → k ∈ L.fp ∨ wr.heap.size ≤ k) (kS : ∀ k, k ∈ blks S' → k ∈ blks S ∨ wr.heap.size ≤ k) (kT : ∀ k, k ∈ blks T' → k ∈ blks T ∨ wr.heap.size ≤ k)
    (d1 : ∀ k, k ∈ L'.fp → k ∉ blks S' ∧ k ∉ blks T') (d2 : ∀ k, k ∈ blks S' → k ∉ blks T') : Geo w1 w2 L' H' S' cs' sc' T' ct' ins' ob cells := by
  have hl := h.lt
  have hb := h.op.lt
  obtain ⟨a1, a2, a3⟩ := h.apart
  have nb : ∀ A : Option Addr, (blks A).Nodup := fun A => by rcases A with _ | a <;> simp [blks]
  refine ⟨h1, h2, h3, h4, h5, fun k hk => ?_, ?_, hf⟩
  · have hs := h.fr.size
    have hn := h.new
    simp only [List.mem_cons, List.mem_append] at hk hn
    rcases hk with rfl | hk | hk | hk
    · exact hn _ (.inl rfl)
    · exact (kL k hk).elim (fun e => hn k (.inr (.inl e))) (fun e => by omega)
    · exact (kS k hk).elim (fun e => hn k (.inr (.inr (.inl e)))) (fun e => by omega)
    · exact (kT k hk).elim (fun e => hn k (.inr (.inr (.inr e)))) (fun e => by omega)
  · simp only [List.nodup_cons, List.nodup_append, List.mem_append]
    refine ⟨?_, h1.nodup, ⟨nb _, nb _, ?_⟩, ?_⟩
    · rintro (hk | hk | hk)
      · exact (kL _ hk).elim (fun e => (a1 _ e).2.2 rfl) (fun e => by omega)
      · exact (kS _ hk).elim (fun e => (a2 _ e).2 rfl) (fun e => by omega)
      · exact (kT _ hk).elim (fun e => a3 _ e rfl) (fun e => by omega)
    · rintro k hk _ hk' rfl
      exact d2 k hk hk'
    · rintro k hk _ (hk' | hk') rfl
      · exact (d1 k hk).1 hk'
      · exact (d1 k hk).2 hk'
/-- The heap has done something. -/
theorem heap (h : Geo w1 wr L H S cs sc T ct ins ob cells) (h1 : HpAt w2 L' H') (hE : L.ext L' wr) (hf : Fr L.fp wr w2) : Geo w1 w2 L' H' S cs sc T ct ins ob cells := by
  obtain ⟨a1, a2, a3⟩ := h.apart
  have hl := h.lt
  have hn := h.new
  simp only [List.mem_cons, List.mem_append] at hl hn
  refine h.mk' h1 (hE.2.2 h.made) (h.sc.fr hf fun k hk hk' => (a1 k hk').1 hk) (h.ins_.fr hf fun k hk hk' => (a1 k hk').2.1 hk) (hf.at_ h.op fun hk => (a1 _ hk).2.2 rfl)
    (h.fr.trans hf fun k hk => .inr (hn k (.inr (.inl hk)))) hE.2.1 (fun k hk => .inl hk) (fun k hk => .inl hk) (fun k hk => ⟨fun hs => ?_, fun ht => ?_⟩) (fun k hk => (a2 k hk).1)
  · rcases hE.2.1 k hk with e | e
    · exact (a1 k e).1 hs
    · have := hl k (.inr (.inr (.inl hs))); omega
  · rcases hE.2.1 k hk with e | e
    · exact (a1 k e).2.1 ht
    · have := hl k (.inr (.inr (.inr ht))); omega
/-- The row of who is in it is another one. -/
theorem insNew (h : Geo w1 wr L H S cs sc T ct ins ob cells) (h4 : Ints w2 T' ct' ins') (hf : Fr (blks T) wr w2) (kT : ∀ k, k ∈ blks T' → k ∈ blks T ∨ wr.heap.size ≤ k) : Geo w1 w2 L H S cs sc T' ct' ins' ob cells := by
  obtain ⟨a1, a2, a3⟩ := h.apart
  have hl := h.lt
  have hn := h.new
  simp only [List.mem_cons, List.mem_append] at hl hn
  refine h.mk' (h.at_.fr hf fun k hk hk' => (a1 k hk).2.1 hk') h.made (h.sc.fr hf fun k hk hk' => (a2 k hk).1 hk') h4 (hf.at_ h.op fun hk => a3 _ hk rfl)
    (h.fr.trans hf fun k hk => .inr (hn k (.inr (.inr (.inr hk))))) (fun k hk => .inl hk) (fun k hk => .inl hk) kT (fun k hk => ⟨(a1 k hk).1, fun ht => ?_⟩) (fun k hk ht => ?_)
  · rcases kT k ht with e | e
    · exact (a1 k hk).2.1 e
    · have := hl k (.inr (.inl hk)); omega
  · rcases kT k ht with e | e
    · exact (a2 k hk).1 e
    · have := hl k (.inr (.inr (.inl hk))); omega
/-- The scores' row is another one. -/
theorem scNew (h : Geo w1 wr L H S cs sc T ct ins ob cells) (h4 : Ints w2 S' cs' sc') (hf : Fr (blks S) wr w2) (kS : ∀ k, k ∈ blks S' → k ∈ blks S ∨ wr.heap.size ≤ k) : Geo w1 w2 L H S' cs' sc' T ct ins ob cells := by
  obtain ⟨a1, a2, a3⟩ := h.apart
  have hl := h.lt
  have hn := h.new
  simp only [List.mem_cons, List.mem_append] at hl hn
  refine h.mk' (h.at_.fr hf fun k hk hk' => (a1 k hk).1 hk') h.made h4 (h.ins_.fr hf fun k hk hk' => (a2 k hk').1 hk) (hf.at_ h.op fun hk => (a2 _ hk).2 rfl)
    (h.fr.trans hf fun k hk => .inr (hn k (.inr (.inr (.inl hk))))) (fun k hk => .inl hk) kS (fun k hk => .inl hk) (fun k hk => ⟨fun ht => ?_, (a1 k hk).2.1⟩) (fun k hk ht => ?_)
  · rcases kS k ht with e | e
    · exact (a1 k hk).1 e
    · have := hl k (.inr (.inl hk)); omega
  · rcases kS k hk with e | e
    · exact (a2 k e).1 ht
    · have := hl k (.inr (.inr (.inr ht))); omega
theorem alloc (h : Geo w1 wr L H S cs sc T ct ins ob cells) (o : Obj) : Geo w1 (wr.alloc o) L H S cs sc T ct ins ob cells :=
  ⟨h.at_.alloc o, h.made, h.sc.alloc o, h.ins_.alloc o, h.op.alloc o, h.new, h.nodup, h.fr.alloc o⟩
theorem drewN (h : Geo w1 wr L H S cs sc T ct ins ob cells) (n : Nat) : Geo w1 (wr.drewN n) L H S cs sc T ct ins ob cells :=
  ⟨h.at_.drewN n, h.made, h.sc.drewN n, h.ins_.drewN n, h.op.drewN n, h.new, h.nodup, h.fr.drewN n⟩
end Geo

/-- What the lists say of the heap. -/
structure Says (H : Hp) (sc ins : List Int) : Prop where
  inv : HI H
  sc : H.score = sc
  nd : ins.Nodup
  mem : ∀ y : Int, y ∈ ins ↔ y ∈ H.items
  len : ins.length = H.items.length

theorem HRel.geo {w1 wr : World} {L : HpL} {H : Hp} {S T : Option Addr} {cs ct : Nat} {ins : List Int} (h : HRel w1 wr L H S cs T ct ins) (cells : Array Value) :
    Geo w1 (wr.alloc (.cells cells 46)) L H S cs H.score T ct ins wr.heap.size cells := by
  have hl := h.lt
  refine ⟨h.at_.alloc _, h.made, h.sc.alloc _, h.ins_.alloc _, At.new _ _ _, fun k hk => ?_, ?_, h.fr.alloc _⟩
  · rcases List.mem_cons.1 hk with rfl | hk
    · exact h.fr.size
    · exact h.new k hk
  · exact List.nodup_cons.2 ⟨fun hk => absurd (hl _ hk) (by omega), h.nodup⟩
theorem HRel.says {w1 wr : World} {L : HpL} {H : Hp} {S T : Option Addr} {cs ct : Nat} {ins : List Int} (h : HRel w1 wr L H S cs T ct ins) : Says H H.score ins := ⟨h.inv, rfl, h.nd, h.mem, h.len⟩
theorem Geo.hrel {w1 wr : World} {L : HpL} {H : Hp} {S T : Option Addr} {cs ct ob : Nat} {sc ins : List Int} {cells : Array Value} (h : Geo w1 wr L H S cs sc T ct ins ob cells) (hs : Says H sc ins) : HRel w1 wr L H S cs T ct ins :=
  ⟨h.at_, hs.inv, h.made, by rw [hs.sc]; exact h.sc, h.ins_, fun k hk => h.new k (List.mem_cons_of_mem _ hk), (List.nodup_cons.1 h.nodup).2, h.fr, hs.nd, hs.mem, hs.len⟩

theorem heap_len_is (w : World) (L : HpL) (H : Hp) (h : HpAt w L H) (n : Nat) (hn : H.items.length = n) :
    Calls Try.prog 35 #[.pointer (some ⟨L.a, 0, none⟩)] w fun e w' => e = .returned (.int .i64 n) ∧ w = w' := by subst hn; exact heap_len w L H h
theorem heap_has_is (w : World) (L : HpL) (H : Hp) (h : HpAt w L H) (x : Int) (b : Bool) (hb : H.hasB x = b) :
    Calls Try.prog 36 #[.pointer (some ⟨L.a, 0, none⟩), .int .i64 x] w fun e w' => e = .returned (.bool b) ∧ w = w' := by subst hb; exact heap_has w L H h x
theorem heap_score_is (w : World) (L : HpL) (H : Hp) (h : HpAt w L H) (x s : Int) (hb : H.scB x = s) :
    Calls Try.prog 37 #[.pointer (some ⟨L.a, 0, none⟩), .int .i64 x] w fun e w' => e = .returned (.int .i64 s) ∧ w = w' := by subst hb; exact heap_score w L H h x
theorem has_is (w : World) (A : Option Addr) (c : Nat) (xs : List Int) (n : Int) (h : Rd w A xs) (hl : xs.length ≤ 9223372036854775807) (b : Bool) (hb : decide (n ∈ xs) = b) :
    Calls Try.prog 28 #[.slice A xs.length c, .int .i64 n] w fun e w' => e = .returned (.bool b) ∧ w = w' := by subst hb; exact has_any w A c xs n h hl
theorem best_is (w : World) (A B : Option Addr) (c d : Nat) (xs sc : List Int) (h : Rd w A xs) (hs : Rd w B sc) (hr : ∀ x, x ∈ xs → 0 ≤ x ∧ x < sc.length) (hl : xs.length ≤ 1048576) (b : Int) (hb : bestF sc xs = b) :
    Calls Try.prog 30 #[.slice A xs.length c, .slice B sc.length d] w fun e w' => e = .returned (.int .i64 b) ∧ ∃ n, w.drewN n = w' := by subst hb; exact best_any w A B c d xs sc h hs hr hl

/-- The list's best one is the heap's. -/
theorem Says.best {H : Hp} {sc ins : List Int} (h : Says H sc ins) (h0 : 0 < H.items.length) : bestF sc ins = H.it 0 := by
  obtain ⟨hr, hb⟩ := h.inv.root h0
  have hm : H.it 0 ∈ ins := (h.mem _).2 hr
  have hin : ∀ y, y ∈ ins → 0 ≤ y ∧ y < H.at_.length := fun y hy => by
    obtain ⟨j, hj, e⟩ := List.mem_iff_getElem.1 ((h.mem y).1 hy)
    have := h.inv.pc.rng j hj
    rw [show H.items[j]! = y by rw [← e]; simp [hj]] at this
    exact this
  have hsc : ∀ y : Int, sc[y.toNat]! = H.sc y := fun y => by unfold Hp.sc; rw [h.sc]
  -- what is found among some that hold the root is the root; else it is one of them, or none
  have key : ∀ (l : List Int), (∀ y, y ∈ l → y ∈ ins) → (H.it 0 ∈ l → bestF sc l = H.it 0) ∧ (bestF sc l = -1 ∨ bestF sc l ∈ l) := by
    intro l hl
    refine ⟨?_, bestF_mem sc l⟩
    have go : ∀ (n : Nat) (l : List Int), l.length = n → (∀ y, y ∈ l → y ∈ ins) → H.it 0 ∈ l → bestF sc l = H.it 0 := by
      intro n
      induction n with
      | zero => intro l hn _ hm; rw [List.eq_nil_of_length_eq_zero hn] at hm; cases hm
      | succ n ih =>
        intro l hn hl hm
        obtain ⟨r, x, rfl⟩ : ∃ r x, l = r ++ [x] := ⟨l.dropLast, l.getLast (by rintro rfl; simp at hn), (List.dropLast_concat_getLast _).symm⟩
        rw [bestF_snoc]
        have hxi := hl x (by simp)
        have rx := hin x hxi
        have r0 := hin _ ((h.mem _).2 hr)
        by_cases hr0 : H.it 0 ∈ r
        · have e := ih r (by simp at hn; exact hn) (fun y hy => hl y (by simp [hy])) hr0
          rw [e]
          have hx := hb x ((h.mem x).1 hxi)
          have hno : ¬ (better sc (H.it 0) x = true ∧ x ≠ H.it 0) := by
            rintro ⟨hbt, hne⟩
            simp only [better, hsc, Bool.or_eq_true, Bool.and_eq_true, decide_eq_true_eq] at hbt
            have : H.aheadB x (H.it 0) = true := ahead_def.2 (by omega)
            rw [this] at hx; cases hx
          split
          · rename_i hbt
            by_cases e : x = H.it 0
            · exact e
            · exact absurd ⟨hbt, e⟩ hno
          · rfl
        · have hx0 : x = H.it 0 := by simp at hm; rcases hm with hm | hm; exact absurd hm hr0; exact hm.symm
          rw [hx0]
          rcases bestF_mem sc r with e | e
          · rw [e]; simp [better]
          · have hne : bestF sc r ≠ H.it 0 := fun e' => hr0 (e' ▸ e)
            have hbi := hl (bestF sc r) (by simp [e])
            have hh := hb _ ((h.mem _).1 hbi)
            have rb := hin _ hbi
            have hbt : better sc (bestF sc r) (H.it 0) = true := by
              simp only [better, hsc, Bool.or_eq_true, Bool.and_eq_true, decide_eq_true_eq]
              have hn : ¬ (H.sc (H.it 0) < H.sc (bestF sc r) ∨ (H.sc (bestF sc r) = H.sc (H.it 0) ∧ bestF sc r < H.it 0)) := fun e' => by rw [← ahead_def, hh] at e'; cases e'
              omega
            rw [if_pos hbt]
    exact go l.length l rfl hl
  exact (key ins fun _ h => h).1 hm

theorem filter_ne_len (l : List Int) (x : Int) (hn : l.Nodup) (hx : x ∈ l) : (l.filter (· != x)).length = l.length - 1 := by
  induction l with
  | nil => cases hx
  | cons y l ih =>
    rw [List.nodup_cons] at hn
    by_cases e : y = x
    · subst e
      have : l.filter (· != y) = l := List.filter_eq_self.2 fun z hz => by
        have : z ≠ y := by rintro rfl; exact hn.1 hz
        simpa using this
      simp [this]
    · have hx' : x ∈ l := by rcases List.mem_cons.1 hx with h | h; exact absurd h.symm e; exact h
      have : (y != x) = true := by simpa using e
      have hp : 0 < l.length := List.length_pos_of_mem hx'
      rw [List.filter_cons, if_pos this, List.length_cons, ih hn.2 hx', List.length_cons]
      omega

theorem tmod4 (x : Int) : -3 ≤ x.tmod 4 ∧ x.tmod 4 ≤ 3 := by
  have h1 := Int.tmod_lt_of_pos x (b := 4) (by omega)
  have h2 := Int.lt_tmod_of_pos x (b := 4) (by omega)
  omega

end Go.Proofs.Ytnbpnpodpnlamaa
