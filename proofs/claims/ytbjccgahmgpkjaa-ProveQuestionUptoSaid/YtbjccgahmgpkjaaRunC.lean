/- Values of a circuit: plain, and the numbers of a circuit that may be. -/
import Derived.Test.YtbjccgahmgpkjaaRunB
import Derived.Test.YtbjccgahmgpkjaaTgtB
namespace Go.Proofs.Ytbjccgahmgpkjaa
open Go.RowKit
set_option linter.unusedVariables false

def insL (ins : List Int) (inp : List UInt8) (v : List UInt8) : Nat → List UInt8
  | 0 => v
  | k + 1 => (insL ins inp v k).set (ins[k]! / 2).toNat inp[k]!
def latL (lat : List T3) (st : List UInt8) (v : List UInt8) : Nat → List UInt8
  | 0 => v
  | k + 1 => (latL lat st v k).set ((lat[k]!).a / 2).toNat st[k]!
def gtL1 (v : List UInt8) (x : T3) : List UInt8 := if trL v x.b && trL v x.c then v.set (x.a / 2).toNat 49 else v
def gtL (ands : List T3) (v : List UInt8) : Nat → List UInt8
  | 0 => v
  | k + 1 => gtL1 (gtL ands v k) ands[k]!
def zrL (C : Pc) : List UInt8 := List.replicate (C.mx + 1).toNat 48
def preL (C : Pc) (st inp : ByteArray) : List UInt8 := latL C.lat st.data.toList (insL C.ins inp.data.toList (zrL C) C.ins.length) C.lat.length
def valL (C : Pc) (st inp : ByteArray) : List UInt8 := gtL C.ands (preL C st inp) C.ands.length

theorem insL_len (ins : List Int) (inp v : List UInt8) : ∀ k, (insL ins inp v k).length = v.length
  | 0 => rfl
  | k + 1 => by rw [insL, List.length_set, insL_len ins inp v k]
theorem latL_len (lat : List T3) (st v : List UInt8) : ∀ k, (latL lat st v k).length = v.length
  | 0 => rfl
  | k + 1 => by rw [latL, List.length_set, latL_len lat st v k]
theorem gtL1_len (v : List UInt8) (x : T3) : (gtL1 v x).length = v.length := by
  unfold gtL1
  split
  · rw [List.length_set]
  · rfl
theorem gtL_len (ands : List T3) (v : List UInt8) : ∀ k, (gtL ands v k).length = v.length
  | 0 => rfl
  | k + 1 => by rw [gtL, gtL1_len, gtL_len ands v k]
theorem zrL_len (C : Pc) (h : 0 ≤ C.mx) : ((zrL C).length : Int) = C.mx + 1 := by simp [zrL]; omega
theorem preL_len (C : Pc) (st inp : ByteArray) : (preL C st inp).length = (zrL C).length := by rw [preL, latL_len, insL_len]
theorem valL_len (C : Pc) (st inp : ByteArray) : (valL C st inp).length = (zrL C).length := by rw [valL, gtL_len, preL_len]

/-- The numbers of a circuit that may be. -/
theorem all_own {C : Pc} (h : Valid C) : ∀ x ∈ ownL C, 2 ≤ x ∧ x ≤ 2 * C.mx ∧ x % 2 = 0 := by
  refine (mem_idx (p := fun x : Int => 2 ≤ x ∧ x ≤ 2 * C.mx ∧ x % 2 = 0)).1 fun j hj => ?_
  have := h.own j hj
  simp only [ownB, Bool.and_eq_true, decide_eq_true_eq] at this
  exact ⟨this.1.1.1, this.1.2, this.1.1.2⟩
theorem ins_own {C : Pc} (h : Valid C) (j : Nat) (hj : j < C.ins.length) : 2 ≤ C.ins[j]! ∧ C.ins[j]! ≤ 2 * C.mx ∧ C.ins[j]! % 2 = 0 := by
  refine all_own h _ ?_
  rw [List.getElem!_eq_getElem?_getD, List.getElem?_eq_getElem hj]
  simp [ownL]
theorem lat_own {C : Pc} (h : Valid C) (j : Nat) (hj : j < C.lat.length) : 2 ≤ (C.lat[j]!).a ∧ (C.lat[j]!).a ≤ 2 * C.mx ∧ (C.lat[j]!).a % 2 = 0 := by
  refine all_own h _ ?_
  rw [List.getElem!_eq_getElem?_getD, List.getElem?_eq_getElem hj]
  simp only [ownL, List.mem_append, List.mem_map, Option.getD_some]
  exact .inl (.inr ⟨_, List.getElem_mem hj, rfl⟩)
theorem known_le {C : Pc} (h : Valid C) {v : Int} (hk : knownB C v = true) : v ≤ C.mx := by
  simp only [knownB, Bool.or_eq_true, decide_eq_true_eq, List.any_eq_true, hit, Bool.and_eq_true] at hk
  have h0 := h.m0
  rcases hk with ((rfl | ⟨x, hx, _, rfl⟩) | ⟨x, hx, _, rfl⟩) | ⟨x, hx, _, rfl⟩
  · exact h0
  · have := all_own h x (by simp [ownL, hx]); omega
  · have := all_own h x.a (by simp only [ownL, List.mem_append, List.mem_map]; exact .inl (.inr ⟨x, hx, rfl⟩)); omega
  · have := all_own h x.a (by simp only [ownL, List.mem_append, List.mem_map]; exact .inr ⟨x, hx, rfl⟩); omega
theorem lit_le {C : Pc} (h : Valid C) {l : Int} (hk : litB C l = true) : 0 ≤ l ∧ l ≤ 2 * C.mx + 1 := by
  simp only [litB, Bool.and_eq_true, decide_eq_true_eq] at hk
  have := known_le h hk.2
  omega
theorem and_lits {C : Pc} (h : Valid C) (j : Nat) (hj : j < C.ands.length) : litB C (C.ands[j]!).b = true ∧ litB C (C.ands[j]!).c = true ∧ (C.ands[j]!).b < (C.ands[j]!).a ∧ (C.ands[j]!).c < (C.ands[j]!).a := by
  have h2 := h.ands j hj
  simp only [andB, Bool.and_eq_true, decide_eq_true_eq] at h2
  exact ⟨h2.1.2, h2.2, h2.1.1.1.2, h2.1.1.2⟩
theorem lat_lit {C : Pc} (h : Valid C) (j : Nat) (hj : j < C.lat.length) : litB C (C.lat[j]!).b = true := by
  have h2 := h.lat j hj
  simp only [latB, Bool.and_eq_true] at h2
  exact h2.2

/-- What Values answers. -/
def VaP (C : Pc) (st inp : ByteArray) (w : World) (e : Ending) (w' : World) : Prop :=
  ((e = .returned (.tuple #[.string ⟨#[]⟩, .int .i64 9]) ∧ ¬ Valid C) ∨
   (e = .returned (.tuple #[.string ⟨#[]⟩, .int .i64 5]) ∧ Valid C ∧ (bitsB st C.lat.length && bitsB inp C.ins.length) = false) ∨
   (e = .returned (.tuple #[.string (tx (valL C st inp)), .int .i64 0]) ∧ Valid C ∧ (bitsB st C.lat.length && bitsB inp C.ins.length) = true)) ∧ Fr [] w w'

theorem tx_snoc (l : List UInt8) (c : UInt8) : tx l ++ ⟨#[c]⟩ = tx (l ++ [c]) := by
  refine ByteArray.ext (Array.toList_inj.1 ?_)
  simp [tx, ByteArray.data_append]
theorem bitsB_size {s : ByteArray} {n : Nat} (h : bitsB s n = true) : s.size = n := by
  simp only [bitsB, Bool.and_eq_true, decide_eq_true_eq] at h
  exact h.2

end Go.Proofs.Ytbjccgahmgpkjaa
