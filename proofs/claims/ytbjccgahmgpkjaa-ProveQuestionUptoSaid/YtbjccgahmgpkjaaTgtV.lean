/- Target's circuit may be, and its values: the plain law. -/
import Derived.Test.YtbjccgahmgpkjaaRunC
namespace Go.Proofs.Ytbjccgahmgpkjaa
open Go.RowKit
set_option linter.unusedVariables false

theorem notI_div (y : Int) (h : 0 ≤ y) : notI y / 2 = y / 2 ∧ 0 ≤ notI y ∧ (notI y % 2 == 1) = !(y % 2 == 1) := by
  unfold notI
  split
  · refine ⟨by omega, by omega, ?_⟩
    rename_i h1
    rw [h1]
    simp
    omega
  · refine ⟨by omega, by omega, ?_⟩
    rename_i h1
    rw [show (y % 2 == 1) = false from by simp; omega]
    simp
    omega
theorem trL_not (v : List UInt8) (y : Int) (h : 0 ≤ y) : trL v (notI y) = !trL v y := by
  obtain ⟨h1, h2, h3⟩ := notI_div y h
  rw [trL, trL, h1, h3]
  cases (v[(y / 2).toNat]? == some 49) <;> cases (y % 2 == 1) <;> rfl
theorem trL_same {v v' : List UInt8} {y : Int} (h : v[(y / 2).toNat]? = v'[(y / 2).toNat]?) : trL v y = trL v' y := by rw [trL, trL, h]

theorem gtAnds_get : ∀ (r : List Int) (m all : Int) (j : Nat), j < r.length → (gtAnds m all r)[j]! = ⟨2 * (m + j + 1), gtAll m all (r.take j), notI r[j]!⟩
  | [], _, _, j, h => by simp at h
  | y :: r, m, all, 0, h => by simp [gtAnds, gtAll]
  | y :: r, m, all, j + 1, h => by
    have := gtAnds_get r (m + 1) (2 * (m + 1)) j (by simpa using h)
    simp only [gtAnds, List.getElem!_cons_succ, this, List.take_succ_cons, gtAll]
    have e : 2 * (m + 1 + (j : Int) + 1) = 2 * (m + ((j + 1 : Nat) : Int) + 1) := by omega
    rw [e]
theorem gtAll_take (r : List Int) (m all : Int) (j : Nat) (hj : j ≤ r.length) : gtAll m all (r.take j) = if j = 0 then all else 2 * (m + j) := by
  cases j with
  | zero => simp [gtAll]
  | succ j =>
    rw [take_snoc r j (by omega), gtAll_snoc, List.length_take, if_neg (by omega)]
    have e : min j r.length = j := by omega
    rw [e]
    omega

/-- The new gates' values. -/
theorem gates_val : ∀ (r : List Int) (m all : Int) (u : List UInt8), 0 ≤ m → (u.length : Int) = m + 1 + r.length → (∀ i : Nat, m < i → (i : Int) < m + 1 + r.length → u[i]? = some 48) → 0 ≤ all → all / 2 ≤ m → (∀ y ∈ r, 0 ≤ y ∧ y / 2 ≤ m) →
    trL ((gtAnds m all r).foldl gtL1 u) (gtAll m all r) = (trL u all && r.all (fun y => !trL u y)) ∧ (∀ i : Nat, (i : Int) ≤ m → ((gtAnds m all r).foldl gtL1 u)[i]? = u[i]?)
  | [], m, all, u, _, _, _, _, _, _ => by simp [gtAnds, gtAll]
  | y :: r, m, all, u, h0, hl, hz, ha, ham, hy => by
    obtain ⟨y0, y1⟩ := hy y (by simp)
    obtain ⟨n, hn⟩ : ∃ n : Nat, m + 1 = n := ⟨(m + 1).toNat, by omega⟩
    have hd : (2 * (m + 1) / 2).toNat = n := by omega
    have hlt : n < u.length := by simp only [List.length_cons] at hl; omega
    have hun : u[n]? = some 48 := hz n (by omega) (by simp only [List.length_cons]; omega)
    obtain ⟨u1, hu1⟩ : ∃ u1, gtL1 u ⟨2 * (m + 1), all, notI y⟩ = u1 := ⟨_, rfl⟩
    have hu : u1 = if trL u all && !trL u y then u.set n 49 else u := by
      rw [← hu1, gtL1, trL_not u y y0, hd]
    have hl1 : u1.length = u.length := by
      rw [hu]
      split <;> simp
    have hat : (u1[n]? == some 49) = (trL u all && !trL u y) := by
      rw [hu]
      split
      · rename_i h
        rw [h, List.getElem?_set_self hlt]
        rfl
      · rename_i h
        rw [Bool.eq_false_iff.2 h, hun]
        rfl
    have hoth : ∀ i : Nat, i ≠ n → u1[i]? = u[i]? := by
      intro i hi
      rw [hu]
      split
      · rw [List.getElem?_set_ne (Ne.symm hi)]
      · rfl
    have hg : trL u1 (2 * (m + 1)) = (trL u all && !trL u y) := by
      rw [trL, hd, hat]
      have : (2 * (m + 1) % 2 == 1) = false := by simp
      rw [this]
      simp
    simp only [List.length_cons] at hl hz
    obtain ⟨i1, i2⟩ := gates_val r (m + 1) (2 * (m + 1)) u1 (by omega) (by rw [hl1]; omega) (fun i h1 h2 => by
      rw [hoth i (by omega)]
      exact hz i (by omega) (by omega)) (by omega) (by omega) (fun z hz' => by
      have := hy z (by simp [hz'])
      omega)
    have hr : r.all (fun y => !trL u1 y) = r.all (fun y => !trL u y) := by
      rw [Bool.eq_iff_iff, List.all_eq_true, List.all_eq_true]
      have : ∀ z ∈ r, trL u1 z = trL u z := fun z hz' => trL_same (hoth _ (by have := hy z (by simp [hz']); omega))
      constructor
      · intro h z hz'; rw [← this z hz']; exact h z hz'
      · intro h z hz'; rw [this z hz']; exact h z hz'
    simp only [gtAnds, gtAll, List.foldl_cons, hu1, List.all_cons]
    refine ⟨?_, fun i hi => ?_⟩
    · rw [i1, hg, hr]
      cases trL u all <;> cases trL u y <;> cases r.all (fun y => !trL u y) <;> rfl
    · rw [i2 i (by omega)]
      exact hoth i (by omega)

theorem gtL_fold (ands : List T3) (v : List UInt8) : ∀ k, k ≤ ands.length → gtL ands v k = (ands.take k).foldl gtL1 v
  | 0, _ => by simp [gtL]
  | k + 1, h => by
    rw [gtL, gtL_fold ands v k (by omega), take_snoc ands k (by omega), List.foldl_append]
    rfl
theorem valL_fold (C : Pc) (st inp : ByteArray) : valL C st inp = C.ands.foldl gtL1 (preL C st inp) := by
  rw [valL, gtL_fold _ _ _ (Nat.le_refl _), List.take_length]
theorem set_app {a b : List UInt8} {i : Nat} {c : UInt8} (h : i < a.length) : (a ++ b).set i c = a.set i c ++ b := by rw [List.set_append_left _ _ h]
theorem insL_app (ins : List Int) (inp a b : List UInt8) : ∀ k, (∀ j : Nat, j < k → (ins[j]! / 2).toNat < a.length) → insL ins inp (a ++ b) k = insL ins inp a k ++ b
  | 0, _ => rfl
  | k + 1, h => by
    rw [insL, insL, insL_app ins inp a b k (fun j hj => h j (by omega)), set_app (by rw [insL_len]; exact h k (by omega))]
theorem latL_app (lat : List T3) (st a b : List UInt8) : ∀ k, (∀ j : Nat, j < k → ((lat[j]!).a / 2).toNat < a.length) → latL lat st (a ++ b) k = latL lat st a k ++ b
  | 0, _ => rfl
  | k + 1, h => by
    rw [latL, latL, latL_app lat st a b k (fun j hj => h j (by omega)), set_app (by rw [latL_len]; exact h k (by omega))]
theorem trL_app {a b : List UInt8} {y : Int} (h : (y / 2).toNat < a.length) : trL (a ++ b) y = trL a y := trL_same (by rw [List.getElem?_append_left h])
theorem gtL1_app {a b : List UInt8} {x : T3} (h1 : (x.a / 2).toNat < a.length) (h2 : (x.b / 2).toNat < a.length) (h3 : (x.c / 2).toNat < a.length) : gtL1 (a ++ b) x = gtL1 a x ++ b := by
  rw [gtL1, gtL1, trL_app h2, trL_app h3]
  split
  · rw [set_app h1]
  · rfl
theorem fold_app : ∀ (l : List T3) (a b : List UInt8), (∀ x ∈ l, (x.a / 2).toNat < a.length ∧ (x.b / 2).toNat < a.length ∧ (x.c / 2).toNat < a.length) → l.foldl gtL1 (a ++ b) = l.foldl gtL1 a ++ b
  | [], _, _, _ => rfl
  | x :: l, a, b, h => by
    obtain ⟨h1, h2, h3⟩ := h x (by simp)
    rw [List.foldl_cons, List.foldl_cons, gtL1_app h1 h2 h3]
    exact fold_app l _ b (fun y hy => by rw [gtL1_len]; exact h y (by simp [hy]))

/-- Values behind more variables. -/
theorem val_more {C : Pc} (hv : Valid C) (st inp : ByteArray) (n : Nat) (N : List T3) (D : Pc) (hm : D.mx = C.mx + n) (hi : D.ins = C.ins) (hl : D.lat = C.lat) (ha : D.ands = C.ands ++ N) : valL D st inp = N.foldl gtL1 (valL C st inp ++ List.replicate n 48) := by
  have h0 := hv.m0
  have hz : zrL D = zrL C ++ List.replicate n 48 := by
    rw [zrL, zrL, List.replicate_append_replicate, hm]
    congr 1
    omega
  have hzl := zrL_len C h0
  have hp : preL D st inp = preL C st inp ++ List.replicate n 48 := by
    rw [preL, preL, hz, hi, hl, insL_app _ _ _ _ _ (fun j hj => by have := ins_own hv j hj; omega), latL_app _ _ _ _ _ (fun j hj => by rw [insL_len]; have := lat_own hv j hj; omega)]
  rw [valL_fold, valL_fold, hp, ha, List.foldl_append, fold_app]
  intro x hx
  rw [preL_len]
  obtain ⟨j, hj, e⟩ := List.mem_iff_getElem.1 hx
  have h1 := own_get C hv j hj
  have h2 := and_lits hv j hj
  have e2 : C.ands[j]! = x := by rw [List.getElem!_eq_getElem?_getD, List.getElem?_eq_getElem hj, e]; rfl
  rw [e2] at h1 h2
  have hb := lit_le hv h2.1
  have hc := lit_le hv h2.2.1
  omega

theorem val_zero {C : Pc} (hv : Valid C) (st inp : ByteArray) : (valL C st inp)[0]? = some 48 := by
  have h0 := hv.m0
  have hzl := zrL_len C h0
  have h1 : ∀ k, k ≤ C.ins.length → (insL C.ins inp.data.toList (zrL C) k)[0]? = some 48 := by
    intro k
    induction k with
    | zero =>
      intro _
      simp only [insL, zrL]
      rw [List.getElem?_replicate, if_pos (by omega)]
    | succ k ih =>
      intro hk
      have := ins_own hv k (by omega)
      rw [insL, List.getElem?_set_ne (by omega)]
      exact ih (by omega)
  have h2 : ∀ k, k ≤ C.lat.length → (latL C.lat st.data.toList (insL C.ins inp.data.toList (zrL C) C.ins.length) k)[0]? = some 48 := by
    intro k
    induction k with
    | zero => intro _; exact h1 _ (Nat.le_refl _)
    | succ k ih =>
      intro hk
      have := lat_own hv k (by omega)
      rw [latL, List.getElem?_set_ne (by omega)]
      exact ih (by omega)
  have h3 : ∀ k, k ≤ C.ands.length → (gtL C.ands (preL C st inp) k)[0]? = some 48 := by
    intro k
    induction k with
    | zero => intro _; exact h2 _ (Nat.le_refl _)
    | succ k ih =>
      intro hk
      have := own_get C hv k (by omega)
      rw [gtL, gtL1]
      split
      · rw [List.getElem?_set_ne (by omega)]
        exact ih (by omega)
      · exact ih (by omega)
  exact h3 _ (Nat.le_refl _)

/-- THE LAW: the Bad is true just where the clause does not hold; the states go on as they did. -/
theorem tgt_law {C : Pc} (hv : Valid C) (xs : List Int) (hk : ∀ x ∈ xs, litB C x = true) (st inp : ByteArray) :
    (trL (valL (tgt C xs) st inp) (tgt C xs).bads[0]! != xs.any (trL (valL C st inp))) = true ∧ (tgt C xs).lat.map (fun x => bitC (trL (valL (tgt C xs) st inp) x.b)) = C.lat.map (fun x => bitC (trL (valL C st inp) x.b)) := by
  have hm0 := hv.m0
  have hzl := zrL_len C hm0
  have hvl := valL_len C st inp
  have hlat : ∀ x ∈ C.lat, 0 ≤ x.b ∧ x.b / 2 ≤ C.mx := by
    intro x hx
    obtain ⟨j, hj, e⟩ := List.mem_iff_getElem.1 hx
    have h2 := lit_le hv (lat_lit hv j hj)
    have e2 : C.lat[j]! = x := by rw [List.getElem!_eq_getElem?_getD, List.getElem?_eq_getElem hj, e]; rfl
    rw [e2] at h2
    omega
  cases xs with
  | nil =>
    have e := val_more hv st inp 0 [] (tgt C []) (by simp [tgt]) rfl rfl (by simp [tgt])
    simp only [List.replicate_zero, List.append_nil, List.foldl_nil] at e
    rw [e]
    refine ⟨?_, rfl⟩
    have h48 := val_zero hv st inp
    have : (tgt C []).bads[0]! = 1 := rfl
    rw [this, trL]
    have e2 : ((1 : Int) / 2).toNat = 0 := by decide
    rw [e2, h48]
    rfl
  | cons x r =>
    have e := val_more hv st inp r.length (gtAnds C.mx (notI x) r) (tgt C (x :: r)) (by simp [tgt]) rfl rfl rfl
    have hxx := lit_le hv (hk x (by simp))
    obtain ⟨n1, n2, n3⟩ := notI_div x hxx.1
    obtain ⟨g1, g2⟩ := gates_val r C.mx (notI x) (valL C st inp ++ List.replicate r.length 48) hm0 (by rw [List.length_append, List.length_replicate, hvl]; omega) (fun i h1 h2 => by
      rw [List.getElem?_append_right (by rw [hvl]; omega), List.getElem?_replicate, if_pos (by rw [hvl]; omega)]) n2 (by omega) (fun y hy => by have := lit_le hv (hk y (by simp [hy])); omega)
    have hsame : ∀ y : Int, 0 ≤ y → y / 2 ≤ C.mx → trL (valL C st inp ++ List.replicate r.length 48) y = trL (valL C st inp) y := fun y h1 h2 => trL_app (by rw [hvl]; omega)
    rw [e]
    have hb : (tgt C (x :: r)).bads[0]! = gtAll C.mx (notI x) r := rfl
    have hlt : (tgt C (x :: r)).lat = C.lat := rfl
    refine ⟨?_, ?_⟩
    · rw [hb, g1, trL_not _ _ hxx.1, hsame x hxx.1 (by omega)]
      have hr : r.all (fun y => !trL (valL C st inp ++ List.replicate r.length 48) y) = !r.any (trL (valL C st inp)) := by
        rw [List.not_any_eq_all_not, Bool.eq_iff_iff, List.all_eq_true, List.all_eq_true]
        have : ∀ z ∈ r, trL (valL C st inp ++ List.replicate r.length 48) z = trL (valL C st inp) z := fun z hz => by
          have := lit_le hv (hk z (by simp [hz]))
          exact hsame z this.1 (by omega)
        constructor
        · intro h z hz; have h2 := h z hz; rwa [this z hz] at h2
        · intro h z hz; rw [this z hz]; exact h z hz
      rw [hr, List.any_cons]
      cases trL (valL C st inp) x <;> cases r.any (trL (valL C st inp)) <;> rfl
    · rw [hlt]
      refine List.map_congr_left fun z hz => ?_
      have hz' := hlat z hz
      have : trL ((gtAnds C.mx (notI x) r).foldl gtL1 (valL C st inp ++ List.replicate r.length 48)) z.b = trL (valL C st inp) z.b := by
        rw [← hsame z.b hz'.1 hz'.2]
        exact trL_same (g2 _ (by omega))
      rw [this]

end Go.Proofs.Ytbjccgahmgpkjaa
