/-  -/
import Derived.Test.YtdpigdlknmcmlaaGreatShC
import Derived.Test.YtdpigdlknmcmlaaGreatSgY
import Derived.Test.YtdpigdlknmcmlaaGreatSgA
set_option linter.unusedVariables false
set_option linter.unusedSimpArgs false
namespace Go.Proofs.YtdpigdlknmcmlaaGreat
open Go.RowKit
def InR (V : Nat) (l : List Int) : Prop := ∀ x ∈ l, x ≠ 0 ∧ -(V : Int) ≤ x ∧ x ≤ V
def FC (cls : List (List Int)) (a : Nat → Bool) : Prop := ∀ c ∈ cls, Sat1 a c
def aOf (s : List Bool) : Nat → Bool := fun v => s[v - 1]!
theorem tv_abs {V : Nat} (hV : V ≤ 262143) {x : Int} (h0 : x ≠ 0) (h1 : -(V : Int) ≤ x) (h2 : x ≤ V) : tv x = (x.natAbs : Int) := by
 have ht := tv_in h0 h1 h2 hV
 have : tv x = x ∨ tv x = -x := by
  unfold tv
  split
  ·exact .inl rfl
  ·split
   ·exact .inr rfl
   ·exact .inl rfl
 omega
theorem isB_iff {V : Nat} (hV : V ≤ 262143) {s : List Bool} (hs : s.length = V) {x : Int} (h0 : x ≠ 0) (h1 : -(V : Int) ≤ x) (h2 : x ≤ V) : isB s x = true ↔ Tru (aOf s) x := by
 have ht := tv_abs hV h0 h1 h2
 have hr := tv_in h0 h1 h2 hV
 unfold isB
 rw [decide_eq_true hr.1, decide_eq_true (by omega : tv x ≤ (s.length : Int)), Bool.true_and, Bool.true_and, ht, Int.toNat_natCast]
 unfold Tru aOf
 cases s[x.natAbs - 1]! with
 | true => simp
 | false =>
  simp only [Bool.false_eq_true, false_iff]
  by_cases hp : 0 < x <;> simp [hp]
theorem oneB_iff {V : Nat} (hV : V ≤ 262143) {s : List Bool} (hs : s.length = V) {l : List Int} (hl : InR V l) : oneB s l = true ↔ Sat1 (aOf s) l := by
 unfold oneB Sat1
 rw [List.any_eq_true]
 constructor
 ·rintro ⟨x, hx, h⟩
  obtain ⟨a, b, c⟩ := hl x hx
  exact ⟨x, hx, (isB_iff hV hs a b c).1 h⟩
 ·rintro ⟨x, hx, h⟩
  obtain ⟨a, b, c⟩ := hl x hx
  exact ⟨x, hx, (isB_iff hV hs a b c).2 h⟩
theorem trueB_iff {V : Nat} (hV : V ≤ 262143) {s : List Bool} (hs : s.length = V) {cls : List (List Int)} (hc : ∀ c ∈ cls, InR V c) : trueB V cls s = true ↔ FC cls (aOf s) := by
 unfold trueB FC
 rw [Bool.and_eq_true, List.all_eq_true]
 constructor
 ·rintro ⟨h, _⟩ c hcc
  exact (oneB_iff hV hs (hc c hcc)).1 (h c hcc)
 ·intro h
  exact ⟨fun c hcc => (oneB_iff hV hs (hc c hcc)).2 (h c hcc), by rw [hs]; simp⟩
theorem no_models {V : Nat} (hV : V ≤ 262143) {cls : List (List Int)} (hc : ∀ c ∈ cls, InR V c) {us core : List Int} (hu : InR V us) (hsub : ∀ u ∈ core, u ∈ us) (hno : ∀ a, FC cls a → ¬ ∀ u ∈ core, Tru a u) : modelsL V cls us = [] := by
 unfold modelsL
 rw [List.filter_eq_nil_iff]
 intro s hs hm
 have hl := allL_bits V s hs
 unfold modB at hm
 rw [Bool.and_eq_true, List.all_eq_true] at hm
 refine hno (aOf s) ((trueB_iff hV hl hc).1 hm.1) fun u hu2 => ?_
 obtain ⟨a, b, c⟩ := hu u (hsub u hu2)
 exact (isB_iff hV hl a b c).1 (hm.2 u (hsub u hu2))
namespace Sv
def msTo (S : Sv) (k : Nat) : List Bool := (List.range k).map fun i : Nat => S.valB ((i : Int) + 1)
theorem msTo_succ (S : Sv) (k : Nat) : S.msTo (k + 1) = S.msTo k ++ [S.valB ((k : Int) + 1)] := by
 unfold msTo
 rw [List.range_succ, List.map_append]
 rfl
theorem msTo_len (S : Sv) (k : Nat) : (S.msTo k).length = k := by simp [msTo]
theorem aOf_ms {S : Sv} {V : Nat} (hv : S.vars = V) (hh : S.has = true) (v : Nat) (h1 : 1 ≤ v) (h2 : v ≤ V) : aOf (S.msTo V) v = S.model[v]! := by
 unfold aOf msTo
 simp only [List.getElem!_eq_getElem?_getD, List.getElem?_map, List.getElem?_range (show v - 1 < V by omega), Option.map_some, Option.getD_some]
 unfold valB
 have e : ((v - 1 : Nat) : Int) + 1 = (v : Int) := by omega
 rw [e, hh, decide_eq_true (by omega : (1 : Int) ≤ (v : Int)), decide_eq_true (by omega : (v : Int) ≤ (S.vars : Int)), Int.toNat_natCast]
 simp [List.getElem!_eq_getElem?_getD]
end Sv
def placeF (l : List Int) (n : Int) : Int := if n ∈ l then (l.idxOf n : Int) else -1
theorem idxOf_le {n : Int} : ∀ {l : List Int} {k : Nat}, k < l.length → l[k]! = n → l.idxOf n ≤ k
 | [], k, h, _ => by simp at h
 | a :: l, 0, _, h => by
  have : a = n := by simpa using h
  rw [List.idxOf_cons, this]
  simp
 | a :: l, k + 1, hk, h => by
  have := idxOf_le (n := n) (l := l) (k := k) (by simpa using hk) (by simpa using h)
  rw [List.idxOf_cons]
  cases (a == n) with
  | true => simp
  | false => simp; omega
theorem idx_of {l : List Int} {n : Int} {k : Nat} (hk : k < l.length) (hn : l[k]! = n) (h : NoneTo l (fun x => x == n) k) : placeF l n = k := by
 have hm : n ∈ l := by rw [← hn]; exact mem_get hk
 unfold placeF
 rw [if_pos hm]
 have h1 : l.idxOf n ≤ k := idxOf_le hk hn
 have h2 : ¬ l.idxOf n < k := fun hc => by
  have h3 := h _ hc
  have h4 := List.getElem_idxOf (xs := l) (x := n) (List.idxOf_lt_length_of_mem hm)
  rw [getE (List.idxOf_lt_length_of_mem hm)] at h3
  rw [h4] at h3
  simp at h3
 omega
theorem idx_none {l : List Int} {n : Int} (h : l.any (fun x => x == n) = false) : placeF l n = -1 := by
 unfold placeF
 rw [if_neg]
 intro hm
 have : l.any (fun x => x == n) = true := List.any_eq_true.2 ⟨n, hm, by simp⟩
 rw [this] at h
 cases h
def lastF (us core : List Int) (i : Nat) : Int := if i = 0 then -1 else placeF us core[i - 1]!
theorem last_lt {us core : List Int} (hs : ∀ u ∈ core, u ∈ us) (hp : core.Pairwise (fun x y => us.idxOf x < us.idxOf y)) {i : Nat} (hi : i < core.length) : lastF us core i < placeF us core[i]! ∧ placeF us core[i]! ≤ us.length := by
 have hm := hs _ (mem_get hi)
 have h2 := List.idxOf_lt_length_of_mem hm
 refine ⟨?_, by unfold placeF; rw [if_pos hm]; omega⟩
 unfold lastF
 by_cases h0 : i = 0
 ·rw [if_pos h0]
  unfold placeF
  rw [if_pos hm]
  omega
 ·rw [if_neg h0]
  have hm2 := hs _ (mem_get (l := core) (k := i - 1) (by omega))
  unfold placeF
  rw [if_pos hm, if_pos hm2]
  have := List.pairwise_iff_getElem.1 hp (i - 1) i (by omega) hi (by omega)
  rw [getE hi, getE (by omega)]
  omega
theorem lastF_succ (us core : List Int) (i : Nat) : lastF us core (i + 1) = placeF us core[i]! := by
 unfold lastF
 rw [if_neg (by omega), Nat.add_sub_cancel]
set_option maxRecDepth 100000 in
set_option maxHeartbeats 1000000 in
theorem place_calls (w : World) (A : Option Addr) (c : Nat) (xs : List Int) (h : Rd w A xs) (hr : Ra xs) (hl : xs.length ≤ 17592186044416) (n : Int) :
  Calls Tryz.prog 38 #[.slice A xs.length c, .int .i64 n] w fun e w' => e = .returned (.int .i64 (placeF xs n)) ∧ w = w' := by
 have HH := Lib.hid h
 have HR := Lib.hid hr
 have YES : Hid (∀ k : Nat, k < xs.length → xs[k]! = n → NoneTo xs (fun x => x == n) k → Ending.returned (.int .i64 (k : Int)) = Ending.returned (.int .i64 (placeF xs n))) := fun k h1 h2 h3 => by rw [idx_of h1 h2 h3]
 have NO : Hid (xs.any (fun x => x == n) = false → Ending.returned (.int .i64 (-1)) = Ending.returned (.int .i64 (placeF xs n))) := fun h1 => by rw [idx_none h1]
 clear h hr
 go_enter Tryz.func38, Tryz.ntmps38
 go_wp2_with fail
 go_loopg [5] xs.length (fun g i wr => ∃ k : Nat, k + g = xs.length ∧ i = .int .i64 k ∧ w = wr ∧ NoneTo xs (fun x => x == n) k)
 case atStart => exact ⟨0, by omega, rfl, rfl, NoneTo.zero _ _⟩
 case round =>
  obtain ⟨k, hk, rfl, rfl, hn⟩ := hrel
  have HK := Lib.hid hk
  have HN := Lib.hid hn
  have hkn : k ≤ xs.length := by omega
  clear hk hn
  by_cases hlt : k < xs.length
  ·obtain ⟨gb, o, x, hA, he, cx, hx1, hx2⟩ := HH.out.one HR.out hlt
   subst hA
   have hki : (k : Int) < (xs.length : Int) := by omega
   by_cases hxn : x = n
   ·subst hxn
    have HLT := Lib.hid hlt
    go_wp2_with fail
    go_ret
    exact ⟨YES.out k HLT.out he.out HN.out, rfl⟩
   ·have hb : (x == n) = false := by simpa using hxn
    have HX := Lib.hid hb
    go_wp2_with fail
    go_roundg (gk - 1)
    case measure => have := HK.out; omega
    case rel => exact ⟨k + 1, by have := HK.out; omega, by go_num, rfl, HN.out.step (by rw [he.out]; exact HX.out)⟩
  ·have HT := Lib.hid (HN.out.all hlt)
   clear HN HK
   go_wp2_with fail
   go_ret
   exact ⟨NO.out HT.out, rfl⟩
structure Rt (V : Nat) (cls : List (List Int)) (us : List Int) (S : Sv) (r : Int) : Prop where
 v8 : V ≤ 8
 cl : ∀ c ∈ cls, InR V c
 ur : InR V us
 vars : S.vars = V
 ans : Sv.Ans us (FC cls) V S r
namespace Rt
variable {V : Nat} {cls : List (List Int)} {us : List Int} {S : Sv} {r : Int}
theorem one (h : Rt V cls us S 1) : S.has = true ∧ S.core = [] ∧ S.model.length = S.vars + 1 ∧ us.all (isB (S.msTo V)) = true ∧ trueB V cls (S.msTo V) = true := by
 have hV : V ≤ 262143 := by have := h.v8; omega
 rcases h.ans with ⟨_, h1, h2, h3, h4⟩ | ⟨h1, _⟩
 ·have hl := S.msTo_len V
  obtain ⟨k1, k2⟩ := h4 (aOf (S.msTo V)) (fun v v1 v2 => Sv.aOf_ms h.vars h1 v v1 v2)
  refine ⟨h1, h2, by rw [h.vars]; exact h3, ?_, (trueB_iff hV hl h.cl).2 k1⟩
  rw [List.all_eq_true]
  intro x hx
  obtain ⟨a, b, c⟩ := h.ur x hx
  exact (isB_iff hV hl a b c).2 (k2 x hx)
 ·cases h1
theorem two (h : Rt V cls us S 2) : S.has = false ∧ (∀ u ∈ S.core, u ∈ us) ∧ S.core.Pairwise (fun x y => us.idxOf x < us.idxOf y) ∧ modelsL V cls us = [] ∧ modelsL V cls S.core = [] := by
 have hV : V ≤ 262143 := by have := h.v8; omega
 rcases h.ans with ⟨h1, _⟩ | ⟨_, h1, h2, h3, h4⟩
 ·cases h1
 ·exact ⟨h1, h3, h4, no_models hV h.cl h.ur h3 h2, no_models hV h.cl (fun x hx => h.ur x (h3 x hx)) (fun x hx => hx) h2⟩
theorem cases_ (h : Rt V cls us S r) : r = 1 ∨ r = 2 := by
 rcases h.ans with ⟨h1, _⟩ | ⟨h1, _⟩
 ·exact .inl h1
 ·exact .inr h1
theorem model (h : Rt V cls us S r) : S.has = true → S.model.length = S.vars + 1 := fun hh => by
 rcases h.ans with ⟨_, _, _, h3, _⟩ | ⟨_, h1, _⟩
 ·rw [h.vars]; exact h3
 ·rw [hh] at h1; cases h1
theorem core_len (h : Rt V cls us S r) : S.core.length ≤ us.length := by
 rcases h.ans with ⟨_, _, h2, _⟩ | ⟨_, _, _, h3, h4⟩
 ·rw [h2]; exact Nat.zero_le _
 ·have hnd : (S.core.map fun x => us.idxOf x).Nodup := by
   unfold List.Nodup
   rw [List.pairwise_map]
   exact h4.imp (fun hab e => by omega)
  have := nodup_lt_len us.length _ hnd (fun x hx => by
   obtain ⟨y, hy, rfl⟩ := List.mem_map.1 hx
   exact List.idxOf_lt_length_of_mem (h3 y hy))
  simpa using this
end Rt
set_option maxRecDepth 100000 in
set_option maxHeartbeats 8000000 in
theorem right_calls (w : World) (L : SvL) (S : Sv) (hsv : SvAt w L S) (V : Nat) (A : Option Addr) (c : Nat) (hs : List Ls) (h : RdL w A hs) (hl : hs.length ≤ 1099511620000) (B : Option Addr) (d : Nat) (us : List Int) (hb : Rd w B us) (hra : Ra us) (hul : us.length ≤ 1048576) (r : Int) (hr : Rt V (hs.map (·.l)) us S r) :
  Calls Tryz.prog 12 #[.pointer (some ⟨L.a, 0, none⟩), .agg #[.int .i64 V, .slice A hs.length c], .int .i64 r, .slice B us.length d] w fun e w' => e = .returned (.bool true) ∧ Fr [] w w' := by
 obtain ⟨w1, hw1⟩ : ∃ w1, w.alloc (.cells #[.int .i64 (V : Int), .slice A hs.length c] 24) = w1 := ⟨_, rfl⟩
 have HF1 : Hid (Fr [] w w1) := hw1 ▸ box_fr' _ _
 have hS : At w1 w.heap.size 24 #[.int .i64 (V : Int), .slice A hs.length c] := hw1 ▸ At.new _ _ _
 have HH := Lib.hid (h.keep HF1.out)
 have HB := Lib.hid (hb.keep HF1.out)
 have HSV := Lib.hid (hsv.keep HF1.out)
 have HRA := Lib.hid hra
 have HRT := Lib.hid hr
 have hv8 := hr.v8
 have c0 := hS.cell 0
 have c1 := hS.cell 1
 simp at c0 c1
 have HC0 := Lib.hid c0
 have HC1 := Lib.hid c1
 have KM := Lib.hid (fun (W : World) (hf : Fr [] w1 W) (B' : Option Addr) (d' : Nat) (l : List Int) (hb' : Rd W B' l) (hr' : Ra l) (hl' : l.length ≤ 1048576) => models_calls W V hv8 A c hs (HH.out.keep hf) hl B' d' l hb' hr' (by omega))
 have KM1 := Lib.hid (KM.out w1 (Fr.refl _ _) B d us HB.out HRA.out hul)
 have HCO := Lib.hid hr.core_len
 clear h hb hra hS hsv
 rcases hr.cases_ with rfl | rfl
 ·obtain ⟨k1, k2, k3, k4, k5⟩ := hr.one
  have HK4 := Lib.hid k4
  have HK5 := Lib.hid k5
  have HMO := Lib.hid HRT.out.model
  have HK2 : Hid (S.core.length = 0) := by show _ = _; rw [k2]; rfl
  obtain ⟨ms, hms⟩ : ∃ ms, modelsL V (hs.map (·.l)) us = ms := ⟨_, rfl⟩
  rw [hms] at KM1
  clear hr k1 k2 k3 k4 k5 hms
  go_enter Tryz.func12, Tryz.ntmps12
  go_upto_region 1 with fail
  clear hw1
  go_wp2_with fail
  refine KM1.out.mono ?_
  clear KM1 KM
  rintro e w2 ⟨A2, c2, rfl, hf2⟩
  have HF2 := Lib.hid hf2
  clear hf2
  have d0 := HF2.out.cellS HC0.out
  have d1 := HF2.out.cellS HC1.out
  have KV : Hid (∀ v : Int, Calls Tryz.prog 18 #[.pointer (some ⟨L.a, 0, none⟩), .int .i64 v] w2 fun e w' => e = .returned (.bool (S.valB v)) ∧ w2 = w') := fun v => value_calls w2 L S (HSV.out.keep HF2.out) HMO.out v
  have HE : Hid (tx (sb (S.msTo 0)) = ⟨#[]⟩) := rfl
  clear c0 c1
  go_wp2_with fail
  rw [← HE.out]
  go_loopg [10, 11] V (fun g x10 x11 wr => ∃ k : Nat, k + g = V ∧ x10 = .string (tx (sb (S.msTo k))) ∧ x11 = .int .i64 ((k : Int) + 1) ∧ w2 = wr)
  case atStart => exact ⟨0, by omega, rfl, rfl, rfl⟩
  case round =>
   obtain ⟨k, hk, rfl, rfl, rfl⟩ := hrel
   have HK := Lib.hid hk
   have hkn : k ≤ V := by omega
   clear hk
   by_cases hlt : k < V
   ·have hlt' : (k : Int) + 1 ≤ (V : Int) := by omega
    have HSU := Lib.hid (S.msTo_succ k)
    obtain ⟨q, hq⟩ : ∃ q, S.valB ((k : Int) + 1) = q := ⟨_, rfl⟩
    have KVV := KV.out ((k : Int) + 1)
    rw [hq] at KVV HSU
    have KVV := Lib.hid KVV
    have hbz : ¬ (9223372036854775807 < (tx (sb (S.msTo k))).size + 1) := by
     rw [sbt_size, Sv.msTo_len]; omega
    have HT1 : Hid (q = true → tx (sb (S.msTo k)) ++ ⟨#[49]⟩ = tx (sb (S.msTo (k + 1)))) := fun e => by
     rw [HSU.out, e, sb_app, ← tx_app]; rfl
    have HT0 : Hid (q = false → tx (sb (S.msTo k)) ++ ⟨#[48]⟩ = tx (sb (S.msTo (k + 1)))) := fun e => by
     rw [HSU.out, e, sb_app, ← tx_app]; rfl
    obtain ⟨b, hbb⟩ : ∃ b, tx (sb (S.msTo k)) = b := ⟨_, rfl⟩
    rw [hbb] at hbz HT1 HT0 ⊢
    clear hq hbb HSU
    go_wp2_with fail
    refine KVV.out.mono ?_
    rintro e w3 ⟨rfl, rfl⟩
    cases q with
    | true =>
     have HT := Lib.hid (HT1.out rfl)
     clear HT1 HT0
     go_wp2_with fail
     go_roundg (gk - 1)
     case measure => have := HK.out; omega
     case rel => exact ⟨k + 1, by have := HK.out; omega, by rw [HT.out], by go_num, rfl⟩
    | false =>
     have HT := Lib.hid (HT0.out rfl)
     clear HT1 HT0
     go_wp2_with fail
     go_roundg (gk - 1)
     case measure => have := HK.out; omega
     case rel => exact ⟨k + 1, by have := HK.out; omega, by rw [HT.out], by go_num, rfl⟩
   ·obtain rfl : k = V := by omega
    obtain ⟨s, hs'⟩ : ∃ s, S.msTo k = s := ⟨_, rfl⟩
    have hsl : s.length ≤ 4096 := by rw [← hs', Sv.msTo_len]; omega
    rw [hs'] at HK4 HK5 ⊢
    have KI := Lib.hid (fun (W : World) (x : Int) (hx : R64 x) => is_calls W s x hx hsl)
    have KT := rtrue_calls w2 k A c hs (HH.out.keep HF2.out) hl s hsl
    rw [HK5.out] at KT
    have KT := Lib.hid KT
    have HAL : Hid (∀ j : Nat, j < us.length → isB s us[j]! = true) := fun j hj => by
     have := HK4.out
     rw [List.all_eq_true] at this
     exact this _ (mem_get hj)
    clear hs' HK
    generalize tx (sb s) = b at KI KT ⊢
    have hkf : ¬ ((k : Int) + 1 ≤ (k : Int)) := by omega
    go_wp2_with fail
    go_loopg [12] us.length (fun g x12 wr => ∃ j : Nat, j + g = us.length ∧ x12 = .int .i64 j ∧ w2 = wr)
    case atStart => exact ⟨0, by omega, rfl, rfl⟩
    case round =>
     obtain ⟨j, hj, rfl, rfl⟩ := hrel
     have HJ := Lib.hid hj
     have hjn : j ≤ us.length := by omega
     clear hj
     by_cases hlt2 : j < us.length
     ·obtain ⟨gu, o, x, hB, he, cu, hx1, hx2⟩ := (HB.out.keep HF2.out).one HRA.out hlt2
      have hq := HAL.out j hlt2
      rw [he.out] at hq
      have KII := KI.out w2 x ⟨hx1, hx2⟩
      rw [hq] at KII
      have KII := Lib.hid KII
      subst hB
      clear hq
      go_wp2_with fail
      refine KII.out.mono ?_
      rintro e w3 ⟨rfl, rfl⟩
      go_wp2_with fail
      go_roundg (gk - 1)
      case measure => have := HJ.out; omega
      case rel => exact ⟨j + 1, by have := HJ.out; omega, by go_num, rfl⟩
     ·go_wp2_with fail
      refine KT.out.mono ?_
      clear KT
      rintro e w3 ⟨rfl, hf3⟩
      have HF3 := Lib.hid (HF2.out.then_ hf3)
      clear hf3
      have KC := core_calls w3 L S (HSV.out.keep HF3.out) (by have := HCO.out; omega)
      rw [HK2.out] at KC
      have KC := Lib.hid KC
      go_wp2_with fail
      refine KC.out.mono ?_
      clear KC
      rintro e w4 ⟨A4, c4, rfl, -, -, hf4⟩
      have FF : Hid (Fr [] w w4) := HF1.out.then_ (HF3.out.then_ hf4)
      clear hf4
      go_wp2_with fail
      go_ret
      exact ⟨rfl, FF.out⟩
 ·obtain ⟨k1, k2, k3, k4, k5⟩ := hr.two
  rw [k4] at KM1
  have HK5 := Lib.hid k5
  have HLT := Lib.hid (fun i hi => last_lt k2 k3 (i := i) hi)
  clear hr k1 k2 k3 k4 k5
  go_enter Tryz.func12, Tryz.ntmps12
  go_upto_region 1 with fail
  clear hw1
  go_wp2_with fail
  refine KM1.out.mono ?_
  clear KM1
  rintro e w2 ⟨A2, c2, rfl, hf2⟩
  have HF2 := Lib.hid hf2
  clear hf2
  have KC := Lib.hid (core_calls w2 L S (HSV.out.keep HF2.out) (by have := HCO.out; omega))
  go_wp2_with fail
  refine KC.out.mono ?_
  clear KC
  rintro e w3 ⟨A3, c3, rfl, hi3, hn3, hf3⟩
  have HF3 := Lib.hid (HF2.out.then_ hf3)
  have HI3 := Lib.hid hi3
  have HRC : Hid (Ra S.core) := fun j hj => by
   have hm := (HRT.out.two).2.1 _ (mem_get hj)
   obtain ⟨a1, a2, a3⟩ := HRT.out.ur _ hm
   unfold R64
   omega
  obtain ⟨n, hn⟩ : ∃ n, S.core.length = n := ⟨_, rfl⟩
  have HN := Lib.hid hn
  have hnu : n ≤ 1048576 := by have := HCO.out; omega
  rw [hn]
  clear hi3 hn3 hf3 hn
  have HL0 : Hid (lastF us S.core 0 = -1) := rfl
  go_wp2_with fail
  rw [← HL0.out]
  go_loopg [14, 15] n (fun g x14 x15 wr => ∃ i : Nat, i + g = n ∧ x14 = .int .i64 (lastF us S.core i) ∧ x15 = .int .i64 i ∧ w3 = wr)
  case atStart => exact ⟨0, by omega, rfl, rfl, rfl⟩
  case round =>
   obtain ⟨i, hi, rfl, rfl, rfl⟩ := hrel
   have HI := Lib.hid hi
   have hin : i ≤ n := by omega
   clear hi
   by_cases hlt : i < n
   ·obtain ⟨ga, o, x, hA, he, cx, hx1, hx2⟩ := (HI3.out.rd).one HRC.out (j := i) (by rw [HN.out]; exact hlt)
    subst hA
    obtain ⟨hl1, hl2⟩ := HLT.out i (by rw [HN.out]; exact hlt)
    have HLS := Lib.hid (lastF_succ us S.core i)
    rw [he.out] at hl1 hl2 HLS
    have KP := place_calls w3 B d us (HB.out.keep HF3.out) HRA.out (by omega) x
    obtain ⟨pl, hpl⟩ : ∃ pl, placeF us x = pl := ⟨_, rfl⟩
    rw [hpl] at hl1 hl2 HLS KP
    obtain ⟨la, hla⟩ : ∃ la, lastF us S.core i = la := ⟨_, rfl⟩
    rw [hla] at hl1 ⊢
    have KP := Lib.hid KP
    have hni : (i : Int) < (n : Int) := by omega
    clear hpl hla
    go_wp2_with fail
    refine KP.out.mono ?_
    rintro e w4 ⟨rfl, rfl⟩
    go_wp2_with fail
    go_roundg (gk - 1)
    case measure => have := HI.out; omega
    case rel => exact ⟨i + 1, by have := HI.out; omega, by rw [HLS.out], by go_num, rfl⟩
   ·obtain ⟨la, hla⟩ : ∃ la, lastF us S.core i = la := ⟨_, rfl⟩
    rw [hla]
    have KMC := KM.out w3 HF3.out A3 c3 S.core HI3.out.rd HRC.out (by rw [HN.out]; exact hnu)
    rw [HK5.out, HN.out] at KMC
    have KMC := Lib.hid KMC
    have d0 := HF3.out.cellS HC0.out
    have d1 := HF3.out.cellS HC1.out
    have hni : (n : Int) ≤ (i : Int) := by omega
    clear hla KM c0 c1
    go_wp2_with fail
    refine KMC.out.mono ?_
    clear KMC
    rintro e w4 ⟨A4, c4, rfl, hf4⟩
    have FF : Hid (Fr [] w w4) := HF1.out.then_ (HF3.out.then_ hf4)
    clear hf4
    go_wp2_with fail
    go_ret
    exact ⟨rfl, FF.out⟩
theorem pushes_mem : ∀ (n : Nat) (v : Int) (H : Hp), HI H → 1 ≤ v → v + n ≤ H.at_.length → (∀ y ∈ H.items, y ∈ (Sv.pushes n v H).items) ∧ (∀ x : Int, v ≤ x → x < v + n → x ∈ (Sv.pushes n v H).items) ∧ ∀ y ∈ (Sv.pushes n v H).items, y ∈ H.items ∨ v ≤ y
 | 0, v, H, h, h1, h2 => ⟨fun y hy => hy, fun x h3 h4 => by omega, fun y hy => .inl hy⟩
 | n + 1, v, H, h, h1, h2 => by
  have hk := h.pushC v
  obtain ⟨g1, g2, g3⟩ := pushes_mem n (v + 1) (Sv.pushC H v) hk.1 (by omega) (by rw [hk.2]; omega)
  rw [Sv.pushes]
  refine ⟨fun y hy => g1 y (pushC_keeps h v hy), fun x h3 h4 => ?_, fun y hy => ?_⟩
  ·by_cases e : x = v
   ·rw [e]
    exact g1 v (pushC_in h (by omega) (by omega))
   ·exact g2 x (by omega) (by omega)
  ·rcases g3 y hy with h5 | h5
   ·rcases pushC_mem h v y h5 with h6 | h6
    ·exact .inl h6
    ·exact .inr (by omega)
   ·exact .inr (by omega)
namespace Sv
theorem R_grow {S : Sv} (ok : S.Ok 0) (n : Nat) (hb : S.vars + n ≤ 262143) : (S.grow n).R = S.R ∧ (S.grow n).T.levels.length = S.T.levels.length := by
 have h := ok.rep.grow n (by omega)
 exact ⟨R_of (S := S.grow n) h, h.dep⟩
theorem wat_grow (S : Sv) (n c : Nat) : (S.grow n).wat c = S.wat c := by
 show (S.watch ++ List.replicate (2 * n) ([] : List Nat))[c]! = S.watch[c]!
 simp only [List.getElem!_eq_getElem?_getD]
 by_cases e : c < S.watch.length
 ·rw [List.getElem?_append_left e]
 ·rw [List.getElem?_append_right (by omega), List.getElem?_replicate, List.getElem?_eq_none (l := S.watch) (by omega)]
  split <;> rfl
theorem Inv.grow {S : Sv} (h : S.Inv) (n : Nat) (hb : S.vars + n ≤ 262143) : (S.grow n).Inv := by
 obtain ⟨hR, hl⟩ := R_grow h.ok n hb
 have hw := wat_grow S n
 refine ⟨h.ok.grow n hb, h.dist, fun A e B h1 h2 => h.rsn A e B (hR ▸ h1) h2, fun A e B h1 h2 => h.dec A e B (hR ▸ h1) h2, fun e he => ?_, ⟨fun c => by rw [hw]; exact h.wi.nd c, fun c k hk hl2 => ?_, fun k hl2 => ?_⟩, fun k hl2 e he => ?_⟩
 ·rw [hR] at he
  rw [hl]
  exact h.hd e he
 ·rw [hw] at hk
  exact h.wi.wd c k hk hl2
 ·rw [hw, hw]
  exact h.wi.wc k hl2
 ·rw [hR] at he ⊢
  exact h.wt k hl2 e he
theorem val_grow {S : Sv} (ok : S.Ok 0) (n : Nat) (hb : S.vars + n ≤ 262143) (x : Int) : (S.grow n).val x = S.val x := by
 have h1 := (ok.grow n hb).rep
 have h2 := ok.rep
 rw [(R_grow ok n hb).1] at h1
 unfold val
 rw [h1.valF, h2.valF]
theorem Hc.grow {S : Sv} (h : S.Hc) (ok : S.Ok 0) (n : Nat) (hb : S.vars + n ≤ 262143) : (S.grow n).Hc := by
 have hg : HI (S.H.growF n) ∧ (S.H.growF n).at_.length = S.vars + n + 1 := by
  rw [growF_len ok.hl hb]
  refine ⟨ok.hi.grow n, ?_⟩
  have := ok.hl
  simp only [Hp.growBy, List.length_append, List.length_replicate]
  omega
 have hit : (S.H.growF n).items = S.H.items := by rw [growF_len ok.hl hb]; rfl
 obtain ⟨g1, g2, g3⟩ := pushes_mem n ((S.vars : Int) + 1) (S.H.growF n) hg.1 (by omega) (by rw [hg.2]; omega)
 rw [hit] at g1 g3
 refine ⟨fun v h1 h2 h3 => ?_, fun x hx => ?_⟩
 ·rw [val_grow ok n hb] at h3
  have h2 : v ≤ ((S.vars + n : Nat) : Int) := h2
  by_cases e : v ≤ S.vars
  ·exact g1 v (h.all v h1 e h3)
  ·exact g2 v (by omega) (by omega)
 ·rcases g3 x hx with h4 | h4
  ·exact h.pos x h4
  ·omega
theorem Knows.grow {S : Sv} {F : (Nat → Bool) → Prop} (h : S.Knows F) (ok : S.Ok 0) (n : Nat) (hb : S.vars + n ≤ 262143) : (S.grow n).Knows F := by
 obtain ⟨hR, hl⟩ := R_grow ok n hb
 refine ⟨fun a ha => ⟨(h.sound a ha).1, fun e he => (h.sound a ha).2 e (hR ▸ he)⟩, h.bad, fun hb2 a ha => h.full hb2 a ⟨ha.1, fun e he => ha.2 e (by rw [hR]; exact he)⟩⟩
theorem Cnt.grow {S : Sv} (h : S.Cnt) (n : Nat) : (S.grow n).Cnt := h.same (fun n => ⟨rfl, rfl⟩) rfl rfl
theorem zero_same {S S' : Sv} (h : S'.R = S.R) : S'.zero = S.zero := by unfold zero; rw [h]
theorem Knows.iff {S : Sv} {F G : (Nat → Bool) → Prop} (h : S.Knows F) (hi : ∀ a, F a ↔ G a) : S.Knows G :=
 ⟨fun a ha => h.sound a ((hi a).2 ha), fun hb a ha => h.bad hb a ((hi a).2 ha), fun hb a ha => (hi a).1 (h.full hb a ha)⟩
theorem Kept.iff {S : Sv} {F G : (Nat → Bool) → Prop} {vars U V : Nat} (h : Kept F vars U V S) (hi : ∀ a, F a ↔ G a) : Kept G vars U V S :=
 ⟨h.inv, h.lev, h.hc, h.kn.iff hi, h.cnt, h.vars, h.used, h.list, h.bump, h.lim⟩
theorem Kept.up {S : Sv} {F : (Nat → Bool) → Prop} {vars U V U' V' : Nat} (h : Kept F vars U V S) (h1 : U ≤ U') (h2 : V ≤ V') : Kept F vars U' V' S :=
 ⟨h.inv, h.lev, h.hc, h.kn, h.cnt, h.vars, Nat.le_trans h.used h1, Nat.le_trans h.list h2, h.bump, h.lim⟩
theorem Kept.grow {S : Sv} {F : (Nat → Bool) → Prop} {vars U V : Nat} (h : Kept F vars U V S) (n : Nat) (hb : vars + n ≤ 262143) : Kept F (vars + n) U V (S.fresh0.grow n) := by
 have hv : S.fresh0.vars + n ≤ 262143 := by have := h.vars; show S.vars + n ≤ _; omega
 obtain ⟨hR, hl⟩ := R_grow h.inv.fresh0.ok n hv
 have hc0 : S.fresh0.Hc := ⟨h.hc.all, h.hc.pos⟩
 have hc1 : S.fresh0.Cnt := h.cnt.same (fun n => ⟨rfl, rfl⟩) rfl rfl
 have hP : (S.fresh0.grow n).Phi = S.Phi := Phi_eq rfl (LL_same (fun n => ⟨rfl, rfl⟩) rfl) (zero_same hR)
 exact ⟨h.inv.fresh0.grow n hv, hl.trans h.lev, hc0.grow h.inv.fresh0.ok n hv, h.kn.fresh0.grow h.inv.fresh0.ok n hv, hc1.grow n, by show S.vars + n = _; rw [h.vars], by rw [hP]; exact h.used, by rw [hP]; exact h.list, h.bump, h.lim⟩
theorem Kept.new (V : Nat) (hV : V ≤ 262143) : Kept (fun _ => True) V 68722098184 68722098184 (Sv.new (V : Int)) := by
 obtain ⟨i1, i2, i3, i4, i5, i6, i7⟩ := Inv.new (V : Int)
 have hv := (Sv.Ok.new (V : Int)).2
 have hvn : (Sv.new (V : Int)).vars = V := by rw [hv]; omega
 have hP := Phi_le (Sv.new (V : Int))
 have hR : (Sv.new (V : Int)).R = [] := rfl
 have hrc : ∀ n, (Sv.new (V : Int)).rc n = ⟨[], false, 0⟩ := fun n => rc_out (Nat.zero_le _)
 have hLL : (Sv.new (V : Int)).LL = [] := rfl
 have hob : bare.Ok 0 := by
  have := (Sv.Ok.new 0).1
  exact this
 have hcb : bare.Hc := ⟨fun v h1 h2 => by
  have h2 : v ≤ ((0 : Nat) : Int) := h2
  omega, fun x hx => by cases hx⟩
 refine ⟨i1, i2, hcb.grow hob _ (by show 0 + _ ≤ _; omega), Knows.new _, ⟨fun n m h1 => by
  rw [live_iff, hrc] at h1
  exact absurd h1.1 (by simp), by rw [i3, hLL]; rfl⟩, hvn, by rw [i6]; omega, by rw [i5]; simpa using hP, by rw [i7]; decide, by rw [i4]; decide⟩
theorem Cnt.attach {S : Sv} (h : S.Cnt) (hi : S.Inv) {l : List Int} (hf : S.Fits l) (hd : (l.map tv).Nodup) (hr : S.list.length < 1099511627776) : (S.attach l false).Cnt ∧ (S.attach l false).LL = S.LL := by
 obtain ⟨k1, k2, k3⟩ := hi.attach hf hd false hr
 have hlen : (S.attach l false).list.length = S.list.length + 1 := (attach_same S l false).2.2.1
 have hlive : ∀ n, n ≠ S.list.length → (S.attach l false).liveB n = S.liveB n := fun n hn => by unfold liveB; rw [k3 n hn]
 have hnew : (S.attach l false).liveB S.list.length = false := by unfold liveB; rw [k2]; rfl
 have hLL : (S.attach l false).LL = S.LL := by
  unfold LL
  rw [hlen, List.range_succ, List.filter_append, List.filter_cons, hnew, List.filter_nil]
  simp only [Bool.false_eq_true, if_false, List.append_nil]
  refine List.filter_congr fun n hn => hlive n ?_
  have := List.mem_range.1 hn
  omega
 refine ⟨⟨fun n m n1 n2 n3 => ?_, by rw [hLL]; exact h.many⟩, hLL⟩
 have en : n ≠ S.list.length := fun e => by rw [e, hnew] at n1; cases n1
 have em : m ≠ S.list.length := fun e => by rw [e, hnew] at n2; cases n2
 rw [hlive n en] at n1
 rw [hlive m em] at n2
 refine h.dl n m n1 n2 fun x => ?_
 have := n3 x
 rw [k3 n en, k3 m em] at this
 exact this
end Sv
namespace Sv
structure AdS (S S' : Sv) : Prop where
 H : S'.H = S.H
 R : ∃ Z, S'.R = S.R ++ Z
 LL : S'.LL = S.LL
 cnt : S'.Cnt
theorem AdS.refl0 {S : Sv} (h : S.Cnt) : AdS S S.fresh0 := ⟨rfl, ⟨[], by rw [List.append_nil]; rfl⟩, rfl, h.same (fun n => ⟨rfl, rfl⟩) rfl rfl⟩
theorem addTo_same {S : Sv} (h : S.Inv) (hc : S.Cnt) {out : List Int} (h1 : out.length ≤ 1048576) (hl : ∀ x ∈ out, x ≠ 0 ∧ -(S.vars : Int) ≤ x ∧ x ≤ S.vars) (hd : (out.map tv).Nodup) (hv : ∀ x ∈ out, S.val x = 0) (hr : S.list.length < 1099511627776) : AdS S (S.addTo out) := by
 unfold Sv.addTo
 by_cases e0 : out.length = 0
 ·rw [if_pos e0]
  exact ⟨rfl, ⟨[], by rw [List.append_nil]; rfl⟩, rfl, hc.same (fun n => ⟨rfl, rfl⟩) rfl rfl⟩
 ·rw [if_neg e0]
  have hm := get_mem (l := out) (i := 0) (by omega)
  by_cases e1 : out.length = 1
  ·rw [if_pos e1]
   have ht := tv_in (hl _ hm).1 (hl _ hm).2.1 (hl _ hm).2.2 h.ok.vl
   have hR := R_put (r := 0) h.ok (putB_of h.ok ht.1 ht.2 (hv _ hm))
   exact ⟨rfl, ⟨_, hR⟩, rfl, hc.same (fun n => ⟨rfl, rfl⟩) rfl rfl⟩
  ·rw [if_neg e1]
   obtain ⟨k1, k2⟩ := hc.attach h ⟨by omega, h1, hl⟩ hd hr
   have hs := attach_same S out false
   exact ⟨hs.2.2.2.2.2, ⟨[], by rw [List.append_nil]; exact R_congr hs.1⟩, k2, k1⟩
theorem addF_same {S : Sv} (h : S.Inv) (hc : S.Cnt) {l : List Int} (hra : Ra l) (hr : S.list.length < 1099511627776) (hck : chkF S.vars l = 0) : AdS S (S.addF l).1 := by
 unfold Sv.addF
 rw [if_pos hck]
 by_cases hs : S.skipB (nrm l) = true
 ·rw [if_pos hs]
  exact AdS.refl0 hc
 ·rw [if_neg hs]
  obtain ⟨h1, h2⟩ := left_rng (S := S) hra hck
  have hs : S.skipB (nrm l) = false := by simpa using hs
  unfold skipB at hs
  rw [Bool.or_eq_false_iff] at hs
  have hc2 := chk_rng hra hck
  have hd := nrm_dist (l := l) (v := S.vars) (fun x hx => (hc2.2 x (nrm_mem hx).1).2) h.ok.vl hs.1
  have k := addTo_same (S := S.fresh0) h.fresh0 (hc.same (fun n => ⟨rfl, rfl⟩) rfl rfl) (out := S.leftOf (nrm l)) (by omega) h2 (by
   unfold leftOf
   exact hd.sublist (List.Sublist.map tv (List.filter_sublist))) (fun x hx => by
   unfold leftOf at hx
   rw [List.mem_filter] at hx
   have h3 : ¬ S.val x < 0 := by simpa using hx.2
   have h4 : ¬ 0 < S.val x := fun h5 => by
    have : (nrm l).any (fun x => decide (0 < S.val x)) = true := List.any_eq_true.2 ⟨x, hx.1, by simpa using h5⟩
    rw [this] at hs
    cases hs.2
   show S.val x = 0
   omega) hr
  exact ⟨k.H, k.R, k.LL, k.cnt⟩
theorem Kept.addF {S : Sv} {F : (Nat → Bool) → Prop} {vars U V : Nat} (h : Kept F vars U V S) {l : List Int} (hra : Ra l) (hr : S.list.length < 1099511627776) (hck : chkF S.vars l = 0) : Kept (fun a => F a ∧ Sat1 a l) vars U (V + 1) (S.addF l).1 := by
 obtain ⟨k1, k2⟩ := h.inv.addF h.lev hra hr
 obtain ⟨m1, m2, m3, m4, m5⟩ := addF_more S l
 have hv := (h.inv.ok.addF hra hr).2
 have hs := addF_same h.inv h.cnt hra hr hck
 obtain ⟨Z, hZ⟩ := hs.R
 have hP : (S.addF l).1.Phi ≤ S.Phi := Phi_mono m4 (by rw [hs.LL]; have := zero_up hZ; omega)
 have h1 := h.used
 have h2 := h.list
 exact ⟨k1, k2, h.hc.mono h.inv.ok k1.ok hv (fun y => by rw [hs.H]) (fun e he => by rw [hZ]; exact List.mem_append_left _ he), h.kn.addF h.inv h.lev hra hr hck, hs.cnt, hv.trans h.vars, by rw [m1]; omega, by omega, by rw [m2]; exact h.bump, by rw [m4]; exact h.lim⟩
theorem layN_kept {vars U V : Nat} : ∀ (cls : List (List Int)) (S : Sv) (F : (Nat → Bool) → Prop), Kept F vars U V S → (∀ c ∈ cls, Ra c ∧ chkF vars c = 0) → V + cls.length < 1099511627776 → (layN cls S).2 = true ∧ Kept (fun a => F a ∧ FC cls a) vars U (V + cls.length) (layN cls S).1
 | [], S, F, h, _, _ => ⟨rfl, h.iff fun a => ⟨fun ha => ⟨ha, fun c hc => by cases hc⟩, fun ha => ha.1⟩⟩
 | c :: r, S, F, h, hc, hl => by
  obtain ⟨h1, h2⟩ := hc c List.mem_cons_self
  rw [layN, h.vars, if_pos h2]
  simp only [List.length_cons] at hl ⊢
  have hl1 := h.list
  have hk := h.addF h1 (by omega) (by rw [h.vars]; exact h2)
  have hk := layN_kept r _ _ hk (fun c hc2 => hc c (List.mem_cons_of_mem _ hc2)) (by omega)
  refine ⟨hk.1, ?_⟩
  rw [show V + (r.length + 1) = V + 1 + r.length by omega]
  refine hk.2.iff fun a => ⟨fun ⟨⟨h3, h4⟩, h5⟩ => ⟨h3, fun d hd => ?_⟩, fun ⟨h3, h4⟩ => ⟨⟨h3, h4 c List.mem_cons_self⟩, fun d hd => h4 d (List.mem_cons_of_mem _ hd)⟩⟩
  rcases List.mem_cons.1 hd with rfl | hd
  ·exact h4
  ·exact h5 d hd
end Sv
theorem chk_in {V : Nat} (hV : V ≤ 262143) {c : List Int} (hr : Ra c) (h : chkF V c = 0) : InR V c := (Sv.chk_rng hr h).2
theorem few_laid {V : Nat} {cls : List (List Int)} (hr : ∀ c ∈ cls, Ra c) (h : fewB V cls = true) :
  V ≤ 8 ∧ cls.length ≤ 1048576 ∧ (∀ c ∈ cls, chkF V c = 0) ∧ (∀ c ∈ cls, InR V c) ∧ (Sv.layN cls (Sv.new (V : Int))).2 = true ∧ Sv.Kept (FC cls) V 68722098184 68723146760 (Sv.layN cls (Sv.new (V : Int))).1 := by
 unfold fewB formB at h
 simp only [Bool.and_eq_true, decide_eq_true_eq, List.all_eq_true, beq_iff_eq] at h
 obtain ⟨h8, ⟨⟨⟨_, _⟩, hl⟩, hc⟩⟩ := h
 have h8 : V ≤ 8 := by omega
 obtain ⟨k1, k2⟩ := Sv.layN_kept (V := 68722098184) cls (Sv.new (V : Int)) _ (Sv.Kept.new V (by omega)) (fun c h => ⟨hr c h, hc c h⟩) (by omega)
 exact ⟨h8, hl, hc, fun c hcc => chk_in (by omega) (hr c hcc) (hc c hcc), k1, (k2.iff fun a => ⟨fun h => h.2, fun h => ⟨trivial, h⟩⟩).up (Nat.le_refl _) (by omega)⟩
end Go.Proofs.YtdpigdlknmcmlaaGreat
