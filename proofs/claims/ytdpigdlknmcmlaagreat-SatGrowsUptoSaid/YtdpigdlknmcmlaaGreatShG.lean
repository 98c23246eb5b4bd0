/-  -/
import Derived.Test.YtdpigdlknmcmlaaGreatShE
import Derived.Test.YtdpigdlknmcmlaaGreatShF
set_option linter.unusedVariables false
namespace Go.Proofs.YtdpigdlknmcmlaaGreat
open Go.RowKit
def Lrow (w : World) (A : Option Addr) (c : Nat) (hs : List Ls) : Prop := w.ownsRow 0 25 1 (.slice A hs.length c) hs.length (hs.map Ls.val)
namespace Lrow
variable {w w' : World} {A : Option Addr} {c : Nat} {hs : List Ls}
theorem form (h : Lrow w A c hs) : (A = none ∧ c = 0 ∧ hs = []) ∨ ∃ g, A = some ⟨g, 0, none⟩ ∧ g < w.heap.size ∧ hs.length ≤ c := by
 rcases h.2 with ⟨h1, h2⟩ | ⟨g, cap, cur, hv, _, hg, hn, hm, _⟩
 ·simp only [Value.slice.injEq] at h1
  exact .inl ⟨h1.1, h1.2.2, List.eq_nil_of_length_eq_zero h2⟩
 ·simp only [Value.slice.injEq, true_and] at hv
  obtain ⟨rfl, rfl⟩ := hv
  exact .inr ⟨g, rfl, At.lt (t := 25) hg, hn⟩
theorem fr {S : List Nat} (h : Lrow w A c hs) (hf : Fr S w w') (hd : ∀ k, k ∈ blks A → k ∉ S) : Lrow w' A c hs := hf.own h (fun k hk => hd k ((blks_own k).1 hk))
theorem keep (h : Lrow w A c hs) (hf : Fr [] w w') : Lrow w' A c hs := h.fr hf (fun k _ hm => by cases hm)
theorem nil (w : World) : Lrow w none 0 [] := World.ownsRow_nil w 0 _ 1
theorem rdl (h : Lrow w A c hs) (ok : ∀ j : Nat, j < hs.length → OkL w hs[j]!) : RdL w A hs := by
 refine ⟨fun h0 => ?_, ok⟩
 rcases h.form with ⟨_, _, rfl⟩ | ⟨g, rfl, h1, h2⟩
 ·simp at h0
 ·refine ⟨g, 0, rfl, fun j hj => ?_⟩
  rw [Nat.zero_add, World.ownsRow.cellAt h _ (by omega)]
  simp only [List.getElem?_map, List.getElem?_eq_getElem hj, Option.map_some, List.getElem!_eq_getElem?_getD, Option.getD_some]
end Lrow
theorem run_append_lists (w : World) (ty : TypeId) (A : Option Addr) (c : Nat) (hs : List Ls) (hown : Lrow w A c hs) (B : Option Addr) (d : Nat) (ms : List Ls) (hB : B = none → ms = [] ∧ d = 0)
  (hr : 0 < ms.length → ∃ b o, B = some ⟨b, o, none⟩ ∧ ∀ j : Nat, j < ms.length → w.cell? ⟨b, o + j, none⟩ = some (ms[j]!).val) (hlen : hs.length + ms.length ≤ 4194304) :
  ∃ A' cap w', (Builtin.append_ #[22, 22] ty #[.slice A hs.length c, .slice B ms.length d]).run Tryz.prog w = .ok (.slice A' (hs.length + ms.length) cap) w' ∧ Lrow w' A' cap (hs ++ ms) ∧ Fr (blks A) w w' ∧ (∀ k, k ∈ blks A' → k ∈ blks A ∨ k = w.heap.size) ∧ w.heap.size ≤ w'.heap.size := by
 cases B with
 | none =>
  obtain ⟨rfl, rfl⟩ := hB rfl
  obtain ⟨i0, hi, hz0, hz1, hz2⟩ := info_parts infoInts
  have hc : hs.length ≤ c := by
   rcases hown.form with ⟨_, _, rfl⟩ | ⟨_, _, _, h1⟩
   ·simp
   ·exact h1
  have hrun : (Builtin.append_ #[22, 22] ty #[.slice A hs.length c, .slice none 0 0]).run Tryz.prog w = .ok (.slice A hs.length c) w := by
   cases A <;> simp [Builtin.append_, run_underlying Tryz.underlying22, sizeOf, typeInfo, hi, Builtin.lenOf, hc, Builtin.firstCells, loadCells, storeCells]
  exact ⟨A, c, w, by rw [List.length_nil, Nat.add_zero]; exact hrun, by rw [List.append_nil]; exact hown, Fr.refl _ _, fun k hk => .inl hk, Nat.le_refl _⟩
 | some ad =>
  obtain ⟨A', cap, w', hrun, h2, h3, h4, h5, h6, h7⟩ := run_append_row w 22 ty 25 (.slice none 0 0) 1 24 Tryz.underlying22 infoInts rfl (by decide) A c hs.length (hs.map Ls.val) hown ad ms.length d (ms.map Ls.val) (by simp) (fun j u hu => by
   simp only [List.getElem?_map, Option.map_eq_some_iff] at hu
   obtain ⟨y, hy, rfl⟩ := hu
   have hj := (List.getElem?_eq_some_iff.1 hy).1
   obtain ⟨b, o, hbo, hx⟩ := hr (by omega)
   cases hbo
   have := hx j hj
   rw [List.getElem!_eq_getElem?_getD, hy] at this
   rw [addr_add]
   exact this) (by
    intro u hu
    obtain ⟨y, _, rfl⟩ := List.mem_map.1 hu
    rfl) (by unfold maxLen; omega) (by omega)
  refine ⟨A', cap, w', hrun, ?_, h3, h4, h5⟩
  unfold Lrow
  rw [List.length_append, List.map_append]
  exact h2
theorem wpList_append_lists (w : World) {ops : Array Oper} {rest : List Oper} {o : Oper} {a : Act} {Q : Exit → Act → World → Prop} (hgd : o.guard = none) (s x : Operand)
  (ho : o.op = .call { callee := .builtin .append, args := #[s, x], argTypes := #[22, 22] }) (A : Option Addr) (c : Nat) (hs : List Ls) (n : Nat) (hsv : a.eval s = .slice A n c) (hn : n = hs.length) (hown : Lrow w A c hs)
  (B : Option Addr) (d : Nat) (ms : List Ls) (m : Nat) (hx : a.eval x = .slice B m d) (hm : m = ms.length) (hB : B = none → ms = [] ∧ d = 0)
  (hr : 0 < ms.length → ∃ b o, B = some ⟨b, o, none⟩ ∧ ∀ j : Nat, j < ms.length → w.cell? ⟨b, o + j, none⟩ = some (ms[j]!).val) (hlen : hs.length + ms.length ≤ 4194304)
  (h : ∀ A' cap w', Lrow w' A' cap (hs ++ ms) → Fr (blks A) w w' → (∀ k, k ∈ blks A' → k ∈ blks A ∨ k = w.heap.size) → w.heap.size ≤ w'.heap.size → wpList Tryz.prog ops Q rest (a.put o.dst (.slice A' (n + m) cap)) w') :
  wpList Tryz.prog ops Q (o :: rest) a w := by
 subst hn hm
 refine wpList_plain hgd fun K hK => ?_
 obtain ⟨A', cap, w', hrun, h2, h3, h4, h5⟩ := run_append_lists w o.type A c hs hown B d ms hB hr hlen
 unfold Oper.wp execOp
 simp only [ho, resolve, invoke, builtin, Sem.run_bind, Sem.run_pure, Result.andThen_ok, List.map_toArray, List.map_cons, List.map_nil, hsv, hx, hrun]
 exact hK _ _ (h A' cap w' h2 h3 h4 h5)
theorem okl_app {w : World} {hs ms : List Ls} (h1 : ∀ j : Nat, j < hs.length → OkL w hs[j]!) (h2 : ∀ j : Nat, j < ms.length → OkL w ms[j]!) : ∀ j : Nat, j < (hs ++ ms).length → OkL w (hs ++ ms)[j]! := by
 intro j hj
 rw [List.length_append] at hj
 by_cases h : j < hs.length
 ·have := h1 j h
  simp only [List.getElem!_eq_getElem?_getD, List.getElem?_append_left h] at this ⊢
  exact this
 ·have := h2 (j - hs.length) (by omega)
  simp only [List.getElem!_eq_getElem?_getD, List.getElem?_append_right (show hs.length ≤ j by omega)] at this ⊢
  exact this
theorem mod3 (x : Int) : 0 ≤ (wrap64 (x.tmod 3 + 3)).tmod 3 ∧ (wrap64 (x.tmod 3 + 3)).tmod 3 ≤ 2 := by
 have h1 : x.tmod 3 < 3 := Int.tmod_lt_of_pos x (by omega)
 have h2 : -3 < x.tmod 3 := by
  have : (-x).tmod 3 < 3 := Int.tmod_lt_of_pos (-x) (by omega)
  rw [Int.neg_tmod] at this
  omega
 have h3 : wrap64 (x.tmod 3 + 3) = x.tmod 3 + 3 := by unfold wrap64; omega
 rw [h3]
 have h4 : (x.tmod 3 + 3).tmod 3 < 3 := Int.tmod_lt_of_pos _ (by omega)
 have h5 : 0 ≤ (x.tmod 3 + 3).tmod 3 := Int.tmod_nonneg _ (by omega)
 omega
set_option maxRecDepth 100000 in
set_option maxHeartbeats 16000000 in
theorem grows_calls (w : World) (vars : Int) (hv : R64 vars) (A : Option Addr) (c : Nat) (hs : List Ls) (h : RdL w A hs) (hA : A = none → hs = [] ∧ c = 0) (hl : hs.length ≤ 1048576) (hlr : ∀ c ∈ hs.map (·.l), Ra c) (n0 : Int) (hn0 : R64 n0)
  (B : Option Addr) (d : Nat) (l : List Int) (hb : OkL w ⟨B, d, l⟩) :
  Calls Tryz.prog 5 #[.agg #[.int .i64 vars, .slice A hs.length c], .int .i64 n0, .slice B l.length d] w fun e w' => e = .returned (.bool true) ∧ Fr [] w w' := by
 obtain ⟨w1, hw1⟩ : ∃ w1, w.alloc (.cells #[.int .i64 vars, .slice A hs.length c] 24) = w1 := ⟨_, rfl⟩
 have HF1 : Hid (Fr [] w w1) := hw1 ▸ box_fr' _ _
 have HS : Hid (At w1 w.heap.size 24 #[.int .i64 vars, .slice A hs.length c]) := hw1 ▸ At.new _ _ _
 have c0 := HS.out.cell 0
 have c1 := HS.out.cell 1
 simp at c0 c1
 have HC0 := Lib.hid c0
 have HC1 := Lib.hid c1
 have HH := Lib.hid (h.keep HF1.out)
 have HB := Lib.hid (hb.keep HF1.out)
 have HLR := Lib.hid hlr
 have HAN := Lib.hid hA
 have KAL := Lib.hid (alive_calls w1)
 obtain ⟨n, hn⟩ : ∃ n : Nat, (wrap64 (n0.tmod 3 + 3)).tmod 3 = n := ⟨((wrap64 (n0.tmod 3 + 3)).tmod 3).toNat, by have := (mod3 n0).1; omega⟩
 have hn2 : n ≤ 2 := by have := (mod3 n0).2; omega
 have HN := Lib.hid hn
 clear h hb hlr hA hn
 go_enter Tryz.func5, Tryz.ntmps5
 go_upto_region 1 with fail
 clear hw1
 go_wp2_with fail
 refine KAL.out.mono ?_
 clear KAL
 rintro e w2 ⟨rfl, hf2⟩
 have HF2 := Lib.hid hf2
 clear hf2
 have d0 := HF2.out.cellS HC0.out
 have d1 := HF2.out.cellS HC1.out
 clear c0 c1
 go_upto_region 4 with fail
 rw [HN.out]
 obtain ⟨gv, hgv⟩ : ∃ gv, IntKind.i64.wrap (vars + (n : Int)) = gv := ⟨_, rfl⟩
 have HGV := Lib.hid hgv
 go_upto_region 5 with fail
 obtain ⟨w3, hw3⟩ : ∃ w3, w2.alloc (.cells #[.int .i64 gv, .slice none 0 0] 24) = w3 := ⟨_, rfl⟩
 have HF3 : Hid (Fr [] w1 w3) := HF2.out.then_ (hw3 ▸ box_fr' _ _)
 have HS3 : Hid (At w3 w2.heap.size 24 #[.int .i64 gv, .slice none 0 0]) := hw3 ▸ At.new _ _ _
 have hsz3 : w3.heap.size = w2.heap.size + 1 := by rw [← hw3]; simp
 have HSZ3 := Lib.hid hsz3
 clear hsz3
 have g0 := HS3.out.cell 0
 have g1 := HS3.out.cell 1
 simp at g0 g1
 rw [hw3]
 clear hw3 hgv d0 d1
 have d1 := HF3.out.cellS HC1.out
 have HRL := Lib.hid ((HH.out.keep HF3.out).1)
 obtain ⟨m, hm⟩ : ∃ m, hs.length = m := ⟨_, rfl⟩
 have HM := Lib.hid hm
 rw [hm] at d1
 clear hm
 go_upto_region 6 with (at_builtin; (first
  | (
    refine wpList_append_lists _ rfl _ _ rfl none 0 [] 0 rfl rfl (Lrow.nil _) A c hs m rfl HM.out.symm HAN.out HRL.out (by rw [HM.out] at hl ⊢; simp; omega) ?_
    intro A4 cap4 w4 hr4 hf4 hn4 hz4
    have HR4 : Hid (Lrow w4 A4 cap4 hs) := hr4
    have HF4 : Hid (Fr [] w3 w4) := hf4
    have HN4 : Hid (∀ k, k ∈ blks A4 → k = w3.heap.size) := fun k hk => (hn4 k hk).resolve_left (by simp [blks])
    have HZ4 : Hid (w3.heap.size ≤ w4.heap.size) := hz4
    clear hr4 hf4 hn4 hz4)
  | (
    obtain ⟨w5, hw5⟩ : ∃ w5, w4.alloc (.cells #[.slice B l.length d] 25) = w5 := ⟨_, rfl⟩
    have HF5 : Hid (Fr [] w4 w5) := hw5 ▸ box_fr' _ _
    have HS5 : Hid (At w5 w4.heap.size 25 #[.slice B l.length d]) := hw5 ▸ At.new _ _ _
    rw [hw5]
    refine wpList_append_lists _ rfl _ _ rfl A4 cap4 hs m rfl HM.out.symm (HR4.out.keep HF5.out) (some ⟨w4.heap.size, 0, none⟩) 1 [⟨B, d, l⟩] 1 rfl rfl (fun h0 => by cases h0) (fun _ => ⟨_, 0, rfl, fun j hj => by
     have : j = 0 := by simpa using hj
     subst this
     have := HS5.out.cell 0
     simp at this
     exact this⟩) (by rw [HM.out] at hl ⊢; simp; omega) ?_
    intro A6 cap6 w6 hr6 hf6 hn6 hz6
    clear hw5
    have HR6 := Lib.hid hr6
    have hx6 : Fr [] w3 w6 := (HF4.out.then_ HF5.out).trans hf6 (fun k hk => .inr (by rw [HN4.out k hk]; omega))
    have HX6 := Lib.hid hx6
    have HN6 := Lib.hid hn6
    have HZ6 := Lib.hid hz6
    have g1' := hx6.cellS g1
    have z1' := (HS3.out.keep hx6).frozen 1
    clear hr6 hf6 hn6 hz6 hx6 g1)))
 obtain ⟨w7, hw7⟩ : ∃ w7, w6.setCell ⟨w2.heap.size, 1, none⟩ (.slice A6 (m + 1) cap6) = w7 := ⟨_, rfl⟩
 have hS7 : At w7 w2.heap.size 24 #[.int .i64 gv, .slice A6 (m + 1) cap6] := hw7 ▸ (HS3.out.keep HX6.out).set_ 1 _
 have g0 := hS7.cell 0
 have g1 := hS7.cell 1
 simp at g0 g1
 have HG0 := Lib.hid g0
 have HG1 := Lib.hid g1
 have HF7 : Hid (Fr [] w1 w7) := hw7 ▸ (HF3.out.then_ HX6.out).setCell (.inr HF2.out.size) _
 have hL7 : Lrow w7 A6 cap6 (hs ++ [⟨B, d, l⟩]) := hw7 ▸ HR6.out.fr (S := [w2.heap.size]) ((Fr.refl [w2.heap.size] w6).setCell (.inl (by simp)) _) (fun k hk hm => by
  have h1 : k = w2.heap.size := by simpa using hm
  have h2 := HSZ3.out
  have h3 := HZ4.out
  have h4 := HF5.out.size
  rcases HN6.out k hk with h5 | h5
  ·have := HN4.out k h5
   omega
  ·omega)
 rw [hw7]
 clear hw7 d1 g1' z1'
 obtain ⟨G, hG⟩ : ∃ G : List Ls, hs ++ [⟨B, d, l⟩] = G := ⟨_, rfl⟩
 have hGm : G.map (·.l) = hs.map (·.l) ++ [l] := by rw [← hG]; simp
 have hGl : G.length = m + 1 := by rw [← hG, ← HM.out]; simp
 rw [hG] at hL7
 have hRG : RdL w7 A6 G := hL7.rdl (by
  rw [← hG]
  exact okl_app (HH.out.keep HF7.out).2 (fun j hj => by
   have : j = 0 := by simpa using hj
   subst this
   exact HB.out.keep HF7.out))
 have HRG := Lib.hid hRG
 have HGM := Lib.hid hGm
 have HGL := Lib.hid hGl
 have hm1 : m ≤ 1048576 := by rw [← HM.out]; exact hl
 have hlen : m + 1 ≤ 1048577 := by omega
 clear hG hS7 hRG hGm hGl hL7 HRL HR4 HF4 HN4 HZ4 HF5 HS5 HR6 HX6 HN6 HZ6 HSZ3 HS3 HF3 HS
 have c0 := HF7.out.cellS HC0.out
 have c1 := HF7.out.cellS HC1.out
 rw [HM.out] at c1
 have KF := few_calls w7 vars A c hs (fun _ => HH.out.keep HF7.out) (by omega)
 obtain ⟨fb, hfb⟩ : ∃ fb, fewB vars (hs.map (·.l)) = fb := ⟨_, rfl⟩
 rw [hfb, HM.out] at KF
 have HFB := Lib.hid hfb
 have KF := Lib.hid KF
 have KGW := Lib.hid (fun W (hf : Fr [] w7 W) => few_calls W gv A6 cap6 G (fun _ => HRG.out.keep hf) (by rw [HGL.out]; omega))
 obtain ⟨gb, hgb⟩ : ∃ gb, fewB gv (G.map (·.l)) = gb := ⟨_, rfl⟩
 simp only [hgb, HGL.out] at KGW
 have HGB := Lib.hid hgb
 clear hfb hgb
 cases fb with
 | false =>
  go_wp2_with fail
  refine KF.out.mono ?_
  clear KF
  rintro e w8 ⟨rfl, hf8⟩
  have HF8 := Lib.hid (HF7.out.then_ hf8)
  clear hf8
  go_wp2_with fail
  go_ret
  exact ⟨rfl, HF1.out.then_ HF8.out⟩
 | true =>
  go_wp2_with fail
  refine KF.out.mono ?_
  clear KF
  rintro e w8 ⟨rfl, hf8⟩
  have HG0 := Lib.hid (hf8.cellS HG0.out)
  have HG1 := Lib.hid (hf8.cellS HG1.out)
  have HRG := Lib.hid (HRG.out.keep hf8)
  have KG := Lib.hid (KGW.out w8 hf8)
  have HF8 := Lib.hid (HF7.out.then_ hf8)
  clear hf8 KGW g0 g1
  have g0 := HG0.out
  have g1 := HG1.out
  go_wp2_with fail
  refine KG.out.mono ?_
  clear KG
  rintro e w9 ⟨rfl, hf9⟩
  have HG0 := Lib.hid (hf9.cellS HG0.out)
  have HG1 := Lib.hid (hf9.cellS HG1.out)
  have HRG := Lib.hid (HRG.out.keep hf9)
  have HF9 := Lib.hid (HF8.out.then_ hf9)
  clear hf9 g0 g1 c0 c1
  cases gb with
  | false =>
   go_wp2_with fail
   go_ret
   exact ⟨rfl, HF1.out.then_ HF9.out⟩
  | true =>
   have hvn : 0 ≤ vars ∧ vars ≤ 8 := by
    have := HFB.out
    unfold fewB formB at this
    simp only [Bool.and_eq_true, decide_eq_true_eq] at this
    have h1 := this.2.1.1.1
    have h2 := this.1
    omega
   obtain ⟨V, rfl⟩ : ∃ V : Nat, vars = (V : Int) := ⟨vars.toNat, by omega⟩
   have hgv : gv = ((V + n : Nat) : Int) := by rw [← HGV.out, IntKind.wrap_i64]; omega
   obtain ⟨f1, f2, f3, f4, f5, f6⟩ := few_laid HLR.out HFB.out
   have hGR : ∀ c ∈ G.map (·.l), Ra c := by
    rw [HGM.out]
    intro c hc
    rcases List.mem_append.1 hc with h | h
    ·exact HLR.out c h
    ·rw [List.mem_singleton.1 h]; exact HB.out.2.1
   rw [hgv] at HGB
   obtain ⟨e1, e2, e3, e4, -, -⟩ := few_laid hGR HGB.out
   have hchk : chkF ((V + n : Nat) : Int) l = 0 := e3 l (by rw [HGM.out]; simp)
   have HGI := Lib.hid e4
   have HCHK := Lib.hid hchk
   have HGVN := Lib.hid hgv
   clear hGR e2 e3 e4 hchk f3 f4 hgv
   have KL := laid_calls w9 (V : Int) hv A c hs (HH.out.keep HF9.out) (by omega)
   obtain ⟨RES, hRES⟩ : ∃ RES, Sv.layN (hs.map (·.l)) (Sv.new (V : Int)) = RES := ⟨_, rfl⟩
   rw [hRES, HM.out] at KL
   rw [hRES] at f5 f6
   have KL := Lib.hid KL
   obtain ⟨S0, b0⟩ := RES
   simp only at f5 f6
   subst f5
   have HK0 := Lib.hid f6
   clear f2 f6 hRES
   have d0 := HF9.out.cellS HC0.out
   have d1 := HF9.out.cellS HC1.out
   rw [HM.out] at d1
   go_upto_region 8 with fail
   go_wp2_with fail
   refine KL.out.mono ?_
   clear KL d0 d1
   rintro e w10 ⟨L1, rfl, o1⟩
   have HO1 := Lib.hid o1
   clear o1
   have KS := HO1.out.tells HK0.out f1 (by omega) (by omega) none 0 [] (HO1.out.far_old (fun h0 => by cases h0)) (fun x hx => by cases hx) (by simp) (by simp) (fun x hx => by cases hx)
   rw [List.length_nil] at KS
   have KS := Lib.hid KS
   go_upto_region 9 with fail
   go_wp2_with fail
   refine KS.out.mono ?_
   clear KS
   rintro e w11 ⟨S1, r1, q1, -, rfl, L2, a2, o2⟩
   have HK1 := Lib.hid q1.1
   have HO2 := Lib.hid o2
   have HA2 := Lib.hid a2
   have hgp : S1.growP n = (S1.fresh0.grow n, (V : Int), 0) := by
    have hv1 := q1.1.vars
    unfold Sv.growP
    rw [if_neg (by omega), hv1]
    rfl
   have KG : Calls _ _ _ _ _ := (growP_calls w11 L2 S1 o2.sv q1.1.inv.ok n).mono fun _ _ k => o2.of k
   rw [hgp, a2] at KG
   have KG := Lib.hid KG
   clear q1 o2 a2 hgp
   go_upto_region 10 with fail
   go_wp2_with fail
   refine KG.out.mono ?_
   clear KG
   rintro e w12 ⟨rfl, L3, a3, o3⟩
   have HK2 := Lib.hid (HK1.out.grow n (by omega))
   have HO3 := Lib.hid o3
   have HA3 := Lib.hid a3
   clear o3 a3
   have KV : ∀ W, Own w9 W L3 (S1.fresh0.grow n) → Calls Tryz.prog 15 #[.pointer (some ⟨L1.a, 0, none⟩)] W fun e w' => e = .returned (.int .i64 gv) ∧ W = w' := by
    intro W h
    have k := vars_calls W L3 _ h.sv
    rw [HA3.out] at k
    have e : ((S1.fresh0.grow n).vars : Int) = gv := by rw [HGVN.out, HK2.out.vars]
    rw [e] at k
    exact k
   have KA : ∀ W, Own w9 W L3 (S1.fresh0.grow n) → Calls Tryz.prog 11 #[.pointer (some ⟨L1.a, 0, none⟩), .slice B l.length d] W (OwP (.int .i64 0) ((S1.fresh0.grow n).addF l).1 L1.a w9) := by
    intro W h
    have k := h.add HK2.out.inv.ok B d l (h.far_old (HB.out.keep HF9.out).1) HB.out.2.1 (fun h0 => (HB.out.2.2.2 h0).2) (by have := HK2.out.list; omega) (by have := HK2.out.used; omega)
    rw [HA3.out, addF_snd2, HK2.out.vars, HCHK.out] at k
    exact k
   have KV := Lib.hid KV
   have KA := Lib.hid KA
   have wv := HGV.out
   go_upto_region 11 with fail
   refine wp_region_noPanic ?_
   refine wp_region_C (fun W : World => Own w9 W L3 (S1.fresh0.grow n)) 24 (by kernel_rfl) (HO3.out.keep (Fr.refl [] w12).drew) (fun hT0 => ?_)
   refine wpAnyC_take0 (i := 0) (oi := ?oir11u1) (v := ?vr11u1) ?hir11u1 (by kernel_rfl) (by kernel_rfl) (by kernel_rfl) (by kernel_rfl) ?hQr11u1 ?hwr11u1 ?hyr11u1 hT0 ?_
   case hir11u1 => (simp only [List.getElem?_toArray, List.getElem?_cons_zero]; rfl)
   case hQr11u1 => exact fun _ _ _ h => h
   case hwr11u1 => rfl
   case hyr11u1 => (intro w; go_simp <;> with_reducible rfl)
   try simp only [Act.put, List.setIfInBounds_toArray, List.set_cons_zero, List.set_cons_succ]
   refine wpAnyC_take0 (i := 1) (oi := ?oir11u2) (v := ?vr11u2) ?hir11u2 (by kernel_rfl) (by kernel_rfl) (by kernel_rfl) (by kernel_rfl) ?hQr11u2 ?hwr11u2 ?hyr11u2 (hT0.more 0) ?_
   case hir11u2 => (simp only [List.getElem?_toArray, List.getElem?_cons_succ, List.getElem?_cons_zero]; rfl)
   case hQr11u2 => exact fun _ _ _ h => h
   case hwr11u2 => rfl
   case hyr11u2 => (intro w; go_simp <;> with_reducible rfl)
   try simp only [Act.put, List.setIfInBounds_toArray, List.set_cons_zero, List.set_cons_succ]
   refine wpAnyC_take0 (i := 2) (oi := ?oir11u3) (v := ?vr11u3) ?hir11u3 (by kernel_rfl) (by kernel_rfl) (by kernel_rfl) (by kernel_rfl) ?hQr11u3 ?hwr11u3 ?hyr11u3 ((hT0.more 0).more 1) ?_
   case hir11u3 => (simp only [List.getElem?_toArray, List.getElem?_cons_succ, List.getElem?_cons_zero]; rfl)
   case hQr11u3 => exact fun _ _ _ h => h
   case hwr11u3 => rfl
   case hyr11u3 => (intro w; go_simp <;> with_reducible rfl)
   try simp only [Act.put, List.setIfInBounds_toArray, List.set_cons_zero, List.set_cons_succ]
   refine wpAnyC_take0 (i := 3) (oi := ?oir11u4) (v := ?vr11u4) ?hir11u4 (by kernel_rfl) (by kernel_rfl) (by kernel_rfl) (by kernel_rfl) ?hQr11u4 ?hwr11u4 ?hyr11u4 (((hT0.more 0).more 1).more 2) ?_
   case hir11u4 => (simp only [List.getElem?_toArray, List.getElem?_cons_succ, List.getElem?_cons_zero]; rfl)
   case hQr11u4 => exact fun _ _ _ h => h
   case hwr11u4 => rfl
   case hyr11u4 => (intro w; go_simp <;> with_reducible rfl)
   try simp only [Act.put, List.setIfInBounds_toArray, List.set_cons_zero, List.set_cons_succ]
   refine wpAnyC_take0 (i := 4) (oi := ?oir11u5) (v := ?vr11u5) ?hir11u5 (by kernel_rfl) (by kernel_rfl) (by kernel_rfl) (by kernel_rfl) ?hQr11u5 ?hwr11u5 ?hyr11u5 ((((hT0.more 0).more 1).more 2).more 3) ?_
   case hir11u5 => (simp only [List.getElem?_toArray, List.getElem?_cons_succ, List.getElem?_cons_zero]; rfl)
   case hQr11u5 => exact fun _ _ _ h => h
   case hwr11u5 => rfl
   case hyr11u5 => (intro w; go_simp <;> with_reducible rfl)
   try simp only [Act.put, List.setIfInBounds_toArray, List.set_cons_zero, List.set_cons_succ]
   refine wpAnyC_take0 (i := 5) (oi := ?oir11u6) (v := ?vr11u6) ?hir11u6 (by kernel_rfl) (by kernel_rfl) (by kernel_rfl) (by kernel_rfl) ?hQr11u6 ?hwr11u6 ?hyr11u6 (((((hT0.more 0).more 1).more 2).more 3).more 4) ?_
   case hir11u6 => (simp only [List.getElem?_toArray, List.getElem?_cons_succ, List.getElem?_cons_zero]; rfl)
   case hQr11u6 => exact fun _ _ _ h => h
   case hwr11u6 => rfl
   case hyr11u6 => (intro w; go_simp <;> with_reducible rfl)
   try simp only [Act.put, List.setIfInBounds_toArray, List.set_cons_zero, List.set_cons_succ]
   refine wpAnyC_take0 (i := 6) (oi := ?oir11u7) (v := ?vr11u7) ?hir11u7 (by kernel_rfl) (by kernel_rfl) (by kernel_rfl) (by kernel_rfl) ?hQr11u7 ?hwr11u7 ?hyr11u7 ((((((hT0.more 0).more 1).more 2).more 3).more 4).more 5) ?_
   case hir11u7 => (simp only [List.getElem?_toArray, List.getElem?_cons_succ, List.getElem?_cons_zero]; rfl)
   case hQr11u7 => exact fun _ _ _ h => h
   case hwr11u7 => rfl
   case hyr11u7 => (intro w; go_simp <;> with_reducible rfl)
   try simp only [Act.put, List.setIfInBounds_toArray, List.set_cons_zero, List.set_cons_succ]
   refine wpAnyC_take0 (i := 7) (oi := ?oir11u8) (v := ?vr11u8) ?hir11u8 (by kernel_rfl) (by kernel_rfl) (by kernel_rfl) (by kernel_rfl) ?hQr11u8 ?hwr11u8 ?hyr11u8 (((((((hT0.more 0).more 1).more 2).more 3).more 4).more 5).more 6) ?_
   case hir11u8 => (simp only [List.getElem?_toArray, List.getElem?_cons_succ, List.getElem?_cons_zero]; rfl)
   case hQr11u8 => exact fun _ _ _ h => h
   case hwr11u8 => rfl
   case hyr11u8 => (intro w; go_simp <;> with_reducible rfl)
   try simp only [Act.put, List.setIfInBounds_toArray, List.set_cons_zero, List.set_cons_succ]
   refine wpAnyC_take0 (i := 8) (oi := ?oir11u9) (v := ?vr11u9) ?hir11u9 (by kernel_rfl) (by kernel_rfl) (by kernel_rfl) (by kernel_rfl) ?hQr11u9 ?hwr11u9 ?hyr11u9 ((((((((hT0.more 0).more 1).more 2).more 3).more 4).more 5).more 6).more 7) ?_
   case hir11u9 => (simp only [List.getElem?_toArray, List.getElem?_cons_succ, List.getElem?_cons_zero]; rfl)
   case hQr11u9 => exact fun _ _ _ h => h
   case hwr11u9 => rfl
   case hyr11u9 => (intro w; go_simp <;> with_reducible rfl)
   try simp only [Act.put, List.setIfInBounds_toArray, List.set_cons_zero, List.set_cons_succ]
   refine wpAnyC_take (i := 9) (oi := ?oir11u10) (v := ?vr11u10) [9, 10, 11, 12, 20, 21, 24] ?hir11u10 (by kernel_rfl) (by kernel_rfl) (by kernel_rfl) (by kernel_rfl) ?hQr11u10 (.inl ⟨?hwr11u10, ?hyr11u10⟩) ((((((((((hT0.more 0).more 1).more 2).more 3).more 4).more 5).more 6).more 7).more 8).resolve_left (by decide)) ?_
   case hir11u10 => (simp only [List.getElem?_toArray, List.getElem?_cons_succ, List.getElem?_cons_zero]; rfl)
   case hQr11u10 => exact fun _ _ _ h => h
   case hwr11u10 => rfl
   case hyr11u10 => (intro w hSw; (have z0 := hSw.fr.cellS (HF9.out.cellS HC0.out)); go_simp <;> with_reducible rfl)
   try simp only [Act.put, List.setIfInBounds_toArray, List.set_cons_zero, List.set_cons_succ]
   refine wpAnyC_take0 (i := 10) (oi := ?oir11u11) (v := ?vr11u11) ?hir11u11 (by kernel_rfl) (by kernel_rfl) (by kernel_rfl) (by kernel_rfl) ?hQr11u11 ?hwr11u11 ?hyr11u11 ((((((((((hT0.more 0).more 1).more 2).more 3).more 4).more 5).more 6).more 7).more 8).more 9) ?_
   case hir11u11 => (simp only [List.getElem?_toArray, List.getElem?_cons_succ, List.getElem?_cons_zero]; rfl)
   case hQr11u11 => exact fun _ _ _ h => h
   case hwr11u11 => rfl
   case hyr11u11 => (intro w; go_simp <;> with_reducible rfl)
   try simp only [Act.put, List.setIfInBounds_toArray, List.set_cons_zero, List.set_cons_succ]
   refine wpAnyC_take0 (i := 11) (oi := ?oir11u12) (v := ?vr11u12) ?hir11u12 (by kernel_rfl) (by kernel_rfl) (by kernel_rfl) (by kernel_rfl) ?hQr11u12 ?hwr11u12 ?hyr11u12 (((((((((((hT0.more 0).more 1).more 2).more 3).more 4).more 5).more 6).more 7).more 8).more 9).more 10) ?_
   case hir11u12 => (simp only [List.getElem?_toArray, List.getElem?_cons_succ, List.getElem?_cons_zero]; rfl)
   case hQr11u12 => exact fun _ _ _ h => h
   case hwr11u12 => rfl
   case hyr11u12 => (intro w; go_simp <;> with_reducible rfl)
   try simp only [Act.put, List.setIfInBounds_toArray, List.set_cons_zero, List.set_cons_succ]
   refine wpAnyC_take0 (i := 12) (oi := ?oir11u13) (v := ?vr11u13) ?hir11u13 (by kernel_rfl) (by kernel_rfl) (by kernel_rfl) (by kernel_rfl) ?hQr11u13 ?hwr11u13 ?hyr11u13 ((((((((((((hT0.more 0).more 1).more 2).more 3).more 4).more 5).more 6).more 7).more 8).more 9).more 10).more 11) ?_
   case hir11u13 => (simp only [List.getElem?_toArray, List.getElem?_cons_succ, List.getElem?_cons_zero]; rfl)
   case hQr11u13 => exact fun _ _ _ h => h
   case hwr11u13 => rfl
   case hyr11u13 => (intro w; go_simp <;> with_reducible rfl)
   try simp only [Act.put, List.setIfInBounds_toArray, List.set_cons_zero, List.set_cons_succ]
   refine wpAnyC_take0 (i := 13) (oi := ?oir11u14) (v := ?vr11u14) ?hir11u14 (by kernel_rfl) (by kernel_rfl) (by kernel_rfl) (by kernel_rfl) ?hQr11u14 ?hwr11u14 ?hyr11u14 (((((((((((((hT0.more 0).more 1).more 2).more 3).more 4).more 5).more 6).more 7).more 8).more 9).more 10).more 11).more 12) ?_
   case hir11u14 => (simp only [List.getElem?_toArray, List.getElem?_cons_succ, List.getElem?_cons_zero]; rfl)
   case hQr11u14 => exact fun _ _ _ h => h
   case hwr11u14 => rfl
   case hyr11u14 => (intro w; go_simp <;> with_reducible rfl)
   try simp only [Act.put, List.setIfInBounds_toArray, List.set_cons_zero, List.set_cons_succ]
   refine wpAnyC_take0 (i := 15) (oi := ?oir11u15) (v := ?vr11u15) ?hir11u15 (by kernel_rfl) (by kernel_rfl) (by kernel_rfl) (by kernel_rfl) ?hQr11u15 ?hwr11u15 ?hyr11u15 ((((((((((((((hT0.more 0).more 1).more 2).more 3).more 4).more 5).more 6).more 7).more 8).more 9).more 10).more 11).more 12).more 13) ?_
   case hir11u15 => (simp only [List.getElem?_toArray, List.getElem?_cons_succ, List.getElem?_cons_zero]; rfl)
   case hQr11u15 => exact fun _ _ _ h => h
   case hwr11u15 => rfl
   case hyr11u15 => (intro w; go_simp <;> with_reducible rfl)
   try simp only [Act.put, List.setIfInBounds_toArray, List.set_cons_zero, List.set_cons_succ]
   refine wpAnyC_take (i := 16) (oi := ?oir11u16) (v := ?vr11u16) [16, 18, 19, 20, 21, 24] ?hir11u16 (by kernel_rfl) (by kernel_rfl) (by kernel_rfl) (by kernel_rfl) ?hQr11u16 (.inl ⟨?hwr11u16, ?hyr11u16⟩) ((((((((((((((((hT0.more 0).more 1).more 2).more 3).more 4).more 5).more 6).more 7).more 8).more 9).more 10).more 11).more 12).more 13).more 15).resolve_left (by decide)) ?_
   case hir11u16 => (simp only [List.getElem?_toArray, List.getElem?_cons_succ, List.getElem?_cons_zero]; rfl)
   case hQr11u16 => exact fun _ _ _ h => h
   case hwr11u16 => rfl
   case hyr11u16 => (intro w hSw; (have z0 := hSw.fr.cellS (HF9.out.cellS HC0.out)); go_simp <;> with_reducible rfl)
   try simp only [Act.put, List.setIfInBounds_toArray, List.set_cons_zero, List.set_cons_succ]
   refine wpAnyC_take0 (i := 17) (oi := ?oir11u17) (v := ?vr11u17) ?hir11u17 (by kernel_rfl) (by kernel_rfl) (by kernel_rfl) (by kernel_rfl) ?hQr11u17 ?hwr11u17 ?hyr11u17 ((((((((((((((((hT0.more 0).more 1).more 2).more 3).more 4).more 5).more 6).more 7).more 8).more 9).more 10).more 11).more 12).more 13).more 15).more 16) ?_
   case hir11u17 => (simp only [List.getElem?_toArray, List.getElem?_cons_succ, List.getElem?_cons_zero]; rfl)
   case hQr11u17 => exact fun _ _ _ h => h
   case hwr11u17 => rfl
   case hyr11u17 => (intro w; go_simp <;> with_reducible rfl)
   try simp only [Act.put, List.setIfInBounds_toArray, List.set_cons_zero, List.set_cons_succ]
   refine wpAnyC_take0 (i := 18) (oi := ?oir11u18) (v := ?vr11u18) ?hir11u18 (by kernel_rfl) (by kernel_rfl) (by kernel_rfl) (by kernel_rfl) ?hQr11u18 ?hwr11u18 ?hyr11u18 (((((((((((((((((hT0.more 0).more 1).more 2).more 3).more 4).more 5).more 6).more 7).more 8).more 9).more 10).more 11).more 12).more 13).more 15).more 16).more 17) ?_
   case hir11u18 => (simp only [List.getElem?_toArray, List.getElem?_cons_succ, List.getElem?_cons_zero]; rfl)
   case hQr11u18 => exact fun _ _ _ h => h
   case hwr11u18 => rfl
   case hyr11u18 => (intro w; go_simp <;> with_reducible rfl)
   try simp only [Act.put, List.setIfInBounds_toArray, List.set_cons_zero, List.set_cons_succ]
   have hSx := ((((((((((((((((((hT0.more 0).more 1).more 2).more 3).more 4).more 5).more 6).more 7).more 8).more 9).more 10).more 11).more 12).more 13).more 15).more 16).more 17).more 18).resolve_left (by decide)
   refine wpAnyC_ready (rs := [14]) (by kernel_rfl) (by simp) ?_
   refine ReadyC.cons (o := ?or11u19) ?hor11u19 ?hstepr11u19 ?_
   case hor11u19 => (simp only [List.getElem?_toArray, List.getElem?_cons_succ, List.getElem?_cons_zero]; rfl)
   case hstepr11u19 =>
    intro K hK
    (go_simp; refine (KV.out _ hSx).mono ?_; rintro e w13 ⟨rfl, rfl⟩; dsimp only)
    refine hK.out _ _ (.inr ?_) (fun hHeld => ?_)
    ·exact hSx
    have hT19 := hHeld
    clear hHeld
    clear hK K
    try simp only [Act.put, List.setIfInBounds_toArray, List.set_cons_zero, List.set_cons_succ]
    refine wpAnyC_take0 (i := 19) (oi := ?oir11u20) (v := ?vr11u20) ?hir11u20 (by kernel_rfl) (by kernel_rfl) (by kernel_rfl) (by kernel_rfl) ?hQr11u20 ?hwr11u20 ?hyr11u20 hT19 ?_
    case hir11u20 => (simp only [List.getElem?_toArray, List.getElem?_cons_succ, List.getElem?_cons_zero]; rfl)
    case hQr11u20 => exact fun _ _ _ h => h
    case hwr11u20 => rfl
    case hyr11u20 => (intro w; go_simp <;> with_reducible rfl)
    try simp only [Act.put, List.setIfInBounds_toArray, List.set_cons_zero, List.set_cons_succ]
    refine wpAnyC_take0 (i := 20) (oi := ?oir11u21) (v := ?vr11u21) ?hir11u21 (by kernel_rfl) (by kernel_rfl) (by kernel_rfl) (by kernel_rfl) ?hQr11u21 ?hwr11u21 ?hyr11u21 (hT19.more 19) ?_
    case hir11u21 => (simp only [List.getElem?_toArray, List.getElem?_cons_succ, List.getElem?_cons_zero]; rfl)
    case hQr11u21 => exact fun _ _ _ h => h
    case hwr11u21 => rfl
    case hyr11u21 => (intro w; go_simp <;> with_reducible rfl)
    try simp only [Act.put, List.setIfInBounds_toArray, List.set_cons_zero, List.set_cons_succ]
    refine wpAnyC_take0 (i := 21) (oi := ?oir11u22) (v := ?vr11u22) ?hir11u22 (by kernel_rfl) (by kernel_rfl) (by kernel_rfl) (by kernel_rfl) ?hQr11u22 ?hwr11u22 ?hyr11u22 ((hT19.more 19).more 20) ?_
    case hir11u22 => (simp only [List.getElem?_toArray, List.getElem?_cons_succ, List.getElem?_cons_zero]; rfl)
    case hQr11u22 => exact fun _ _ _ h => h
    case hwr11u22 => rfl
    case hyr11u22 => (intro w; go_simp <;> with_reducible rfl)
    try simp only [Act.put, List.setIfInBounds_toArray, List.set_cons_zero, List.set_cons_succ]
    refine wpAnyC_take0 (i := 22) (oi := ?oir11u23) (v := ?vr11u23) ?hir11u23 (by kernel_rfl) (by kernel_rfl) (by kernel_rfl) (by kernel_rfl) ?hQr11u23 ?hwr11u23 ?hyr11u23 (((hT19.more 19).more 20).more 21) ?_
    case hir11u23 => (simp only [List.getElem?_toArray, List.getElem?_cons_succ, List.getElem?_cons_zero]; rfl)
    case hQr11u23 => exact fun _ _ _ h => h
    case hwr11u23 => rfl
    case hyr11u23 => (intro w; go_simp <;> with_reducible rfl)
    try simp only [Act.put, List.setIfInBounds_toArray, List.set_cons_zero, List.set_cons_succ]
    refine wpAnyC_take0 (i := 23) (oi := ?oir11u24) (v := ?vr11u24) ?hir11u24 (by kernel_rfl) (by kernel_rfl) (by kernel_rfl) (by kernel_rfl) ?hQr11u24 ?hwr11u24 ?hyr11u24 ((((hT19.more 19).more 20).more 21).more 22) ?_
    case hir11u24 => (simp only [List.getElem?_toArray, List.getElem?_cons_succ, List.getElem?_cons_zero]; rfl)
    case hQr11u24 => exact fun _ _ _ h => h
    case hwr11u24 => rfl
    case hyr11u24 => (intro w; go_simp <;> with_reducible rfl)
    try simp only [Act.put, List.setIfInBounds_toArray, List.set_cons_zero, List.set_cons_succ]
    have hSx := (((((hT19.more 19).more 20).more 21).more 22).more 23).resolve_left (by decide)
    refine wpAnyC_ready (rs := [24]) (by kernel_rfl) (by simp) ?_
    refine ReadyC.cons (o := ?or11u25) ?hor11u25 ?hstepr11u25 ?_
    case hor11u25 => (simp only [List.getElem?_toArray, List.getElem?_cons_succ, List.getElem?_cons_zero]; rfl)
    case hstepr11u25 =>
     intro K hK
     (go_simp; refine (KA.out _ hSx).mono ?_; rintro e w14 ⟨rfl, L4, a4, o4⟩; dsimp only)
     refine hK.out _ _ (.inl rfl) (fun hHeld => ?_)
     have hT25 := hHeld
     clear hHeld
     clear hK K
     try simp only [Act.put, List.setIfInBounds_toArray, List.set_cons_zero, List.set_cons_succ]
     refine wpAnyC_take0 (i := 25) (oi := ?oir11u26) (v := ?vr11u26) ?hir11u26 (by kernel_rfl) (by kernel_rfl) (by kernel_rfl) (by kernel_rfl) ?hQr11u26 ?hwr11u26 ?hyr11u26 hT25 ?_
     case hir11u26 => (simp only [List.getElem?_toArray, List.getElem?_cons_succ, List.getElem?_cons_zero]; rfl)
     case hQr11u26 => exact fun _ _ _ h => h
     case hwr11u26 => rfl
     case hyr11u26 => (intro w; go_simp <;> with_reducible rfl)
     try simp only [Act.put, List.setIfInBounds_toArray, List.set_cons_zero, List.set_cons_succ]
     refine wpAnyC_take0 (i := 26) (oi := ?oir11u27) (v := ?vr11u27) ?hir11u27 (by kernel_rfl) (by kernel_rfl) (by kernel_rfl) (by kernel_rfl) ?hQr11u27 ?hwr11u27 ?hyr11u27 (hT25.more 25) ?_
     case hir11u27 => (simp only [List.getElem?_toArray, List.getElem?_cons_succ, List.getElem?_cons_zero]; rfl)
     case hQr11u27 => exact fun _ _ _ h => h
     case hwr11u27 => rfl
     case hyr11u27 => (intro w; go_simp <;> with_reducible rfl)
     try simp only [Act.put, List.setIfInBounds_toArray, List.set_cons_zero, List.set_cons_succ]
     refine wpAnyC_done (by kernel_rfl) ?_ _
     refine NoPanic.normal ?_
     have HO4 := Lib.hid o4
     have HA4 := Lib.hid a4
     have hK3 := HK2.out.addF HB.out.2.1 (by have := HK2.out.list; omega) (by rw [HK2.out.vars]; exact HCHK.out)
     have HK3 := hK3.iff (G := FC (G.map (·.l))) (fun a => by
      rw [HGM.out]
      refine ⟨fun h c hc => ?_, fun h => ⟨fun c hc => h c (List.mem_append.2 (.inl hc)), h l (by simp)⟩⟩
      rcases List.mem_append.1 hc with h1 | h1
      ·exact h.1 c h1
      ·rw [List.mem_singleton.1 h1]; exact h.2)
     clear hK3 o4 a4
     have o4' := HO4.out.keep (Fr.refl [] w14).drew
     have KS := o4'.tells HK3 e1 (by omega) (by omega) none 0 [] (o4'.far_old (fun h0 => by cases h0)) (fun x hx => by cases hx) (by simp) (by simp) (fun x hx => by cases hx)
     rw [List.length_nil, HA4.out] at KS
     have KS := Lib.hid KS
     go_upto_region 13 with fail
     refine wp_region_noPanic ?_
     refine wp_region_C (fun W : World => Fr [] w9 W) 4 (by kernel_rfl) (HO4.out.fr.drew) (fun hT0 => ?_)
     refine wpAnyC_take0 (i := 0) (oi := ?oizr13u1) (v := ?vzr13u1) ?hizr13u1 (by kernel_rfl) (by kernel_rfl) (by kernel_rfl) (by kernel_rfl) ?hQzr13u1 ?hwzr13u1 ?hyzr13u1 hT0 ?_
     case hizr13u1 => (simp only [List.getElem?_toArray, List.getElem?_cons_zero]; rfl)
     case hQzr13u1 => exact fun _ _ _ h => h
     case hwzr13u1 => rfl
     case hyzr13u1 => (intro w; go_simp <;> with_reducible rfl)
     try simp only [Act.put, List.setIfInBounds_toArray, List.set_cons_zero, List.set_cons_succ]
     refine wpAnyC_take (i := 1) (oi := ?oizr13u2) (v := ?vzr13u2) [1, 4] ?hizr13u2 (by kernel_rfl) (by kernel_rfl) (by kernel_rfl) (by kernel_rfl) ?hQzr13u2 (.inl ⟨?hwzr13u2, ?hyzr13u2⟩) ((hT0.more 0).resolve_left (by decide)) ?_
     case hizr13u2 => (simp only [List.getElem?_toArray, List.getElem?_cons_succ, List.getElem?_cons_zero]; rfl)
     case hQzr13u2 => exact fun _ _ _ h => h
     case hwzr13u2 => rfl
     case hyzr13u2 => (intro w hSw; (have z0 := hSw.cellS HG0.out; have z1 := hSw.cellS HG1.out); go_simp <;> with_reducible rfl)
     try simp only [Act.put, List.setIfInBounds_toArray, List.set_cons_zero, List.set_cons_succ]
     refine wpAnyC_take0 (i := 2) (oi := ?oizr13u3) (v := ?vzr13u3) ?hizr13u3 (by kernel_rfl) (by kernel_rfl) (by kernel_rfl) (by kernel_rfl) ?hQzr13u3 ?hwzr13u3 ?hyzr13u3 ((hT0.more 0).more 1) ?_
     case hizr13u3 => (simp only [List.getElem?_toArray, List.getElem?_cons_succ, List.getElem?_cons_zero]; rfl)
     case hQzr13u3 => exact fun _ _ _ h => h
     case hwzr13u3 => rfl
     case hyzr13u3 => (intro w; go_simp <;> with_reducible rfl)
     try simp only [Act.put, List.setIfInBounds_toArray, List.set_cons_zero, List.set_cons_succ]
     have hSx := (((hT0.more 0).more 1).more 2).resolve_left (by decide)
     refine wpAnyC_ready (rs := [3]) (by kernel_rfl) (by simp) ?_
     refine ReadyC.cons (o := ?ozr13u4) ?hozr13u4 ?hstepzr13u4 ?_
     case hozr13u4 => (simp only [List.getElem?_toArray, List.getElem?_cons_succ, List.getElem?_cons_zero]; rfl)
     case hstepzr13u4 =>
      intro K hK
      (go_simp; refine KS.out.mono ?_; rintro e w15 ⟨S4, r2, q2, -, rfl, L5, a5, o5⟩; dsimp only)
      refine hK.out _ _ (.inr ?_) (fun hHeld => ?_)
      ·exact o5.fr
      have hT4 := hHeld
      clear hHeld
      clear hK K
      try simp only [Act.put, List.setIfInBounds_toArray, List.set_cons_zero, List.set_cons_succ]
      have hSx := hT4.resolve_left (by decide)
      refine wpAnyC_ready (rs := [4]) (by kernel_rfl) (by simp) ?_
      refine ReadyC.cons (o := ?ozr13u5) ?hozr13u5 ?hstepzr13u5 ?_
      case hozr13u5 => (simp only [List.getElem?_toArray, List.getElem?_cons_succ, List.getElem?_cons_zero]; rfl)
      case hstepzr13u5 =>
       intro K hK
       (have KR := right_calls w15 L5 S4 o5.sv (V + n) A6 cap6 G (HRG.out.keep o5.fr) (by rw [HGL.out]; omega) none 0 [] (fun h0 => by cases h0) (fun x hx => by cases hx) (by simp) r2 (EndQ_rt e1 HGI.out (fun x hx => by cases hx) q2); rw [HGL.out, ← HGVN.out, a5, List.length_nil] at KR; go_simp; refine KR.mono ?_; rintro e w16 ⟨rfl, hf16⟩; dsimp only)
       refine hK.out _ _ (.inl rfl) (fun hHeld => ?_)
       have hT5 := hHeld
       clear hHeld
       clear hK K
       try simp only [Act.put, List.setIfInBounds_toArray, List.set_cons_zero, List.set_cons_succ]
       refine wpAnyC_ready (rs := [5]) (by kernel_rfl) (by simp) ?_
       refine ReadyC.cons (o := ?ozr13u6) ?hozr13u6 ?hstepzr13u6 ?_
       case hozr13u6 => (simp only [List.getElem?_toArray, List.getElem?_cons_succ, List.getElem?_cons_zero]; rfl)
       case hstepzr13u6 =>
        intro K hK
        go_simp
        refine hK.out _ _ (.inl rfl) (fun hHeld => ?_)
        have hT6 := hHeld
        clear hHeld
        clear hK K
        try simp only [Act.put, List.setIfInBounds_toArray, List.set_cons_zero, List.set_cons_succ]
        refine wpAnyC_done (by kernel_rfl) ?_ _
        refine NoPanic.normal ?_
        go_wp2_with fail
        go_ret
        exact ⟨rfl, HF1.out.then_ (HF9.out.then_ (o5.fr.then_ hf16))⟩
       exact ReadyC.nil
      exact ReadyC.nil
     exact ReadyC.nil
    exact ReadyC.nil
   exact ReadyC.nil
end Go.Proofs.YtdpigdlknmcmlaaGreat
namespace Go.Proofs.YtdpigdlknmcmlaaGreat
open Go.ChangeShapes Go.WideShapes Go.ChangeAt Go.RowKit Go.Deep Go.Joins
section
variable {H : Type} {enc : TypeId × Value → H} {w : World} {base : Nat} {spare : Nat → Bool} {held : Bool}
theorem lists_small2 {n : Nat} {cs : List Value} {x : DataW H × List MemPlace} (h : DataW.trod enc Tryz.prog w base spare held n 22 cs = some x) (hb : Rows.uptoBulk x.1 ≤ 1048576) :
  ∃ (A : Option Addr) (c : Nat) (hs : List Ls), cs = [.slice A hs.length c] ∧ RdL w A hs ∧ hs.length ≤ Rows.uptoBulk x.1 ∧ (A = none → hs = [] ∧ c = 0) := by
 obtain ⟨A, c, hs, e1, h1, h2, -⟩ := lists_small h hb
 refine ⟨A, c, hs, e1, h1, h2, fun hA => ?_⟩
 rcases open_slice1 Tryz.underlying22 cellsOf_ints h with ⟨h0, _⟩ | ⟨a, len, cap, m, n', V, D, Pl, h0, _⟩
 ·rw [e1] at h0
  simp only [List.cons.injEq, Value.slice.injEq, and_true] at h0
  exact ⟨List.eq_nil_of_length_eq_zero h0.2.1, h0.2.2⟩
 ·rw [e1] at h0
  simp only [List.cons.injEq, Value.slice.injEq, and_true] at h0
  rw [hA] at h0
  cases h0.1
theorem formula_small2 {n : Nat} {cs : List Value} {x : DataW H × List MemPlace} (h : DataW.trod enc Tryz.prog w base spare held n 24 cs = some x) (hb : Rows.uptoBulk x.1 ≤ 1048576) :
  ∃ (v : Int) (A : Option Addr) (c : Nat) (hs : List Ls), cs = [.int .i64 v, .slice A hs.length c] ∧ R64 v ∧ RdL w A hs ∧ hs.length ≤ 1048576 ∧ (A = none → hs = [] ∧ c = 0) := by
 obtain ⟨y0, y1, n2, hxd, hlen, g0, g1⟩ := trod_struct2 Tryz.underlying24 h
 rw [cellsOf_formula] at hlen
 rw [hxd] at hb
 simp only [Rows.uptoBulk, Rows.uptoBulkAll] at hb
 simp only [cellsOf_int, cellsOf_lists] at g0 g1
 match cs, hlen with
 | [v0, v1], _ =>
  simp only [List.drop_zero, List.drop_succ_cons, List.take_succ_cons, List.take_zero] at g0 g1
  obtain ⟨z0, e0, _, w0⟩ := DataW.trod_int Tryz.underlying3 g0
  obtain ⟨A, c, hs, e1, h1, h2, h3⟩ := lists_small2 g1 (by omega)
  simp only [List.cons.injEq, and_true] at e0 e1
  subst e0 e1
  obtain ⟨r1, r2⟩ := Go.Joins.in64_of_wf w0
  exact ⟨z0, A, c, hs, rfl, ⟨r1, r2⟩, h1, by omega, h3⟩
end
end Go.Proofs.YtdpigdlknmcmlaaGreat
