/-  -/
import Derived.Test.YtdpigdlknmcmlaaGreatShE
import Derived.Test.YtdpigdlknmcmlaaGreatShF
set_option linter.unusedVariables false
namespace Go.Proofs.YtdpigdlknmcmlaaGreat
open Go.RowKit
def Lrow (w : World) (A : Option Addr) (c : Nat) (hs : List Ls) : Prop := w.ownsRow 0 25 1 (.slice A hs.length c) hs.length (hs.map Ls.val)
namespace Lrow
variable {w w' : World} {A : Option Addr} {c : Nat} {hs : List Ls}
theorem form (h : Lrow w A c hs) : (A = none ∧ c = 0 ∧ hs = []) ∨ ∃ g, A = some ⟨g, 0, none⟩ ∧ g < w.heap.size ∧ hs.length ≤ c := by
 rcases h.2 with ⟨h1, h2⟩ | ⟨g, cap, cur, hv, _, hg, hn, hm, _⟩
 ·simp only [Value.slice.injEq] at h1
  exact .inl ⟨h1.1, h1.2.2, List.eq_nil_of_length_eq_zero h2⟩
 ·simp only [Value.slice.injEq, true_and] at hv
  obtain ⟨rfl, rfl⟩ := hv
  exact .inr ⟨g, rfl, At.lt (t := 25) hg, hn⟩
theorem fr {S : List Nat} (h : Lrow w A c hs) (hf : Fr S w w') (hd : ∀ k, k ∈ blks A → k ∉ S) : Lrow w' A c hs := hf.own h (fun k hk => hd k ((blks_own k).1 hk))
theorem nil (w : World) : Lrow w none 0 [] := World.ownsRow_nil w 0 _ 1
theorem rdl (h : Lrow w A c hs) (ok : ∀ j : Nat, j < hs.length → OkL w hs[j]!) : RdL w A hs := by
 refine ⟨fun h0 => ?_, ok⟩
 rcases h.form with ⟨_, _, rfl⟩ | ⟨g, rfl, h1, h2⟩
 ·simp at h0
 ·refine ⟨g, 0, rfl, fun j hj => ?_⟩
  rw [Nat.zero_add, World.ownsRow.cellAt h _ (by omega)]
  simp only [List.getElem?_map, List.getElem?_eq_getElem hj, Option.map_some, List.getElem!_eq_getElem?_getD, Option.getD_some]
end Lrow
theorem run_append_lists (w : World) (ty : TypeId) (A : Option Addr) (c : Nat) (hs : List Ls) (hown : Lrow w A c hs) (B : Option Addr) (d : Nat) (ms : List Ls) (hB : B = none → ms = [] ∧ d = 0)
  (hr : 0 < ms.length → ∃ b o, B = some ⟨b, o, none⟩ ∧ ∀ j : Nat, j < ms.length → w.cell? ⟨b, o + j, none⟩ = some (ms[j]!).val) (hlen : hs.length + ms.length ≤ 4194304) :
  ∃ A' cap w', (Builtin.append_ #[22, 22] ty #[.slice A hs.length c, .slice B ms.length d]).run Tryz.prog w = .ok (.slice A' (hs.length + ms.length) cap) w' ∧ Lrow w' A' cap (hs ++ ms) ∧ Fr (blks A) w w' ∧ (∀ k, k ∈ blks A' → k ∈ blks A ∨ k = w.heap.size) ∧ w.heap.size ≤ w'.heap.size := by
 cases B with
 | none =>
  obtain ⟨rfl, rfl⟩ := hB rfl
  obtain ⟨i0, hi, hz0, hz1, hz2⟩ := info_parts infoInts
  have hc : hs.length ≤ c := by
   rcases hown.form with ⟨_, _, rfl⟩ | ⟨_, _, _, h1⟩
   ·simp
   ·exact h1
  have hrun : (Builtin.append_ #[22, 22] ty #[.slice A hs.length c, .slice none 0 0]).run Tryz.prog w = .ok (.slice A hs.length c) w := by
   cases A <;> simp [Builtin.append_, run_underlying Tryz.underlying22, sizeOf, typeInfo, hi, Builtin.lenOf, hc, Builtin.firstCells, loadCells, storeCells]
  exact ⟨A, c, w, by rw [List.length_nil, Nat.add_zero]; exact hrun, by rw [List.append_nil]; exact hown, Fr.refl _ _, fun k hk => .inl hk, Nat.le_refl _⟩
 | some ad =>
  obtain ⟨A', cap, w', hrun, h2, h3, h4, h5, h6, h7⟩ := run_append_row w 22 ty 25 (.slice none 0 0) 1 24 Tryz.underlying22 infoInts rfl (by decide) A c hs.length (hs.map Ls.val) hown ad ms.length d (ms.map Ls.val) (by simp) (fun j u hu => by
   simp only [List.getElem?_map, Option.map_eq_some_iff] at hu
   obtain ⟨y, hy, rfl⟩ := hu
   have hj := (List.getElem?_eq_some_iff.1 hy).1
   obtain ⟨b, o, hbo, hx⟩ := hr (by omega)
   cases hbo
   have := hx j hj
   rw [List.getElem!_eq_getElem?_getD, hy] at this
   rw [addr_add]
   exact this) (by
    intro u hu
    obtain ⟨y, _, rfl⟩ := List.mem_map.1 hu
    rfl) (by unfold maxLen; omega) (by omega)
  refine ⟨A', cap, w', hrun, ?_, h3, h4, h5⟩
  unfold Lrow
  rw [List.length_append, List.map_append]
  exact h2
theorem wpList_append_lists (w : World) {ops : Array Oper} {rest : List Oper} {o : Oper} {a : Act} {Q : Exit → Act → World → Prop} (hgd : o.guard = none) (s x : Operand)
  (ho : o.op = .call { callee := .builtin .append, args := #[s, x], argTypes := #[22, 22] }) (A : Option Addr) (c : Nat) (hs : List Ls) (n : Nat) (hsv : a.eval s = .slice A n c) (hn : n = hs.length) (hown : Lrow w A c hs)
  (B : Option Addr) (d : Nat) (ms : List Ls) (m : Nat) (hx : a.eval x = .slice B m d) (hm : m = ms.length) (hB : B = none → ms = [] ∧ d = 0)
  (hr : 0 < ms.length → ∃ b o, B = some ⟨b, o, none⟩ ∧ ∀ j : Nat, j < ms.length → w.cell? ⟨b, o + j, none⟩ = some (ms[j]!).val) (hlen : hs.length + ms.length ≤ 4194304)
  (h : ∀ A' cap w', Lrow w' A' cap (hs ++ ms) → Fr (blks A) w w' → (∀ k, k ∈ blks A' → k ∈ blks A ∨ k = w.heap.size) → w.heap.size ≤ w'.heap.size → wpList Tryz.prog ops Q rest (a.put o.dst (.slice A' (n + m) cap)) w') :
  wpList Tryz.prog ops Q (o :: rest) a w := by
 subst hn hm
 refine wpList_plain hgd fun K hK => ?_
 obtain ⟨A', cap, w', hrun, h2, h3, h4, h5⟩ := run_append_lists w o.type A c hs hown B d ms hB hr hlen
 unfold Oper.wp execOp
 simp only [ho, resolve, invoke, builtin, Sem.run_bind, Sem.run_pure, Result.andThen_ok, List.map_toArray, List.map_cons, List.map_nil, hsv, hx, hrun]
 exact hK _ _ (h A' cap w' h2 h3 h4 h5)
theorem okl_app {w : World} {hs ms : List Ls} (h1 : ∀ j : Nat, j < hs.length → OkL w hs[j]!) (h2 : ∀ j : Nat, j < ms.length → OkL w ms[j]!) : ∀ j : Nat, j < (hs ++ ms).length → OkL w (hs ++ ms)[j]! := by
 intro j hj
 rw [List.length_append] at hj
 by_cases h : j < hs.length
 ·have := h1 j h
  simp only [List.getElem!_eq_getElem?_getD, List.getElem?_append_left h] at this ⊢
  exact this
 ·have := h2 (j - hs.length) (by omega)
  simp only [List.getElem!_eq_getElem?_getD, List.getElem?_append_right (show hs.length ≤ j by omega)] at this ⊢
  exact this
theorem few_pre {V : Int} {cls ms : List (List Int)} (h : fewB V (cls ++ ms) = true) : fewB V cls = true := by
 unfold fewB formB at h ⊢
 simp only [Bool.and_eq_true, decide_eq_true_eq, List.all_eq_true, beq_iff_eq, List.length_append, List.mem_append] at h ⊢
 obtain ⟨h8, ⟨⟨⟨h0, h1⟩, hl⟩, hc⟩⟩ := h
 exact ⟨h8, ⟨⟨⟨h0, h1⟩, by omega⟩, fun c hcc => hc c (.inl hcc)⟩⟩
theorem fc_take {cls ms : List (List Int)} {k : Nat} (hk : k < ms.length) {l : List Int} (hl : ms[k]! = l) (a : Nat → Bool) : (FC (cls ++ ms.take k) a ∧ Sat1 a l) ↔ FC (cls ++ ms.take (k + 1)) a := by
 have e : ms.take (k + 1) = ms.take k ++ [l] := by
  rw [List.take_succ_eq_append_getElem hk, ← hl, List.getElem!_eq_getElem?_getD, List.getElem?_eq_getElem hk]
  rfl
 rw [e, ← List.append_assoc]
 refine ⟨fun h c hc => ?_, fun h => ⟨fun c hc => h c (List.mem_append.2 (.inl hc)), h l (by simp)⟩⟩
 rcases List.mem_append.1 hc with h1 | h1
 ·exact h.1 c h1
 ·rw [List.mem_singleton.1 h1]; exact h.2
set_option maxRecDepth 100000 in
set_option maxHeartbeats 16000000 in
theorem adds_calls (w : World) (vars : Int) (hv : R64 vars) (A : Option Addr) (c : Nat) (hs : List Ls) (h : RdL w A hs) (hA : A = none → hs = [] ∧ c = 0) (hl : hs.length ≤ 1048576) (hlr : ∀ c ∈ hs.map (·.l), Ra c)
  (A1 : Option Addr) (c1 : Nat) (ms : List Ls) (h1 : RdL w A1 ms) (hA1 : A1 = none → ms = [] ∧ c1 = 0) (hl1 : ms.length ≤ 1048576) (hlr1 : ∀ c ∈ ms.map (·.l), Ra c)
  (B : Option Addr) (d : Nat) (us : List Int) (hb : Rd w B us) (hra : Ra us) (hcap : us.length ≤ d) :
  Calls Tryz.prog 3 #[.agg #[.int .i64 vars, .slice A hs.length c], .slice A1 ms.length c1, .slice B us.length d] w fun e w' => e = .returned (.bool true) ∧ Fr [] w w' := by
 obtain ⟨w1, hw1⟩ : ∃ w1, w.alloc (.cells #[.int .i64 vars, .slice A hs.length c] 24) = w1 := ⟨_, rfl⟩
 have HF1 : Hid (Fr [] w w1) := hw1 ▸ box_fr' _ _
 have HS : Hid (At w1 w.heap.size 24 #[.int .i64 vars, .slice A hs.length c]) := hw1 ▸ At.new _ _ _
 have k0 := HS.out.cell 0
 have k1 := HS.out.cell 1
 simp at k0 k1
 have HC0 := Lib.hid k0
 have HC1 := Lib.hid k1
 have HH := Lib.hid (h.keep HF1.out)
 have HH1 := Lib.hid (h1.keep HF1.out)
 have HB := Lib.hid (hb.keep HF1.out)
 have HRA := Lib.hid hra
 have HCAP := Lib.hid hcap
 have HLR := Lib.hid hlr
 have HLR1 := Lib.hid hlr1
 have HAN := Lib.hid hA
 have HAN1 := Lib.hid hA1
 have KAL := Lib.hid (alive_calls w1)
 clear h h1 hb hlr hlr1 hA hA1 hra hcap
 go_enter Tryz.func3, Tryz.ntmps3
 go_upto_region 1 with fail
 clear hw1
 go_wp2_with fail
 refine KAL.out.mono ?_
 clear KAL
 rintro e w2 ⟨rfl, hf2⟩
 have HF2 := Lib.hid hf2
 clear hf2
 have d0 := HF2.out.cellS HC0.out
 have d1 := HF2.out.cellS HC1.out
 clear k0 k1
 go_upto_region 4 with fail
 obtain ⟨w3, hw3⟩ : ∃ w3, w2.alloc (.cells #[.int .i64 vars, .slice none 0 0] 24) = w3 := ⟨_, rfl⟩
 have HF3 : Hid (Fr [] w1 w3) := HF2.out.then_ (hw3 ▸ box_fr' _ _)
 have HS3 : Hid (At w3 w2.heap.size 24 #[.int .i64 vars, .slice none 0 0]) := hw3 ▸ At.new _ _ _
 have hsz3 : w3.heap.size = w2.heap.size + 1 := by rw [← hw3]; simp
 have HSZ3 := Lib.hid hsz3
 clear hsz3
 have g0 := HS3.out.cell 0
 have g1 := HS3.out.cell 1
 simp at g0 g1
 rw [hw3]
 clear hw3 d0 d1
 have d1 := HF3.out.cellS HC1.out
 have HRL := Lib.hid ((HH.out.keep HF3.out).1)
 have HRL1 := Lib.hid ((HH1.out.keep HF3.out).1)
 obtain ⟨m, hm⟩ : ∃ m, hs.length = m := ⟨_, rfl⟩
 have HM := Lib.hid hm
 rw [hm] at d1
 obtain ⟨m1, hm1⟩ : ∃ m1, ms.length = m1 := ⟨_, rfl⟩
 have HM1 := Lib.hid hm1
 clear hm
 try rw [hm1]
 clear hm1
 have hmb : m ≤ 1048576 := by rw [← HM.out]; exact hl
 have hmb1 : m1 ≤ 1048576 := by rw [← HM1.out]; exact hl1
 go_upto_region 5 with (at_builtin; (first
  | (
    refine wpList_append_lists _ rfl _ _ rfl none 0 [] 0 rfl rfl (Lrow.nil _) A c hs m rfl HM.out.symm HAN.out HRL.out (by simp; omega) ?_
    intro A4 cap4 w4 hr4 hf4 hn4 hz4
    have HR4 : Hid (Lrow w4 A4 cap4 hs) := hr4
    have HF4 : Hid (Fr [] w3 w4) := hf4
    have HN4 : Hid (∀ k, k ∈ blks A4 → k = w3.heap.size) := fun k hk => (hn4 k hk).resolve_left (by simp [blks])
    have HZ4 : Hid (w3.heap.size ≤ w4.heap.size) := hz4
    clear hr4 hf4 hn4 hz4)
  | (
    refine wpList_append_lists _ rfl _ _ rfl A4 cap4 hs m rfl HM.out.symm HR4.out A1 c1 ms m1 rfl HM1.out.symm HAN1.out ((HH1.out.keep HF3.out).keep HF4.out).1 (by omega) ?_
    intro A6 cap6 w6 hr6 hf6 hn6 hz6
    have HR6 := Lib.hid hr6
    have hx6 : Fr [] w3 w6 := HF4.out.trans hf6 (fun k hk => .inr (by rw [HN4.out k hk]; omega))
    have HX6 := Lib.hid hx6
    have HN6 := Lib.hid hn6
    have g1' := hx6.cellS g1
    have z1' := (HS3.out.keep hx6).frozen 1
    clear hr6 hf6 hn6 hz6 hx6 g1)))
 obtain ⟨w7, hw7⟩ : ∃ w7, w6.setCell ⟨w2.heap.size, 1, none⟩ (.slice A6 (m + m1) cap6) = w7 := ⟨_, rfl⟩
 have hS7 : At w7 w2.heap.size 24 #[.int .i64 vars, .slice A6 (m + m1) cap6] := hw7 ▸ (HS3.out.keep HX6.out).set_ 1 _
 have g0 := hS7.cell 0
 have g1 := hS7.cell 1
 simp at g0 g1
 have HG0 := Lib.hid g0
 have HG1 := Lib.hid g1
 have HF7 : Hid (Fr [] w1 w7) := hw7 ▸ (HF3.out.then_ HX6.out).setCell (.inr HF2.out.size) _
 have hL7 : Lrow w7 A6 cap6 (hs ++ ms) := hw7 ▸ HR6.out.fr (S := [w2.heap.size]) ((Fr.refl [w2.heap.size] w6).setCell (.inl (by simp)) _) (fun k hk hm => by
  have h1 : k = w2.heap.size := by simpa using hm
  have h2 := HSZ3.out
  have h3 := HZ4.out
  rcases HN6.out k hk with h5 | h5
  ·have := HN4.out k h5
   omega
  ·omega)
 rw [hw7]
 clear hw7 d1 g1' z1'
 obtain ⟨G, hG⟩ : ∃ G : List Ls, hs ++ ms = G := ⟨_, rfl⟩
 have hGm : G.map (·.l) = hs.map (·.l) ++ ms.map (·.l) := by rw [← hG]; simp
 have hGl : G.length = m + m1 := by rw [← hG, ← HM.out, ← HM1.out]; simp
 rw [hG] at hL7
 have hRG : RdL w7 A6 G := hL7.rdl (by
  rw [← hG]
  exact okl_app (HH.out.keep HF7.out).2 (HH1.out.keep HF7.out).2)
 have HRG := Lib.hid hRG
 have HGM := Lib.hid hGm
 have HGL := Lib.hid hGl
 clear hG hS7 hRG hGm hGl hL7 HRL HRL1 HR4 HF4 HN4 HZ4 HR6 HX6 HN6 HSZ3 HS3 HF3 HS
 have k0 := HF7.out.cellS HC0.out
 have KG := few_calls w7 vars A6 cap6 G (fun _ => HRG.out) (by rw [HGL.out]; omega)
 obtain ⟨gb, hgb⟩ : ∃ gb, fewB vars (G.map (·.l)) = gb := ⟨_, rfl⟩
 rw [hgb, HGL.out] at KG
 have HGB := Lib.hid hgb
 have KG := Lib.hid KG
 clear hgb
 cases gb with
 | false =>
  go_wp2_with fail
  refine KG.out.mono ?_
  clear KG
  rintro e w8 ⟨rfl, hf8⟩
  have HF8 := Lib.hid (HF7.out.then_ hf8)
  clear hf8
  go_wp2_with fail
  go_ret
  exact ⟨rfl, HF1.out.then_ HF8.out⟩
 | true =>
  go_wp2_with fail
  refine KG.out.mono ?_
  clear KG
  rintro e w8 ⟨rfl, hf8⟩
  have HG0 := Lib.hid (hf8.cellS HG0.out)
  have HG1 := Lib.hid (hf8.cellS HG1.out)
  have HRG := Lib.hid (HRG.out.keep hf8)
  have HF8 := Lib.hid (HF7.out.then_ hf8)
  clear hf8 g0 g1 k0
  have k0 := HF8.out.cellS HC0.out
  have KC := rcheck_calls w8 vars B d us (HB.out.keep HF8.out) HRA.out
  obtain ⟨ck, hck⟩ : ∃ k, chkF vars us = k := ⟨_, rfl⟩
  rw [hck] at KC
  have KC := Lib.hid KC
  have HCK := Lib.hid hck
  clear hck
  by_cases hc0 : ck = 0
  ·have b1 : (ck != 0) = false := by simp [hc0]
   go_wp2_with fail
   refine KC.out.mono ?_
   clear KC
   rintro e w9 ⟨rfl, rfl⟩
   have hvn : 0 ≤ vars ∧ vars ≤ 8 := by
    have := HGB.out
    unfold fewB formB at this
    simp only [Bool.and_eq_true, decide_eq_true_eq] at this
    have h1 := this.2.1.1.1
    have h2 := this.1
    omega
   obtain ⟨V, rfl⟩ : ∃ V : Nat, vars = (V : Int) := ⟨vars.toNat, by omega⟩
   have hGB := HGB.out
   rw [HGM.out] at hGB
   obtain ⟨f1, -, -, -, f5, f6⟩ := few_laid HLR.out (few_pre hGB)
   have hGR : ∀ c ∈ G.map (·.l), Ra c := by
    rw [HGM.out]
    intro c hc
    rcases List.mem_append.1 hc with h | h
    ·exact HLR.out c h
    ·exact HLR1.out c h
   obtain ⟨-, -, e3, e4, -, -⟩ := few_laid hGR HGB.out
   have HMC : Hid (∀ c ∈ ms.map (·.l), chkF (V : Int) c = 0) := fun c hc => e3 c (by rw [HGM.out]; exact List.mem_append.2 (.inr hc))
   have HGI := Lib.hid e4
   have u1 : us.length ≤ 1024 := by
    have := HCK.out
    unfold chkF at this
    split at this <;> omega
   have HU := Lib.hid (chk_in (by omega : V ≤ 262143) HRA.out (HCK.out.trans hc0))
   clear hGR e3 e4 hGB
   have KL := laid_calls w8 (V : Int) hv A c hs (HH.out.keep HF8.out) (by omega)
   obtain ⟨RES, hRES⟩ : ∃ RES, Sv.layN (hs.map (·.l)) (Sv.new (V : Int)) = RES := ⟨_, rfl⟩
   rw [hRES, HM.out] at KL
   rw [hRES] at f5 f6
   have KL := Lib.hid KL
   obtain ⟨S0, b0⟩ := RES
   simp only at f5 f6
   subst f5
   have HK0 := Lib.hid f6
   clear f6 hRES k0 b1
   have d0 := HF8.out.cellS HC0.out
   have d1 := HF8.out.cellS HC1.out
   rw [HM.out] at d1
   go_upto_region 7 with fail
   go_wp2_with fail
   refine KL.out.mono ?_
   clear KL d0 d1
   rintro e w10 ⟨L1, rfl, o1⟩
   have HO1 := Lib.hid o1
   clear o1
   have KS := HO1.out.tells HK0.out f1 (by omega) (by omega) B d us (HO1.out.far_old (HB.out.keep HF8.out)) HRA.out HCAP.out (by omega) HU.out
   have KS := Lib.hid KS
   go_upto_region 8 with fail
   go_wp2_with fail
   refine KS.out.mono ?_
   clear KS
   rintro e w11 ⟨S1, r1, q1, -, rfl, L2, a2, o2⟩
   obtain ⟨a, ha⟩ : ∃ a, L1.a = a := ⟨_, rfl⟩
   have HK1 := Lib.hid q1.1
   have HO2 := Lib.hid o2
   have HA2 := Lib.hid (a2.trans ha)
   rw [ha]
   clear q1 o2 a2 ha
   have HK1 : Hid (Sv.Kept (FC (hs.map (·.l) ++ (ms.map (·.l)).take 0)) V (68722098186 + 2 * 0) (68723146760 + 0) S1) := (HK1.out.iff (fun x => by rw [List.take_zero, List.append_nil])).up (by omega) (by omega)
   go_upto_region 9 with fail
   go_wp2_with fail
   go_loopg [9, 10] m1 (fun gk x9 x10 wr => ∃ (k : Nat) (L : SvL) (S : Sv), k + gk = m1 ∧ x9 = .bool true ∧ x10 = .int .i64 k ∧ Hid (L.a = a) ∧ Hid (Own w8 wr L S) ∧ Hid (Sv.Kept (FC (hs.map (·.l) ++ (ms.map (·.l)).take k)) V (68722098186 + 2 * k) (68723146760 + k) S))
   case atStart => exact ⟨0, L2, S1, by omega, rfl, rfl, HA2, HO2, HK1⟩
   case round =>
    clear HA2 HO2 HK1
    obtain ⟨k, L, S, hk, rfl, rfl, HLA, HOW, HKP⟩ := hrel
    have HK := Lib.hid hk
    have hkn : k ≤ m1 := by omega
    clear hk
    by_cases hlt : k < m1
    ·obtain ⟨b, o, Bk, dk, lk, hA, hx, cx, ok⟩ := HH1.out.one (by rw [HM1.out]; exact hlt)
     subst hA
     have e2 := HOW.out.fr.cellS (HF8.out.cellS cx)
     have hlti : (k : Int) < (m1 : Int) := by omega
     have hml : k < (ms.map (·.l)).length := by rw [List.length_map, HM1.out]; exact hlt
     have hmk : (ms.map (·.l))[k]! = lk := by
      have h0 := hx.out
      have hk2 : k < ms.length := by rw [HM1.out]; exact hlt
      rw [List.getElem!_eq_getElem?_getD, List.getElem?_eq_getElem hk2, Option.getD_some] at h0
      rw [List.getElem!_eq_getElem?_getD, List.getElem?_map, List.getElem?_eq_getElem hk2, Option.map_some, Option.getD_some, h0]
     have hck2 : chkF (V : Int) lk = 0 := HMC.out lk (by rw [← hmk, List.getElem!_eq_getElem?_getD, List.getElem?_eq_getElem hml, Option.getD_some]; exact List.getElem_mem hml)
     have KA := HOW.out.add HKP.out.inv.ok Bk dk lk (HOW.out.far_old (ok.keep HF8.out).1) ok.2.1 (fun h => (ok.2.2.2 h).2) (by have := HKP.out.list; omega) (by have := HKP.out.used; omega)
     rw [addF_snd2, HKP.out.vars, hck2, HLA.out] at KA
     have KA := Lib.hid KA
     have HK2 : Hid (Sv.Kept (FC (hs.map (·.l) ++ (ms.map (·.l)).take (k + 1))) V (68722098186 + 2 * k) (68723146760 + (k + 1)) (S.addF lk).1) :=
      ((HKP.out.addF ok.2.1 (by have := HKP.out.list; omega) (by rw [HKP.out.vars]; exact hck2)).iff (fc_take hml hmk)).up (Nat.le_refl _) (by omega)
     clear hml hmk hck2 ok cx hx
     by_cases he : k % 2 = 0
     ·have hb : ((k : Int).tmod 2 == 0) = true := by
       rw [Int.tmod_eq_emod_of_nonneg (by omega), beq_iff_eq]
       omega
      go_wp2_with fail
      refine KA.out.mono ?_
      clear KA
      rintro e w12 ⟨rfl, L4, a4, o4⟩
      have HA4 := Lib.hid a4
      have HO4 := Lib.hid o4
      have KS := o4.tells HK2.out f1 (by omega) (by omega) none 0 [] (o4.far_old (fun h0 => by cases h0)) (fun x hx => by cases hx) (by simp) (by simp) (fun x hx => by cases hx)
      rw [List.length_nil, a4] at KS
      have KS := Lib.hid KS
      clear a4 o4 e2
      go_wp2_with fail
      refine KS.out.mono ?_
      clear KS
      rintro e w13 ⟨S3, r3, q3, -, rfl, L5, a5, o5⟩
      have HA5 := Lib.hid a5
      have HO5 := Lib.hid o5
      have HK3 := Lib.hid (q3.1.up (U' := 68722098186 + 2 * (k + 1)) (V' := 68723146760 + (k + 1)) (by omega) (by omega))
      clear q3 a5 o5
      go_wp2_with fail
      go_roundg (gk - 1)
      case measure => have := HK.out; omega
      case rel => exact ⟨k + 1, L5, S3, by have := HK.out; omega, by go_num, by go_num, HA5, HO5, HK3⟩
     ·have hb : ((k : Int).tmod 2 == 0) = false := by
       rw [Int.tmod_eq_emod_of_nonneg (by omega), beq_eq_false_iff_ne]
       omega
      go_wp2_with fail
      refine KA.out.mono ?_
      clear KA
      rintro e w12 ⟨rfl, L4, a4, o4⟩
      have HA4 := Lib.hid a4
      have HO4 := Lib.hid o4
      have HK3 := Lib.hid (HK2.out.up (U' := 68722098186 + 2 * (k + 1)) (V' := 68723146760 + (k + 1)) (by omega) (by omega))
      clear a4 o4 e2
      go_wp2_with fail
      go_roundg (gk - 1)
      case measure => have := HK.out; omega
      case rel => exact ⟨k + 1, L4, _, by have := HK.out; omega, by go_num, by go_num, HA4, HO4, HK3⟩
    ·have hkm : k = m1 := by omega
     subst hkm
     have HKG : Hid (Sv.Kept (FC (G.map (·.l))) V (68722098186 + 2 * k) (68723146760 + k) S) := HKP.out.iff (fun x => by rw [HGM.out, List.take_of_length_le (by rw [List.length_map, HM1.out]; exact Nat.le_refl _)])
     have hlti : ¬ (k : Int) < (k : Int) := by omega
     have o4' := HOW.out.keep (Fr.refl [] wr).drew
     have KS := o4'.tells HKG.out f1 (by omega) (by omega) B d us (o4'.far_old (HB.out.keep HF8.out)) HRA.out HCAP.out (by omega) HU.out
     rw [HLA.out] at KS
     have KS := Lib.hid KS
     clear o4'
     go_upto_region 15 with fail
     refine wp_region_noPanic ?_
     refine wp_region_C (fun W : World => Fr [] w8 W) 8 (by kernel_rfl) (HOW.out.fr.drew) (fun hT0 => ?_)
     refine wpAnyC_take0 (i := 0) (oi := ?oizr15u1) (v := ?vzr15u1) ?hizr15u1 (by kernel_rfl) (by kernel_rfl) (by kernel_rfl) (by kernel_rfl) ?hQzr15u1 ?hwzr15u1 ?hyzr15u1 hT0 ?_
     case hizr15u1 => (simp only [List.getElem?_toArray, List.getElem?_cons_zero]; rfl)
     case hQzr15u1 => exact fun _ _ _ h => h
     case hwzr15u1 => rfl
     case hyzr15u1 => (intro w; go_simp <;> with_reducible rfl)
     try simp only [Act.put, List.setIfInBounds_toArray, List.set_cons_zero, List.set_cons_succ]
     refine wpAnyC_take0 (i := 1) (oi := ?oizr15u2) (v := ?vzr15u2) ?hizr15u2 (by kernel_rfl) (by kernel_rfl) (by kernel_rfl) (by kernel_rfl) ?hQzr15u2 ?hwzr15u2 ?hyzr15u2 (hT0.more 0) ?_
     case hizr15u2 => (simp only [List.getElem?_toArray, List.getElem?_cons_succ, List.getElem?_cons_zero]; rfl)
     case hQzr15u2 => exact fun _ _ _ h => h
     case hwzr15u2 => rfl
     case hyzr15u2 => (intro w; go_simp <;> with_reducible rfl)
     try simp only [Act.put, List.setIfInBounds_toArray, List.set_cons_zero, List.set_cons_succ]
     refine wpAnyC_take0 (i := 2) (oi := ?oizr15u3) (v := ?vzr15u3) ?hizr15u3 (by kernel_rfl) (by kernel_rfl) (by kernel_rfl) (by kernel_rfl) ?hQzr15u3 ?hwzr15u3 ?hyzr15u3 ((hT0.more 0).more 1) ?_
     case hizr15u3 => (simp only [List.getElem?_toArray, List.getElem?_cons_succ, List.getElem?_cons_zero]; rfl)
     case hQzr15u3 => exact fun _ _ _ h => h
     case hwzr15u3 => rfl
     case hyzr15u3 => (intro w; go_simp <;> with_reducible rfl)
     try simp only [Act.put, List.setIfInBounds_toArray, List.set_cons_zero, List.set_cons_succ]
     refine wpAnyC_take (i := 3) (oi := ?oizr15u4) (v := ?vzr15u4) [3, 8] ?hizr15u4 (by kernel_rfl) (by kernel_rfl) (by kernel_rfl) (by kernel_rfl) ?hQzr15u4 (.inl ⟨?hwzr15u4, ?hyzr15u4⟩) ((((hT0.more 0).more 1).more 2).resolve_left (by decide)) ?_
     case hizr15u4 => (simp only [List.getElem?_toArray, List.getElem?_cons_succ, List.getElem?_cons_zero]; rfl)
     case hQzr15u4 => exact fun _ _ _ h => h
     case hwzr15u4 => rfl
     case hyzr15u4 => (intro w hSw; (have z0 := hSw.cellS HG0.out; have z1 := hSw.cellS HG1.out); go_simp <;> with_reducible rfl)
     try simp only [Act.put, List.setIfInBounds_toArray, List.set_cons_zero, List.set_cons_succ]
     refine wpAnyC_take0 (i := 4) (oi := ?oizr15u5) (v := ?vzr15u5) ?hizr15u5 (by kernel_rfl) (by kernel_rfl) (by kernel_rfl) (by kernel_rfl) ?hQzr15u5 ?hwzr15u5 ?hyzr15u5 ((((hT0.more 0).more 1).more 2).more 3) ?_
     case hizr15u5 => (simp only [List.getElem?_toArray, List.getElem?_cons_succ, List.getElem?_cons_zero]; rfl)
     case hQzr15u5 => exact fun _ _ _ h => h
     case hwzr15u5 => rfl
     case hyzr15u5 => (intro w; go_simp <;> with_reducible rfl)
     try simp only [Act.put, List.setIfInBounds_toArray, List.set_cons_zero, List.set_cons_succ]
     refine wpAnyC_take0 (i := 5) (oi := ?oizr15u6) (v := ?vzr15u6) ?hizr15u6 (by kernel_rfl) (by kernel_rfl) (by kernel_rfl) (by kernel_rfl) ?hQzr15u6 ?hwzr15u6 ?hyzr15u6 (((((hT0.more 0).more 1).more 2).more 3).more 4) ?_
     case hizr15u6 => (simp only [List.getElem?_toArray, List.getElem?_cons_succ, List.getElem?_cons_zero]; rfl)
     case hQzr15u6 => exact fun _ _ _ h => h
     case hwzr15u6 => rfl
     case hyzr15u6 => (intro w; go_simp <;> with_reducible rfl)
     try simp only [Act.put, List.setIfInBounds_toArray, List.set_cons_zero, List.set_cons_succ]
     refine wpAnyC_take0 (i := 7) (oi := ?oizr15u7) (v := ?vzr15u7) ?hizr15u7 (by kernel_rfl) (by kernel_rfl) (by kernel_rfl) (by kernel_rfl) ?hQzr15u7 ?hwzr15u7 ?hyzr15u7 ((((((hT0.more 0).more 1).more 2).more 3).more 4).more 5) ?_
     case hizr15u7 => (simp only [List.getElem?_toArray, List.getElem?_cons_succ, List.getElem?_cons_zero]; rfl)
     case hQzr15u7 => exact fun _ _ _ h => h
     case hwzr15u7 => rfl
     case hyzr15u7 => (intro w; go_simp <;> with_reducible rfl)
     try simp only [Act.put, List.setIfInBounds_toArray, List.set_cons_zero, List.set_cons_succ]
     have hSx := (((((((hT0.more 0).more 1).more 2).more 3).more 4).more 5).more 7).resolve_left (by decide)
     refine wpAnyC_ready (rs := [6]) (by kernel_rfl) (by simp) ?_
     refine ReadyC.cons (o := ?ozr15u8) ?hozr15u8 ?hstepzr15u8 ?_
     case hozr15u8 => (simp only [List.getElem?_toArray, List.getElem?_cons_succ, List.getElem?_cons_zero]; rfl)
     case hstepzr15u8 =>
      intro K hK
      (go_simp; refine KS.out.mono ?_; rintro e w15 ⟨S4, r2, q2, -, rfl, L5, a5, o5⟩; dsimp only)
      refine hK.out _ _ (.inr ?_) (fun hHeld => ?_)
      ·exact o5.fr
      have hT8 := hHeld
      clear hHeld
      clear hK K
      try simp only [Act.put, List.setIfInBounds_toArray, List.set_cons_zero, List.set_cons_succ]
      have hSx := hT8.resolve_left (by decide)
      refine wpAnyC_ready (rs := [8]) (by kernel_rfl) (by simp) ?_
      refine ReadyC.cons (o := ?ozr15u9) ?hozr15u9 ?hstepzr15u9 ?_
      case hozr15u9 => (simp only [List.getElem?_toArray, List.getElem?_cons_succ, List.getElem?_cons_zero]; rfl)
      case hstepzr15u9 =>
       intro K hK
       (have KR := right_calls w15 L5 S4 o5.sv V A6 cap6 G (HRG.out.keep o5.fr) (by rw [HGL.out]; omega) B d us (HB.out.keep (HF8.out.then_ o5.fr)) HRA.out (by omega) r2 (EndQ_rt f1 HGI.out HU.out q2); rw [HGL.out, a5] at KR; go_simp; refine KR.mono ?_; rintro e w16 ⟨rfl, hf16⟩; dsimp only)
       refine hK.out _ _ (.inl rfl) (fun hHeld => ?_)
       have hT9 := hHeld
       clear hHeld
       clear hK K
       try simp only [Act.put, List.setIfInBounds_toArray, List.set_cons_zero, List.set_cons_succ]
       refine wpAnyC_take0 (i := 9) (oi := ?oizr15u10) (v := ?vzr15u10) ?hizr15u10 (by kernel_rfl) (by kernel_rfl) (by kernel_rfl) (by kernel_rfl) ?hQzr15u10 ?hwzr15u10 ?hyzr15u10 hT9 ?_
       case hizr15u10 => (simp only [List.getElem?_toArray, List.getElem?_cons_succ, List.getElem?_cons_zero]; rfl)
       case hQzr15u10 => exact fun _ _ _ h => h
       case hwzr15u10 => rfl
       case hyzr15u10 => (intro w; go_simp <;> with_reducible rfl)
       try simp only [Act.put, List.setIfInBounds_toArray, List.set_cons_zero, List.set_cons_succ]
       refine wpAnyC_ready (rs := [10]) (by kernel_rfl) (by simp) ?_
       refine ReadyC.cons (o := ?ozr15u11) ?hozr15u11 ?hstepzr15u11 ?_
       case hozr15u11 => (simp only [List.getElem?_toArray, List.getElem?_cons_succ, List.getElem?_cons_zero]; rfl)
       case hstepzr15u11 =>
        intro K hK
        go_simp
        refine hK.out _ _ (.inl rfl) (fun hHeld => ?_)
        have hT11 := hHeld
        clear hHeld
        clear hK K
        try simp only [Act.put, List.setIfInBounds_toArray, List.set_cons_zero, List.set_cons_succ]
        refine wpAnyC_done (by kernel_rfl) ?_ _
        refine NoPanic.normal ?_
        go_wp2_with fail
        first
         | (go_ret; exact ⟨rfl, HF1.out.then_ (HF8.out.then_ (o5.fr.then_ hf16))⟩)
         | (go_ret2; exact ⟨rfl, HF1.out.then_ (HF8.out.then_ (o5.fr.then_ hf16))⟩)
       exact ReadyC.nil
      exact ReadyC.nil
     exact ReadyC.nil
  ·have b1 : (ck != 0) = true := by simp [hc0]
   go_wp2_with fail
   refine KC.out.mono ?_
   clear KC
   rintro e w9 ⟨rfl, rfl⟩
   go_wp2_with fail
   go_ret
   exact ⟨rfl, HF1.out.then_ HF8.out⟩
end Go.Proofs.YtdpigdlknmcmlaaGreat
namespace Go.Proofs.YtdpigdlknmcmlaaGreat
open Go.ChangeShapes Go.WideShapes Go.ChangeAt Go.RowKit Go.Deep Go.Joins
section
variable {H : Type} {enc : TypeId × Value → H} {w : World} {base : Nat} {spare : Nat → Bool} {held : Bool}
theorem lists_small2 {n : Nat} {cs : List Value} {x : DataW H × List MemPlace} (h : DataW.trod enc Tryz.prog w base spare held n 22 cs = some x) (hb : Rows.uptoBulk x.1 ≤ 1048576) :
  ∃ (A : Option Addr) (c : Nat) (hs : List Ls), cs = [.slice A hs.length c] ∧ RdL w A hs ∧ hs.length ≤ Rows.uptoBulk x.1 ∧ (A = none → hs = [] ∧ c = 0) := by
 obtain ⟨A, c, hs, e1, h1, h2, -⟩ := lists_small h hb
 refine ⟨A, c, hs, e1, h1, h2, fun hA => ?_⟩
 rcases open_slice1 Tryz.underlying22 cellsOf_ints h with ⟨h0, _⟩ | ⟨a, len, cap, m, n', V, D, Pl, h0, _⟩
 ·rw [e1] at h0
  simp only [List.cons.injEq, Value.slice.injEq, and_true] at h0
  exact ⟨List.eq_nil_of_length_eq_zero h0.2.1, h0.2.2⟩
 ·rw [e1] at h0
  simp only [List.cons.injEq, Value.slice.injEq, and_true] at h0
  rw [hA] at h0
  cases h0.1
theorem formula_small2 {n : Nat} {cs : List Value} {x : DataW H × List MemPlace} (h : DataW.trod enc Tryz.prog w base spare held n 24 cs = some x) (hb : Rows.uptoBulk x.1 ≤ 1048576) :
  ∃ (v : Int) (A : Option Addr) (c : Nat) (hs : List Ls), cs = [.int .i64 v, .slice A hs.length c] ∧ R64 v ∧ RdL w A hs ∧ hs.length ≤ 1048576 ∧ (A = none → hs = [] ∧ c = 0) := by
 obtain ⟨y0, y1, n2, hxd, hlen, g0, g1⟩ := trod_struct2 Tryz.underlying24 h
 rw [cellsOf_formula] at hlen
 rw [hxd] at hb
 simp only [Rows.uptoBulk, Rows.uptoBulkAll] at hb
 simp only [cellsOf_int, cellsOf_lists] at g0 g1
 match cs, hlen with
 | [v0, v1], _ =>
  simp only [List.drop_zero, List.drop_succ_cons, List.take_succ_cons, List.take_zero] at g0 g1
  obtain ⟨z0, e0, _, w0⟩ := DataW.trod_int Tryz.underlying3 g0
  obtain ⟨A, c, hs, e1, h1, h2, h3⟩ := lists_small2 g1 (by omega)
  simp only [List.cons.injEq, and_true] at e0 e1
  subst e0 e1
  obtain ⟨r1, r2⟩ := Go.Joins.in64_of_wf w0
  exact ⟨z0, A, c, hs, rfl, ⟨r1, r2⟩, h1, by omega, h3⟩
end
end Go.Proofs.YtdpigdlknmcmlaaGreat
